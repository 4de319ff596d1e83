/-
  Proved here: culvertlaw25's plain: the shift, the segment cut and without Syn, and whether it can go over.
-/
import Derived.Test.YtmcaknmdalbpoaaShF
import Derived.Test.YtmcaknmdalbpoaaMv
namespace Go.Proofs.Ytmcaknmdalbpoaa
set_option maxRecDepth 16000
open Go.ChangeShapes Go.WideShapes Go.ChangeAt Go.RowKit Go.Cul Go.Loose
set_option linter.unusedVariables false
attribute [local go_sem] Loose.Still Loose.Upon Loose.vUpon

def clr2 (f : Int) : Int := f - 2 * (f / 2 % 2)
theorem anot2 (f : Int) (h : 0 ≤ f ∧ f ≤ 255) : bits BinOp.andNot IntKind.u8 f 2 = clr2 f := by
  obtain ⟨n, rfl⟩ := Int.eq_ofNat_of_zero_le h.1
  have hn : n < 256 := by omega
  clear h; revert n; decide +kernel
theorem clr2_bd {f : Int} (h : 0 ≤ f ∧ f ≤ 255) : 0 ≤ clr2 f ∧ clr2 f ≤ 255 := by unfold clr2; omega
/-- The segment that goes over. -/
def plG (g : Sg) : Sg := { fwG g with f := clr2 g.f }
def plB (x : Shf) (g : Sg) : Bool := x.may && decide ((oput (fwO g.os)).2 = 0)
theorem plG_ok {g : Sg} (h : g.ok) : (plG g).ok := ⟨h.sp, h.dp, h.seq, h.ack, clr2_bd h.f, h.win, h.urg, fwO_byt h.os, h.data.take _⟩
theorem seg_one (g : Sg) (a : Option Addr) (n c : Nat) (b : Option Addr) (m d : Nat) : (g.cells (.slice a n c) (.slice b m d)).all (·.oneCell') = true := by simp [Value.oneCell']
theorem shf_one (x : Shf) : x.cells.all (·.oneCell') = true := by simp [Value.oneCell']
theorem seg_sz (g : Sg) (u v : Value) : (Try.prog.info? 29).map (·.size) = some (g.cells u v).size := by kernel_rfl
theorem shf_sz (x : Shf) : (Try.prog.info? 24).map (·.size) = some x.cells.size := by kernel_rfl

set_option maxHeartbeats 2000000 in
set_option maxRecDepth 100000 in
theorem plain25_any (x : Shf) (g : Sg) (hg : g.ok) (vo vd : Value) (w0 w : World) (hx0 : Ext w0 w) (hvo : RdO w0 vo g.os) (hvd : Rd .u8 w0 vd g.data) :
    Calls Try.prog 7 #[.agg x.cells, .agg (g.cells vo vd)] w fun e w' => ∃ uo ud, e = .returned (.tuple #[.agg x.cells, .agg ((plG g).cells uo ud), .bool (plB x g)]) ∧ RoW w0 w' w.heap.size uo (plG g).os ∧ Rd .u8 w0 ud (plG g).data ∧ Ext w w' := by
  obtain ⟨a, cap, rfl⟩ := hvo.shape
  obtain ⟨ad, nd, cd, rfl⟩ := hvd.shape
  have HVO := Lib.hid hvo
  have HVD := Lib.hid hvd
  clear hvo hvd
  go_enter Try.func7, Try.ntmps7
  go_upto_region 1 with (fail)
  generalize hW : (((w.alloc _).alloc _).alloc _).alloc _ = W
  have hxW : Ext w W := by rw [← hW]; exact (((Ext.new w _).al _).al _).al _
  have k0 : W.heap[w.heap.size]? = some (.cells x.cells 24) := by rw [← hW]; simp only [heap_alloc_at, World.size_alloc]; repeat (first | rfl | rw [if_pos (by first | trivial | omega)] | rw [if_neg (by omega)])
  have k1 : W.heap[w.heap.size + 1]? = some (.cells (g.cells (.slice a g.os.length cap) (.slice ad nd cd)) 29) := by rw [← hW]; simp only [heap_alloc_at, World.size_alloc]; repeat (first | rfl | rw [if_pos (by first | trivial | omega)] | rw [if_neg (by omega)])
  have k2 : W.heap[w.heap.size + 1 + 1]? = some (.cells (Shf.cells ⟨0, 0, false, 0, 0, 0⟩) 24) := by rw [← hW]; simp only [heap_alloc_at, World.size_alloc]; repeat (first | rfl | rw [if_pos (by first | trivial | omega)] | rw [if_neg (by omega)])
  have k3 : W.heap[w.heap.size + 1 + 1 + 1]? = some (.cells (Sg.none.cells (.slice none 0 0) (.slice none 0 0)) 29) := by rw [← hW]; simp only [heap_alloc_at, World.size_alloc]; repeat (first | rfl | rw [if_pos (by first | trivial | omega)] | rw [if_neg (by omega)])
  clear hW
  have hWs := lt_of_block k3
  go_wp2_with (refine wpList_load_bigG 29 (w.heap.size + 1) _ _ _ rfl k1 rfl Try.underlying29 rfl (seg_sz _ _ _) ?_)
  refine (few25_any g hg _ _ w0 _ (hx0.tr hxW) HVO.out HVD.out).mono ?_
  rintro e w1 ⟨uo, ud, rfl, hmo, hud, hx1⟩
  obtain ⟨ao, co, rfl, -, -⟩ := hmo.shape
  obtain ⟨au, nu, cu, rfl⟩ := hud.shape
  replace k0 := hx1.block k0
  replace k1 := hx1.block k1
  replace k2 := hx1.block k2
  replace k3 := hx1.block k3
  have hxw := hxW.tr hx1
  replace hmo := hmo.lowS (base' := w.heap.size + 4) (by omega)
  clear hx1 hxW
  go_upto_region 2 with (refine wpList_put_row 29 (w.heap.size + 1) _ ((fwG g).cells (.slice ao (fwG g).os.length co) (.slice au nu cu)) _ rfl rfl k1 (seg_sz _ _ _) rfl (seg_one _ _ _ _ _ _ _) ?_; intro W2 j1 hm2)
  replace k0 := hm2.keep k0 (by omega)
  replace k2 := hm2.keep k2 (by omega)
  replace k3 := hm2.keep k3 (by omega)
  have hxw2 := hm2.ext hxw (fun k hk => by omega)
  replace hmo := hmo.keep (Keep.ofMvs hm2 (fun k hk => by omega))
  clear k1 hm2 hxw
  have e4 := cell_blk j1 4
  simp at e4
  have hf2 : bits BinOp.andNot IntKind.u8 (fwG g).f 2 = clr2 g.f := anot2 g.f hg.f
  have he4 : W2.cell? ⟨w.heap.size + 1, 4, none⟩ = some (.int .u8 (fwG g).f) := e4
  go_upto_region 3 with (refine wpList_put_cell 5 (w.heap.size + 1) 4 _ _ (.int .u8 (clr2 g.f)) rfl rfl j1 (by kernel_rfl) (by simp) rfl rfl ?_; intro W3 j3 hm3)
  have j4 : W3.heap[w.heap.size + 1]? = some (.cells ((plG g).cells (.slice ao (fwG g).os.length co) (.slice au nu cu)) 29) := j3
  replace k0 := hm3.keep k0 (by omega)
  replace k2 := hm3.keep k2 (by omega)
  replace k3 := hm3.keep k3 (by omega)
  have hxw3 := hm3.ext hxw2 (fun k hk => by omega)
  replace hmo := hmo.keep (Keep.ofMvs hm3 (fun k hk => by omega))
  have hro := (hmo.mio (by have := hx0.size; omega) (hx0.tr hxw3)).rdo
  clear hm3 hxw2 e4 he4 hf2 j3 j1
  have e7 := cell_blk j4 7
  simp at e7
  go_wp2_with fail
  refine (oput_any _ _ _ hro (fwG_ok hg).os).mono ?_
  rintro e w4 ⟨u4, rfl, hu4, hx4⟩
  obtain ⟨a4, n4, c4, rfl⟩ := hu4.rd.shape
  replace k0 := hx4.block k0
  have k1 := hx4.block j4
  replace k2 := hx4.block k2
  replace k3 := hx4.block k3
  have hxw4 := hxw3.tr hx4
  replace hmo := hmo.keep (Keep.ofExt hx4)
  have hPB : Hid (plB x g = (x.may && decide ((oput (fwG g).os).2 = 0))) := rfl
  clear hro hu4 hx4 j4 e7 hxw3
  generalize (oput (fwG g).os).2 = E at *
  generalize (oput (fwG g).os).1 = P1 at *
  go_upto_region 4 with (fail)
  have hp := hmo
  clear hp
  rcases hM : x.may with _ | _
  · have hmb := fun (W : World) => smay_any x W
    simp only [hM] at hmb
    have HMB := Lib.hid hmb
    clear hmb
    refine wp_region_mv 10 [(8, w.heap.size + 1 + 1), (9, w.heap.size + 1 + 1 + 1)] [(3, Loose.is (.bool false)), (8, isB (w.heap.size + 1 + 1) x.cells 24), (9, isB (w.heap.size + 1 + 1 + 1) ((plG g).cells (.slice ao (fwG g).os.length co) (.slice au nu cu)) 29)]
      (lastsM_is (lastsM_blk (by intro j hj; simp at hj; omega) (lastsM_blk (by intro j hj; simp at hj; omega) lastsM_nil))) (by kernel_rfl) (by kernel_rfl) (by kernel_rfl) ?_
    simp only [List.take, List.drop]
    have x0 := cell_blk k0 0
    have x1 := cell_blk k0 1
    have x2 := cell_blk k0 2
    have x3 := cell_blk k0 3
    have x4 := cell_blk k0 4
    have x5 := cell_blk k0 5
    simp at x0 x1 x2 x3 x4 x5
    have e0 := cell_blk k1 0
    have e1 := cell_blk k1 1
    have e2 := cell_blk k1 2
    have e3 := cell_blk k1 3
    have e4 := cell_blk k1 4
    have e5 := cell_blk k1 5
    have e6 := cell_blk k1 6
    have e7 := cell_blk k1 7
    have e8 := cell_blk k1 8
    simp at e0 e1 e2 e3 e4 e5 e6 e7 e8
    iterate 1
      apply LooseT.wpL_none rfl rfl
      · intro w' hw' hn'; have x0 := Mvz.cell hw' x0 (by (repeat (refine notX_cons (by (try dsimp only); omega) ?_)); exact notX_nil _); have x1 := Mvz.cell hw' x1 (by (repeat (refine notX_cons (by (try dsimp only); omega) ?_)); exact notX_nil _); have x2 := Mvz.cell hw' x2 (by (repeat (refine notX_cons (by (try dsimp only); omega) ?_)); exact notX_nil _); have x3 := Mvz.cell hw' x3 (by (repeat (refine notX_cons (by (try dsimp only); omega) ?_)); exact notX_nil _); have x4 := Mvz.cell hw' x4 (by (repeat (refine notX_cons (by (try dsimp only); omega) ?_)); exact notX_nil _); have x5 := Mvz.cell hw' x5 (by (repeat (refine notX_cons (by (try dsimp only); omega) ?_)); exact notX_nil _); go_simp; exact rfl
      intro K hK; go_simp; refine hK _ _ ?_; clear hK K
    iterate 1
      apply LooseT.wpL_none rfl rfl
      · intro w' hw' hn'; have e0 := Mvz.cell hw' e0 (by (repeat (refine notX_cons (by (try dsimp only); omega) ?_)); exact notX_nil _); have e1 := Mvz.cell hw' e1 (by (repeat (refine notX_cons (by (try dsimp only); omega) ?_)); exact notX_nil _); have e2 := Mvz.cell hw' e2 (by (repeat (refine notX_cons (by (try dsimp only); omega) ?_)); exact notX_nil _); have e3 := Mvz.cell hw' e3 (by (repeat (refine notX_cons (by (try dsimp only); omega) ?_)); exact notX_nil _); have e4 := Mvz.cell hw' e4 (by (repeat (refine notX_cons (by (try dsimp only); omega) ?_)); exact notX_nil _); have e5 := Mvz.cell hw' e5 (by (repeat (refine notX_cons (by (try dsimp only); omega) ?_)); exact notX_nil _); have e6 := Mvz.cell hw' e6 (by (repeat (refine notX_cons (by (try dsimp only); omega) ?_)); exact notX_nil _); have e7 := Mvz.cell hw' e7 (by (repeat (refine notX_cons (by (try dsimp only); omega) ?_)); exact notX_nil _); have e8 := Mvz.cell hw' e8 (by (repeat (refine notX_cons (by (try dsimp only); omega) ?_)); exact notX_nil _); go_simp; exact rfl
      intro K hK; go_simp; refine hK _ _ ?_; clear hK K
    iterate 1
      apply LooseT.wpL_none rfl rfl
      · intro w' hw' hn'; have x0 := Mvz.cell hw' x0 (by (repeat (refine notX_cons (by (try dsimp only); omega) ?_)); exact notX_nil _); have x1 := Mvz.cell hw' x1 (by (repeat (refine notX_cons (by (try dsimp only); omega) ?_)); exact notX_nil _); have x2 := Mvz.cell hw' x2 (by (repeat (refine notX_cons (by (try dsimp only); omega) ?_)); exact notX_nil _); have x3 := Mvz.cell hw' x3 (by (repeat (refine notX_cons (by (try dsimp only); omega) ?_)); exact notX_nil _); have x4 := Mvz.cell hw' x4 (by (repeat (refine notX_cons (by (try dsimp only); omega) ?_)); exact notX_nil _); have x5 := Mvz.cell hw' x5 (by (repeat (refine notX_cons (by (try dsimp only); omega) ?_)); exact notX_nil _); go_simp; exact rfl
      intro K hK; go_simp; refine hK _ _ ?_; clear hK K
    clear x0 x1 x2 x3 x4 x5 e0 e1 e2 e3 e4 e5 e6 e7 e8
    apply LooseT.wpL_some rfl rfl
    · intro w' hw' hn'
      go_simp
      refine ⟨Mvz.refl _ _, ?_⟩
      refine ((HMB.out _)).mono ?_
      rintro e w2 ⟨rfl, hx⟩
      exact ⟨_, rfl, Mvz.ofExt hx, rfl⟩
    intro v w' hw' hD' hv
    obtain rfl : v = _ := hv
    clear hw' hD' w'
    intro K hK; go_simp; refine hK _ _ ?_; clear hK K
    iterate 1
      apply LooseT.wpL_none rfl rfl
      · intro w' hw' hn'; go_simp; exact rfl
      intro K hK; go_simp; refine hK _ _ ?_; clear hK K
    iterate 2
      with_reducible refine LooseT.wpL_skip ?_ ?_
      · rfl
      intro K hK; go_simp; refine hK _ _ ?_; clear hK K
    iterate 1
      apply LooseT.wpL_none rfl rfl
      · intro w' hw' hn'; go_simp; exact rfl
      intro K hK; go_simp; refine hK _ _ ?_; clear hK K
    refine wpL_put_rowM 24 _ _ x.cells _ (by simp) rfl rfl rfl k2 (shf_sz x) rfl (shf_one x) ?_
    intro v wz hz hDz hbz K hK
    go_simp
    refine hK _ _ ?_
    clear hK K hbz hDz hz wz
    refine wpL_put_rowM 29 _ _ ((plG g).cells (.slice ao (fwG g).os.length co) (.slice au nu cu)) _ (by simp) rfl rfl rfl k3 (seg_sz _ _ _) rfl (seg_one _ _ _ _ _ _ _) ?_
    intro v wz hz hDz hbz K hK
    go_simp
    refine hK _ _ ?_
    clear hK K hbz hDz hz wz
    refine LooseT.wpL_nil ?_
    intro w5 hw5 hD5
    have q2 : w5.heap[w.heap.size + 1 + 1]? = some (.cells x.cells 24) := hD5 8
    have q3 : w5.heap[w.heap.size + 1 + 1 + 1]? = some (.cells ((plG g).cells (.slice ao (fwG g).os.length co) (.slice au nu cu)) 29) := hD5 9
    have hx5 : Ext w w5 := hw5.mv.ext hxw4 (fun k hk => by obtain ⟨i, hi⟩ := hk; simp at hi; omega)
    have hmo5 := (hmo.keep (Keep.ofMvs hw5.mv (fun k hk => by obtain ⟨i, hi⟩ := hk; simp at hi; omega))).lowS (base' := w.heap.size) (by omega)
    clear hD5 hw5 hmo k0 k1 k2 k3
    apply wpVL_step rfl
    intro K hK
    go_simp
    refine hK _ _ ?_
    clear hK K
    refine wpVL_nil ?_
    try simp only [Act.put]
    go_wp2_with fail
    refine bodyPost_ret (v := .tuple #[.agg x.cells, .agg ((plG g).cells (.slice ao (fwG g).os.length co) (.slice au nu cu)), .bool false]) (results_cct Try.results7 _ rfl rfl (load_blk q2 (P := Try.prog) 24 _ Try.underlying24 rfl (shf_sz x)) (load_blk q3 (P := Try.prog) 29 _ Try.underlying29 rfl (seg_sz _ _ _))) rfl ?_
    exact ⟨_, _, by rw [hPB.out]; simp [hM], hmo5, hud, hx5⟩
  · have hmb := fun (W : World) => smay_any x W
    simp only [hM] at hmb
    have HMB := Lib.hid hmb
    clear hmb
    refine wp_region_mv 10 [(8, w.heap.size + 1 + 1), (9, w.heap.size + 1 + 1 + 1)] [(3, Loose.is (.bool true)), (8, isB (w.heap.size + 1 + 1) x.cells 24), (9, isB (w.heap.size + 1 + 1 + 1) ((plG g).cells (.slice ao (fwG g).os.length co) (.slice au nu cu)) 29)]
      (lastsM_is (lastsM_blk (by intro j hj; simp at hj; omega) (lastsM_blk (by intro j hj; simp at hj; omega) lastsM_nil))) (by kernel_rfl) (by kernel_rfl) (by kernel_rfl) ?_
    simp only [List.take, List.drop]
    have x0 := cell_blk k0 0
    have x1 := cell_blk k0 1
    have x2 := cell_blk k0 2
    have x3 := cell_blk k0 3
    have x4 := cell_blk k0 4
    have x5 := cell_blk k0 5
    simp at x0 x1 x2 x3 x4 x5
    have e0 := cell_blk k1 0
    have e1 := cell_blk k1 1
    have e2 := cell_blk k1 2
    have e3 := cell_blk k1 3
    have e4 := cell_blk k1 4
    have e5 := cell_blk k1 5
    have e6 := cell_blk k1 6
    have e7 := cell_blk k1 7
    have e8 := cell_blk k1 8
    simp at e0 e1 e2 e3 e4 e5 e6 e7 e8
    iterate 1
      apply LooseT.wpL_none rfl rfl
      · intro w' hw' hn'; have x0 := Mvz.cell hw' x0 (by (repeat (refine notX_cons (by (try dsimp only); omega) ?_)); exact notX_nil _); have x1 := Mvz.cell hw' x1 (by (repeat (refine notX_cons (by (try dsimp only); omega) ?_)); exact notX_nil _); have x2 := Mvz.cell hw' x2 (by (repeat (refine notX_cons (by (try dsimp only); omega) ?_)); exact notX_nil _); have x3 := Mvz.cell hw' x3 (by (repeat (refine notX_cons (by (try dsimp only); omega) ?_)); exact notX_nil _); have x4 := Mvz.cell hw' x4 (by (repeat (refine notX_cons (by (try dsimp only); omega) ?_)); exact notX_nil _); have x5 := Mvz.cell hw' x5 (by (repeat (refine notX_cons (by (try dsimp only); omega) ?_)); exact notX_nil _); go_simp; exact rfl
      intro K hK; go_simp; refine hK _ _ ?_; clear hK K
    iterate 1
      apply LooseT.wpL_none rfl rfl
      · intro w' hw' hn'; have e0 := Mvz.cell hw' e0 (by (repeat (refine notX_cons (by (try dsimp only); omega) ?_)); exact notX_nil _); have e1 := Mvz.cell hw' e1 (by (repeat (refine notX_cons (by (try dsimp only); omega) ?_)); exact notX_nil _); have e2 := Mvz.cell hw' e2 (by (repeat (refine notX_cons (by (try dsimp only); omega) ?_)); exact notX_nil _); have e3 := Mvz.cell hw' e3 (by (repeat (refine notX_cons (by (try dsimp only); omega) ?_)); exact notX_nil _); have e4 := Mvz.cell hw' e4 (by (repeat (refine notX_cons (by (try dsimp only); omega) ?_)); exact notX_nil _); have e5 := Mvz.cell hw' e5 (by (repeat (refine notX_cons (by (try dsimp only); omega) ?_)); exact notX_nil _); have e6 := Mvz.cell hw' e6 (by (repeat (refine notX_cons (by (try dsimp only); omega) ?_)); exact notX_nil _); have e7 := Mvz.cell hw' e7 (by (repeat (refine notX_cons (by (try dsimp only); omega) ?_)); exact notX_nil _); have e8 := Mvz.cell hw' e8 (by (repeat (refine notX_cons (by (try dsimp only); omega) ?_)); exact notX_nil _); go_simp; exact rfl
      intro K hK; go_simp; refine hK _ _ ?_; clear hK K
    iterate 1
      apply LooseT.wpL_none rfl rfl
      · intro w' hw' hn'; have x0 := Mvz.cell hw' x0 (by (repeat (refine notX_cons (by (try dsimp only); omega) ?_)); exact notX_nil _); have x1 := Mvz.cell hw' x1 (by (repeat (refine notX_cons (by (try dsimp only); omega) ?_)); exact notX_nil _); have x2 := Mvz.cell hw' x2 (by (repeat (refine notX_cons (by (try dsimp only); omega) ?_)); exact notX_nil _); have x3 := Mvz.cell hw' x3 (by (repeat (refine notX_cons (by (try dsimp only); omega) ?_)); exact notX_nil _); have x4 := Mvz.cell hw' x4 (by (repeat (refine notX_cons (by (try dsimp only); omega) ?_)); exact notX_nil _); have x5 := Mvz.cell hw' x5 (by (repeat (refine notX_cons (by (try dsimp only); omega) ?_)); exact notX_nil _); go_simp; exact rfl
      intro K hK; go_simp; refine hK _ _ ?_; clear hK K
    clear x0 x1 x2 x3 x4 x5 e0 e1 e2 e3 e4 e5 e6 e7 e8
    apply LooseT.wpL_some rfl rfl
    · intro w' hw' hn'
      go_simp
      refine ⟨Mvz.refl _ _, ?_⟩
      refine ((HMB.out _)).mono ?_
      rintro e w2 ⟨rfl, hx⟩
      exact ⟨_, rfl, Mvz.ofExt hx, rfl⟩
    intro v w' hw' hD' hv
    obtain rfl : v = _ := hv
    clear hw' hD' w'
    intro K hK; go_simp; refine hK _ _ ?_; clear hK K
    iterate 1
      apply LooseT.wpL_none rfl rfl
      · intro w' hw' hn'; go_simp; exact rfl
      intro K hK; go_simp; refine hK _ _ ?_; clear hK K
    iterate 2
      apply LooseT.wpL_none rfl rfl
      · intro w' hw' hn'; go_simp; exact rfl
      intro K hK; go_simp; refine hK _ _ ?_; clear hK K
    iterate 1
      apply LooseT.wpL_none rfl rfl
      · intro w' hw' hn'; go_simp; exact rfl
      intro K hK; go_simp; refine hK _ _ ?_; clear hK K
    refine wpL_put_rowM 24 _ _ x.cells _ (by simp) rfl rfl rfl k2 (shf_sz x) rfl (shf_one x) ?_
    intro v wz hz hDz hbz K hK
    go_simp
    refine hK _ _ ?_
    clear hK K hbz hDz hz wz
    refine wpL_put_rowM 29 _ _ ((plG g).cells (.slice ao (fwG g).os.length co) (.slice au nu cu)) _ (by simp) rfl rfl rfl k3 (seg_sz _ _ _) rfl (seg_one _ _ _ _ _ _ _) ?_
    intro v wz hz hDz hbz K hK
    go_simp
    refine hK _ _ ?_
    clear hK K hbz hDz hz wz
    refine LooseT.wpL_nil ?_
    intro w5 hw5 hD5
    have q2 : w5.heap[w.heap.size + 1 + 1]? = some (.cells x.cells 24) := hD5 8
    have q3 : w5.heap[w.heap.size + 1 + 1 + 1]? = some (.cells ((plG g).cells (.slice ao (fwG g).os.length co) (.slice au nu cu)) 29) := hD5 9
    have hx5 : Ext w w5 := hw5.mv.ext hxw4 (fun k hk => by obtain ⟨i, hi⟩ := hk; simp at hi; omega)
    have hmo5 := (hmo.keep (Keep.ofMvs hw5.mv (fun k hk => by obtain ⟨i, hi⟩ := hk; simp at hi; omega))).lowS (base' := w.heap.size) (by omega)
    clear hD5 hw5 hmo k0 k1 k2 k3
    apply wpVL_step rfl
    intro K hK
    go_simp
    refine hK _ _ ?_
    clear hK K
    refine wpVL_nil ?_
    try simp only [Act.put]
    go_wp2_with fail
    refine bodyPost_ret (v := .tuple #[.agg x.cells, .agg ((plG g).cells (.slice ao (fwG g).os.length co) (.slice au nu cu)), .bool (E == 0)]) (results_cct Try.results7 _ rfl rfl (load_blk q2 (P := Try.prog) 24 _ Try.underlying24 rfl (shf_sz x)) (load_blk q3 (P := Try.prog) 29 _ Try.underlying29 rfl (seg_sz _ _ _))) rfl ?_
    exact ⟨_, _, by rw [hPB.out, show (E == 0) = decide (E = 0) from Bool.eq_iff_iff.2 (by simp)]; simp [hM], hmo5, hud, hx5⟩
end Go.Proofs.Ytmcaknmdalbpoaa
