/-
  Proved here: the law ShiftBack returns true.
-/
import Derived.Test.YtmcaknmdalbpoaaShD
import Derived.Test.YtmcaknmdalbpoaaTcpW
import Derived.Test.YtmcaknmdalbpoaaOptsS
import Derived.Deep.CutRange
namespace Go.Proofs.Ytmcaknmdalbpoaa.shiftBack
set_option maxRecDepth 16000
open Go.ChangeShapes Go.WideShapes Go.ChangeAt Go.RowKit Go.Cul Go.Loose
set_option linter.unusedVariables false
attribute [local go_sem] Loose.Still Loose.Upon Loose.vUpon

def or16 (f : Int) : Int := if fl f 16 then f else f + 16
theorem or16_any (f : Int) (h : 0 ≤ f ∧ f ≤ 255) : bits BinOp.or IntKind.u8 f 16 = or16 f ∧ (0 ≤ or16 f ∧ or16 f ≤ 255) ∧ fl (or16 f) 16 = true ∧ fl (or16 f) 2 = fl f 2 := by
  obtain ⟨n, rfl⟩ := Int.eq_ofNat_of_zero_le h.1
  have hn : n < 256 := by omega
  clear h; revert n; decide +kernel
/-- A shift with SACK, whose pieces are whole. -/
def wholeX (x : Shf) : Shf := { x with mss := 1460, sack := true }
/-- The segment of ShiftBack. -/
def bkG (g : Sg) : Sg := { plG g with f := or16 (clr2 g.f), data := (plG g).data.take 500 }

/-- A row of one segment. -/
theorem one_at {w : World} {base : Nat} {v : Value} {s : Sg} (h : FrS w base v [s]) : ∃ b cap ao no co ad nd cd, v = .slice (some ⟨b, 0, none⟩) 1 cap ∧ base ≤ b ∧ 0 < cap ∧ w.rangeAt b 0 (s.cells (.slice ao no co) (.slice ad nd cd)).toList ∧ RdO w (.slice ao no co) s.os ∧ Rd .u8 w (.slice ad nd cd) s.data := by
  obtain ⟨b, cap, vo, vd, rfl, hb, hc, ho, hd⟩ := h.at (i := 0) (by simp)
  obtain ⟨a, c, he, hc1, hc2⟩ := h.shape
  cases he
  have ho := ho.rdo
  have hd := hd.rd
  simp only [List.getD_cons_zero] at hc ho hd
  obtain ⟨ao, co, rfl⟩ := ho.shape
  obtain ⟨ad, nd, cd, rfl⟩ := hd.shape
  refine ⟨b, cap, ao, _, co, ad, nd, cd, rfl, hb, Nat.lt_of_lt_of_le Nat.zero_lt_one hc1, fun j v hv => ?_, ho, hd⟩
  have hj : j < 9 := (List.getElem?_eq_some_iff.1 hv).1
  have := hc j hj
  rw [Nat.zero_mul] at this
  rw [this]
  exact hv
/-- What a call of Over leaves: one segment. -/
def OneP (base : Nat) (s : Sg) : Value → World → Prop := fun v w => ∃ u, v = .tuple #[u, .int .i64 0] ∧ FrS w base u [s]
theorem OneP.lasts {base : Nat} {s : Sg} (v : Value) (w w' : World) (h : RowKit.Below w.heap.size w w') (hs : OneP base s v w) : OneP base s v w' := by
  obtain ⟨u, rfl, hu⟩ := hs
  exact ⟨u, rfl, hu.keep (Keep.ofExt h)⟩
theorem over_one {X : Shf} {S P : Sg} (h : overL X S = ([P], 0)) (hX : X.ok) (hS : S.ok) {vo vd : Value} {w : World} (hvo : RdO w vo S.os) (hvd : Rd .u8 w vd S.data) (hn : S.os.length ≤ 50000) (hd : ∀ o ∈ S.os, o.2.length ≤ 1000000) (hl : S.data.length ≤ 1000000) :
    Calls Try.prog 9 #[.agg X.cells, .agg (S.cells vo vd)] w fun e w' => ∃ v, e = .returned v ∧ OneP w.heap.size P v w' ∧ Ext w w' := by
  refine (over_any X hX S hS vo vd w hvo hvd hn hd hl).mono ?_
  rw [h]
  rintro e w' ⟨u, rfl, hu, hx⟩
  exact ⟨_, rfl, ⟨u, rfl, hu⟩, hx⟩

set_option maxHeartbeats 8000000 in
set_option maxRecDepth 100000 in
theorem walk (w : World) (cs : Array Value) (h0 : Reads w shfSh cs.toList) (ds : Array Value) (h1 : Reads w shfSh ds.toList) (fs : Array Value) (h2 : Reads w segSh fs.toList) :
    Calls Try.prog 6 #[.agg cs, .agg ds, .agg fs] w fun e w' => e = .returned (.bool true) ∧ Ext w w' := by
  obtain ⟨x, rfl, hx⟩ := open_shift h0
  obtain ⟨y, rfl, hy⟩ := open_shift h1
  obtain ⟨g, vo, vd, rfl, hg, hvo, hvd, -, -⟩ := open_segment h2
  clear h0 h1 h2
  obtain ⟨a, cap, rfl⟩ := hvo.shape
  obtain ⟨ad, nd, cd, rfl⟩ := hvd.shape
  have HVO := Lib.hid hvo
  have HVD := Lib.hid hvd
  clear hvo hvd
  go_enter Try.func6, Try.ntmps6
  go_upto_region 1 with (fail)
  generalize hW : ((w.alloc _).alloc _).alloc _ = W
  have hxW : Ext w W := by rw [← hW]; exact ((Ext.new w _).al _).al _
  have k0 : W.heap[w.heap.size]? = some (.cells x.cells 24) := by rw [← hW]; simp only [heap_alloc_at, World.size_alloc]; repeat (first | rfl | rw [if_pos (by first | trivial | omega)] | rw [if_neg (by omega)])
  have k1 : W.heap[w.heap.size + 1]? = some (.cells y.cells 24) := by rw [← hW]; simp only [heap_alloc_at, World.size_alloc]; repeat (first | rfl | rw [if_pos (by first | trivial | omega)] | rw [if_neg (by omega)])
  have k2 : W.heap[w.heap.size + 1 + 1]? = some (.cells (g.cells (.slice a g.os.length cap) (.slice ad nd cd)) 29) := by rw [← hW]; simp only [heap_alloc_at, World.size_alloc]; repeat (first | rfl | rw [if_pos (by first | trivial | omega)] | rw [if_neg (by omega)])
  clear hW
  have hWs := lt_of_block k2
  obtain ⟨A, hA⟩ : ∃ A, A = w.heap.size := ⟨_, rfl⟩
  go_upto_region 2 with (first | (refine wpList_put_cell 3 w.heap.size 5 _ _ (.int .i64 1460) rfl rfl k0 (by kernel_rfl) (by simp) rfl rfl ?_; intro W1 j0 m1) | (refine wpList_put_cell 3 (w.heap.size + 1) 5 _ _ (.int .i64 1460) rfl rfl (m1.keep k1 (by omega)) (by kernel_rfl) (by simp) rfl rfl ?_; intro W2 j1 m2) | (refine wpList_put_cell 4 w.heap.size 2 _ _ (.bool true) rfl rfl (m2.keep j0 (by omega)) (by kernel_rfl) (by simp) rfl rfl ?_; intro W3 j3 m3) | (refine wpList_put_cell 4 (w.heap.size + 1) 2 _ _ (.bool true) rfl rfl (m3.keep j1 (by omega)) (by kernel_rfl) (by simp) rfl rfl ?_; intro W4 j4 m4))
  have q1 : W4.heap[w.heap.size + 1]? = some (.cells (wholeX y).cells 24) := j4
  have q0 : W4.heap[w.heap.size]? = some (.cells (wholeX x).cells 24) := m4.keep j3 (by omega)
  have q2 := m4.keep (m3.keep (m2.keep (m1.keep k2 (by omega)) (by omega)) (by omega)) (by omega)
  have hx4 : Ext w W4 := m4.ext (m3.ext (m2.ext (m1.ext hxW (fun k hk => by omega)) (fun k hk => by omega)) (fun k hk => by omega)) (fun k hk => by omega)
  have hWs4 := lt_of_block q2
  clear m1 m2 m3 m4 j0 j1 j3 j4 k0 k1 k2 hxW hWs hA A
  have hX : (wholeX x).ok := ⟨hx.sq, hx.ak, hx.fr, hx.to, by show -9223372036854775808 ≤ (1460 : Int) ∧ (1460 : Int) ≤ 9223372036854775807; decide⟩
  have hY : (wholeX y).ok := ⟨hy.sq, hy.ak, hy.fr, hy.to, by show -9223372036854775808 ≤ (1460 : Int) ∧ (1460 : Int) ≤ 9223372036854775807; decide⟩
  go_wp2_with (first | (refine wpList_load_bigG 24 w.heap.size (wholeX x).cells _ _ rfl q0 rfl Try.underlying24 rfl (shf_sz _) ?_) | (refine wpList_load_bigG 29 (w.heap.size + 1 + 1) _ _ _ rfl q2 rfl Try.underlying29 rfl (seg_sz _ _ _) ?_))
  refine (plain25_any (wholeX x) g hg _ _ w _ hx4 HVO.out HVD.out).mono ?_
  rintro e w1 ⟨uo, ud, rfl, hmo, hud, hx1⟩
  replace q0 := hx1.block q0
  replace q1 := hx1.block q1
  replace q2 := hx1.block q2
  have hxw := hx4.tr hx1
  have hmo := hmo.lowS (base' := w.heap.size + 3) (by omega)
  have hGok := plG_ok hg
  have hG2 : fl (plG g).f 2 = false := clr2_no g.f hg.f
  have hGl : (plG g).os.length ≤ 20 := fwO_len g.os
  have hGd : ∀ o ∈ (plG g).os, o.2.length ≤ 60 := fwO_dl g.os
  have hB : Hid (plB (wholeX x) g = ((wholeX x).may && decide ((oput (plG g).os).2 = 0))) := rfl
  clear hx1 hx4 hWs4 hg HVO HVD W1 W2 W3
  generalize plB (wholeX x) g = pb at *
  generalize plG g = G at *
  obtain ⟨ao, co, rfl, -, -⟩ := hmo.shape
  obtain ⟨au, cu, rfl, hu1, hu2, hu3⟩ := id hud
  generalize hXe : wholeX x = X at *
  generalize hYe : wholeX y = Y at *
  go_upto_region 3 with (first | (refine wpList_put_row 24 w.heap.size _ X.cells _ rfl rfl q0 (shf_sz X) rfl (shf_one X) ?_; intro W2 j0 hm2) | (refine wpList_put_row 29 (w.heap.size + 1 + 1) _ (G.cells (.slice ao G.os.length co) (.slice au G.data.length cu)) _ rfl rfl (hm2.keep q2 (by omega)) (seg_sz _ _ _) rfl (seg_one _ _ _ _ _ _ _) ?_; intro W3 j2 hm3))
  replace j0 := hm3.keep j0 (by omega)
  have j1 := hm3.keep (hm2.keep q1 (by omega)) (by omega)
  have hm := (hm2.mono (S' := fun k => k = w.heap.size ∨ k = w.heap.size + 1 + 1) (fun k _ h => .inl h)).tr (hm3.mono (fun k _ h => .inr h))
  have hxw3 := hm.ext hxw (fun k hk => by omega)
  replace hmo := hmo.keep (Keep.ofMvs hm (fun k hk => by omega))
  have hXm : X.mss = 1460 ∧ X.sack = true := by rw [← hXe]; exact ⟨rfl, rfl⟩
  have hYm : Y.mss = 1460 ∧ Y.sack = true := by rw [← hYe]; exact ⟨rfl, rfl⟩
  have HXM := Lib.hid hXm
  have HYM := Lib.hid hYm
  clear hm hm2 hm3 hxw q0 q1 q2 hXe hYe hXm hYm W2
  rcases pb with _ | _
  · go_wp2_with fail
    refine (wakes25_any _).mono ?_
    rintro e w4 ⟨rfl, hx4⟩
    go_wp2_with fail
    go_ret
    exact ⟨rfl, hxw3.tr hx4⟩
  obtain ⟨hM, hP⟩ : X.may = true ∧ (oput G.os).2 = 0 := by
    have h := hB.out.symm
    rw [Bool.and_eq_true, decide_eq_true_eq] at h
    exact h
  have HM := Lib.hid hM
  have HPO := Lib.hid hP
  clear hB hM hP
  go_wp2_with (refine wpList_load_bigG 24 (w.heap.size + 1) Y.cells _ _ rfl j1 rfl Try.underlying24 rfl (shf_sz _) ?_)
  refine (smay_any Y _).mono ?_
  rintro e w4 ⟨rfl, hx4⟩
  replace j0 := hx4.block j0
  replace j1 := hx4.block j1
  replace j2 := hx4.block j2
  replace hmo := hmo.keep (Keep.ofExt hx4)
  have hxw4 := hxw3.tr hx4
  clear hx4 hxw3
  rcases hYy : Y.may with _ | _
  · clear hYy
    go_wp2_with fail
    refine (wakes25_any _).mono ?_
    rintro e w5 ⟨rfl, hx5⟩
    go_wp2_with fail
    go_ret
    exact ⟨rfl, hxw4.tr hx5⟩
  have HYY := Lib.hid hYy
  clear hYy
  obtain ⟨o1, o2, o3, o4⟩ := or16_any G.f hGok.f
  obtain ⟨n, hn⟩ : ∃ n : Nat, n = min G.data.length 500 := ⟨_, rfl⟩
  have hnl : n ≤ G.data.length := by omega
  have hnc : (n : Int) ≤ (cu : Int) := by omega
  have hmin : (if (500 : Int) < (G.data.length : Int) then (500 : Int) else (G.data.length : Int)) = (n : Int) := by split <;> omega
  have hdt : G.data.take 500 = G.data.take n := by
    rcases Nat.lt_or_ge 500 G.data.length with h | h
    · rw [hn, Nat.min_eq_right (by omega)]
    · rw [hn, Nat.min_eq_left h, List.take_of_length_le h, List.take_of_length_le (Nat.le_refl _)]
  have HRD := Lib.hid (hdt ▸ hud.take hnl : Rd .u8 w (.slice au n cu) (G.data.take 500))
  have hG5 : (G.data.take 500).length = n ∧ n ≤ 500 := by rw [hdt, List.length_take]; omega
  have HO3 := Lib.hid o3
  have HO4 := Lib.hid (o4.trans hG2)
  have HG5 := Lib.hid hG5
  unfold maxLen at hu2
  clear hn hdt hud hu3 o3 o4 hG2 hG5
  have e4 := cell_blk j2 4
  simp at e4
  go_upto_region 6 with (refine wpList_put_cell 5 (w.heap.size + 1 + 1) 4 _ _ (.int .u8 (or16 G.f)) rfl rfl j2 (by kernel_rfl) (by simp) rfl rfl ?_; intro W5 j5 m5)
  replace j0 := m5.keep j0 (by omega)
  replace j1 := m5.keep j1 (by omega)
  have hxw5 := m5.ext hxw4 (fun k hk => by omega)
  replace hmo := hmo.keep (Keep.ofMvs m5 (fun k hk => by omega))
  replace j5 : W5.heap[w.heap.size + 1 + 1]? = some (.cells (Sg.cells { G with f := or16 G.f } (.slice ao G.os.length co) (.slice au G.data.length cu)) 29) := j5
  clear e4 j2 m5 hxw4
  have e8 := cell_blk j5 8
  simp at e8
  go_upto_region 7 with (refine wpList_put_cell 27 (w.heap.size + 1 + 1) 8 _ _ (.slice au n cu) rfl rfl j5 (by kernel_rfl) (by simp) rfl rfl ?_; intro W6 j6 m6)
  replace j0 := m6.keep j0 (by omega)
  replace j1 := m6.keep j1 (by omega)
  have hxw6 := m6.ext hxw5 (fun k hk => by omega)
  replace hmo := hmo.keep (Keep.ofMvs m6 (fun k hk => by omega))
  have hpok := m6
  obtain ⟨S, hS⟩ : ∃ S : Sg, S = { G with f := or16 G.f, data := G.data.take 500 } := ⟨_, rfl⟩
  replace j6 : W6.heap[w.heap.size + 1 + 1]? = some (.cells (S.cells (.slice ao G.os.length co) (.slice au n cu)) 29) := by rw [hS]; exact j6
  have hSo : S.os = G.os := by rw [hS]
  have hSok : S.ok := by rw [hS]; exact ⟨hGok.sp, hGok.dp, hGok.seq, hGok.ack, o2, hGok.win, hGok.urg, hGok.os, hGok.data.take _⟩
  have HS := Lib.hid hS
  clear e8 j5 m6 hpok hxw5 hS hSo o1 o2 W5
  have HGL := Lib.hid hGl
  have HGD := Lib.hid hGd
  have HGK := Lib.hid hGok
  have HX := Lib.hid hX
  have HY := Lib.hid hY
  have HSK := Lib.hid hSok
  clear hGl hGd hGok hX hY hSok hmin hx hy
  have x0 := cell_blk j0 0
  have x1 := cell_blk j0 1
  have y0 := cell_blk j1 0
  have y1 := cell_blk j1 1
  simp at x0 x1 y0 y1
  have x0 := fun (o : Obj) => (Ext.new W6 o).cell x0
  have x1 := fun (o : Obj) => (Ext.new W6 o).cell x1
  have y0 := fun (o : Obj) => (Ext.new W6 o).cell y0
  have y1 := fun (o : Obj) => (Ext.new W6 o).cell y1
  go_upto_region 9 with (fail)
  generalize hW : (W6.alloc _).alloc _ = W7
  have hx67 : Ext W6 W7 := by rw [← hW]; exact (Ext.new W6 _).al _
  have j8 : W7.heap[W6.heap.size]? = some (.cells (backX X).cells 24) := by rw [← hW]; exact Ext.block (Ext.new _ _) (heap_alloc_new W6 _)
  have j9 : W7.heap[W6.heap.size + 1]? = some (.cells (bothX X Y).cells 24) := by rw [← hW]; exact new_blk _ _ (World.size_alloc _ _)
  clear x0 x1 y0 y1 hW
  replace j0 := hx67.block j0
  replace j1 := hx67.block j1
  replace j6 := hx67.block j6
  have hxw7 := hxw6.tr hx67
  replace hmo := hmo.keep (Keep.ofExt hx67)
  have hro := (hmo.mio (by omega) hxw7).rdo
  have hrd := HRD.out.ext hxw7
  rw [show G.os = S.os from by rw [HS.out]] at hro
  rw [show G.data.take 500 = S.data from by rw [HS.out]] at hrd
  have hBL := back_laws HM.out HXM.out HYY.out HYM.out HSK.out (by rw [HS.out]; exact HO4.out) (by rw [HS.out]; exact HO3.out) (by rw [HS.out]; exact HPO.out) (by rw [HS.out]; show (G.data.take 500).length ≤ 500; rw [HG5.out.1]; exact HG5.out.2)
    (by rw [HS.out]; exact HGL.out) (by rw [HS.out]; exact HGD.out)
  have hso : S.os.length = G.os.length := by rw [HS.out]
  rw [← hso] at j6
  have hSn : S.os.length ≤ 50000 := by have := HGL.out; omega
  have hSd : ∀ o ∈ S.os, o.2.length ≤ 1000000 := by rw [HS.out]; exact fun o ho => by have := HGD.out o ho; omega
  have hSl : S.data.length ≤ 1000000 := by rw [HS.out]; show (G.data.take 500).length ≤ _; have := HG5.out; omega
  generalize overS X S = P1 at *
  generalize overS (backX X) P1 = P2 at *
  generalize overS Y P1 = P3 at *
  generalize overS (bothX X Y) S = P4 at *
  have hBX := Lib.hid (backX_ok X)
  have hCX := Lib.hid (bothX_ok X Y)
  have HSD := Lib.hid hSd
  have HRO := Lib.hid hro
  have HRDD := Lib.hid hrd
  have HSO := Lib.hid (show S.os = G.os by rw [HS.out])
  generalize W6.heap.size = D at *
  have HBL := Lib.hid hBL
  clear hx67 hxw6 hmo HM HXM HYY HYM HO3 HO4 HPO HG5 HGL HGD HGK hso hSd hro hrd HS HRD hBL
  go_wp2_with (first | (refine wpList_load_bigG 24 w.heap.size X.cells _ _ rfl j0 rfl Try.underlying24 rfl (shf_sz _) ?_) | (refine wpList_load_bigG 29 (w.heap.size + 1 + 1) _ _ _ rfl j6 rfl Try.underlying29 rfl (seg_sz _ _ _) ?_))
  refine (over_one HBL.out.o1 HX.out HSK.out HRO.out HRDD.out hSn HSD.out hSl).mono ?_
  rintro e w8 ⟨_, rfl, ⟨u8, rfl, hu8⟩, hx8⟩
  obtain ⟨g8, c8, a8, n8, m8, b8, d8, f8, rfl, hg8, hc8, hr8, ho8, hd8⟩ := one_at hu8
  replace j0 := hx8.block j0
  replace j1 := hx8.block j1
  replace j6 := hx8.block j6
  replace j8 := hx8.block j8
  replace j9 := hx8.block j9
  have hxw8 := hxw7.tr hx8
  have HRO8 := Lib.hid (HRO.out.ext hx8)
  have HRD8 := Lib.hid (HRDD.out.ext hx8)
  have HO8 := Lib.hid ho8
  have HD8 := Lib.hid hd8
  have HR8 := Lib.hid hr8
  clear HRO HRDD hu8 hx8 hxw7 ho8 hd8 hr8 hg8
  go_upto_region 12 with (fail)
  have hov2 := Lib.hid (fun (W : World) (hx : Ext w8 W) => over_one HBL.out.o2 hBX.out HBL.out.k1 (HO8.out.ext hx) (HD8.out.ext hx) HBL.out.n1 HBL.out.d1 HBL.out.l1)
  have hov3 := Lib.hid (fun (W : World) (hx : Ext w8 W) => over_one HBL.out.o3 HY.out HBL.out.k1 (HO8.out.ext hx) (HD8.out.ext hx) HBL.out.n1 HBL.out.d1 HBL.out.l1)
  have b0 := cell_blk j8 0
  have b1 := cell_blk j8 1
  have b2 := cell_blk j8 2
  have b3 := cell_blk j8 3
  have b4 := cell_blk j8 4
  have b5 := cell_blk j8 5
  simp at b0 b1 b2 b3 b4 b5
  refine wp_region_grow [(4, OneP w8.heap.size P2)] (lasts_cons (fun v w w' h hs => OneP.lasts v w w' h hs) lasts_nil) (by kernel_rfl) (by kernel_rfl) ?_
  iterate 1
    apply wpL_none rfl rfl
    · intro w' hw' hn'; have b0 := Ext.cell hw' b0; have b1 := Ext.cell hw' b1; have b2 := Ext.cell hw' b2; have b3 := Ext.cell hw' b3; have b4 := Ext.cell hw' b4; have b5 := Ext.cell hw' b5; go_simp; exact rfl
    intro K hK; go_simp; refine hK _ _ ?_; clear hK K
  clear b0 b1 b2 b3 b4 b5
  iterate 2
    apply wpL_none rfl rfl
    · intro w' hw' hn'; go_simp; exact rfl
    intro K hK; go_simp; refine hK _ _ ?_; clear hK K
  apply wpL_none rfl rfl
  · intro w' hw' hn'
    exact still_load 29 (.tmp 86) rfl g8 0 rfl (P1.cells (.slice a8 n8 m8) (.slice b8 d8 f8)) _ (range_ext HR8.out hw') Try.underlying29 rfl (by kernel_rfl)
  intro K hK; go_simp; refine hK _ _ ?_; clear hK K
  apply wpL_some rfl rfl
  · intro w' hw' hn'
    go_simp
    refine ⟨Ext.rfl' _, ?_⟩
    refine (hov2.out w' hw').mono ?_
    rintro e w2 ⟨v, rfl, ⟨u, rfl, hu⟩, hx⟩
    exact ⟨_, rfl, hx, u, rfl, hu.lowS (Below.size hw')⟩
  intro v w' hw' hD' hv
  obtain ⟨u9, rfl, -⟩ := hv
  clear hw' hD' w'
  intro K hK; go_simp; refine hK _ _ ?_; clear hK K
  iterate 5
    apply wpL_none rfl rfl
    · intro w' hw' hn'; go_simp; exact rfl
    intro K hK; go_simp; refine hK _ _ ?_; clear hK K
  refine wpL_nil ?_
  intro w9 hx9 hD9
  obtain ⟨u9', he, hu9⟩ := hD9 4
  cases he
  have hx89 : Ext w8 w9 := hx9
  obtain ⟨g9, c9, a9, n9, m9, b9, d9, f9, rfl, hg9, hc9, hr9, ho9, hd9⟩ := one_at hu9
  replace j0 := hx89.block j0
  replace j1 := hx89.block j1
  replace j6 := hx89.block j6
  replace j9 := hx89.block j9
  have hxw9 := hxw8.tr hx89
  have HO9 := Lib.hid ho9
  have HR9 := Lib.hid hr9
  have HX9 := Lib.hid hx89
  clear hx9 hD9 hu9 hx89 ho9 hd9 hr9 hg9 j8 hxw8
  go_upto_region 13 with (fail)
  have b0 := cell_blk j1 0
  have b1 := cell_blk j1 1
  have b2 := cell_blk j1 2
  have b3 := cell_blk j1 3
  have b4 := cell_blk j1 4
  have b5 := cell_blk j1 5
  simp at b0 b1 b2 b3 b4 b5
  refine wp_region_grow [(4, OneP w9.heap.size P3)] (lasts_cons (fun v w w' h hs => OneP.lasts v w w' h hs) lasts_nil) (by kernel_rfl) (by kernel_rfl) ?_
  iterate 1
    apply wpL_none rfl rfl
    · intro w' hw' hn'; have b0 := Ext.cell hw' b0; have b1 := Ext.cell hw' b1; have b2 := Ext.cell hw' b2; have b3 := Ext.cell hw' b3; have b4 := Ext.cell hw' b4; have b5 := Ext.cell hw' b5; go_simp; exact rfl
    intro K hK; go_simp; refine hK _ _ ?_; clear hK K
  clear b0 b1 b2 b3 b4 b5
  iterate 2
    apply wpL_none rfl rfl
    · intro w' hw' hn'; go_simp; exact rfl
    intro K hK; go_simp; refine hK _ _ ?_; clear hK K
  apply wpL_none rfl rfl
  · intro w' hw' hn'
    exact still_load 29 (.tmp 94) rfl g8 0 rfl (P1.cells (.slice a8 n8 m8) (.slice b8 d8 f8)) _ (range_ext (range_ext HR8.out HX9.out) hw') Try.underlying29 rfl (by kernel_rfl)
  intro K hK; go_simp; refine hK _ _ ?_; clear hK K
  apply wpL_some rfl rfl
  · intro w' hw' hn'
    go_simp
    refine ⟨Ext.rfl' _, ?_⟩
    refine (hov3.out w' (HX9.out.tr hw')).mono ?_
    rintro e w2 ⟨v, rfl, ⟨u, rfl, hu⟩, hx⟩
    exact ⟨_, rfl, hx, u, rfl, hu.lowS (Below.size hw')⟩
  intro v w' hw' hD' hv
  obtain ⟨u9, rfl, -⟩ := hv
  clear hw' hD' w'
  intro K hK; go_simp; refine hK _ _ ?_; clear hK K
  iterate 5
    apply wpL_none rfl rfl
    · intro w' hw' hn'; go_simp; exact rfl
    intro K hK; go_simp; refine hK _ _ ?_; clear hK K
  refine wpL_nil ?_
  intro w10 hx10 hD10
  obtain ⟨u9', he, hu10⟩ := hD10 4
  cases he
  have hx910 : Ext w9 w10 := hx10
  obtain ⟨g10, c10, a10, n10, m10, b10, d10, f10, rfl, hg10, hc10, hr10, ho10, hd10⟩ := one_at hu10
  replace j0 := hx910.block j0
  replace j6 := hx910.block j6
  replace j9 := hx910.block j9
  have hxw10 := hxw9.tr hx910
  have HX10 := Lib.hid (HX9.out.tr hx910)
  have HO910 := Lib.hid (HO9.out.ext hx910)
  have HR910 := Lib.hid (range_ext HR9.out hx910)
  have HO10 := Lib.hid ho10
  have HR10 := Lib.hid hr10
  clear hx10 hD10 hu10 hx910 ho10 hd10 hr10 hg10 j1 hxw9 HO9 HR9 HX9
  go_wp2_with (first | (refine wpList_load_bigG 24 (D + 1) (bothX X Y).cells _ _ rfl j9 rfl Try.underlying24 rfl (shf_sz _) ?_) | (refine wpList_load_bigG 29 (w.heap.size + 1 + 1) _ _ _ rfl j6 rfl Try.underlying29 rfl (seg_sz _ _ _) ?_))
  refine (over_one HBL.out.o4 hCX.out HSK.out (HRO8.out.ext HX10.out) (HRD8.out.ext HX10.out) hSn HSD.out hSl).mono ?_
  rintro e w11 ⟨_, rfl, ⟨u11, rfl, hu11⟩, hx11⟩
  obtain ⟨g11, c11, a11, n11, m11, b11, d11, f11, rfl, hg11, hc11, hr11, ho11, hd11⟩ := one_at hu11
  replace j6 := hx11.block j6
  have hxw11 := hxw10.tr hx11
  have HO911 := Lib.hid (HO910.out.ext hx11)
  have HR911 := Lib.hid (range_ext HR910.out hx11)
  have HO1011 := Lib.hid (HO10.out.ext hx11)
  have HR1011 := Lib.hid (range_ext HR10.out hx11)
  have HRS := Lib.hid ((HRO8.out.ext HX10.out).ext hx11)
  have HO11 := Lib.hid ho11
  have HR11 := Lib.hid hr11
  clear hu11 hx11 ho11 hr11 hd11 hg11 hxw10 j0 j9
  go_upto_region 17 with (fail)
  have r2 : w11.cell? ⟨g9, 2, none⟩ = some (.int .u32 S.seq) := by rw [← HBL.out.sq2]; exact HR911.out 2 _ rfl
  have r3 : w11.cell? ⟨g9, 3, none⟩ = some (.int .u32 S.ack) := by rw [← HBL.out.ak2]; exact HR911.out 3 _ rfl
  have r7 : w11.cell? ⟨g9, 7, none⟩ = some (.slice a9 n9 m9) := HR911.out 7 _ rfl
  have v2 : w11.cell? ⟨g10, 2, none⟩ = some (.int .u32 P3.seq) := HR1011.out 2 _ rfl
  have v3 : w11.cell? ⟨g10, 3, none⟩ = some (.int .u32 P3.ack) := HR1011.out 3 _ rfl
  have v7 : w11.cell? ⟨g10, 7, none⟩ = some (.slice a10 n10 m10) := HR1011.out 7 _ rfl
  have z2 : w11.cell? ⟨g11, 2, none⟩ = some (.int .u32 P3.seq) := by rw [HBL.out.sq3]; exact HR11.out 2 _ rfl
  have z3 : w11.cell? ⟨g11, 3, none⟩ = some (.int .u32 P3.ack) := by rw [HBL.out.ak3]; exact HR11.out 3 _ rfl
  have z7 : w11.cell? ⟨g11, 7, none⟩ = some (.slice a11 n11 m11) := HR11.out 7 _ rfl
  have s2 := cell_blk j6 2
  have s3 := cell_blk j6 3
  have s7 := cell_blk j6 7
  simp at s2 s3 s7
  have hsame := Lib.hid (fun (W : World) (hx : Ext w11 W) => ((osame_any _ _ _ _ W (HO1011.out.ext hx) (HO11.out.ext hx) HBL.out.k3.os HBL.out.k4.os).mono (fun e w' h => (⟨by rw [h.1, HBL.out.os3]; simp, h.2⟩ : e = .returned (.bool true) ∧ Ext W w'))))
  refine wp_region_grow [(47, Loose.is (.bool true))] (lasts_is lasts_nil) (by kernel_rfl) (by kernel_rfl) ?_
  iterate 3
    apply wpL_none rfl rfl
    · intro w' hw' hn'; go_simp; exact rfl
    intro K hK; go_simp; refine hK _ _ ?_; clear hK K
  iterate 1
    apply wpL_none rfl rfl
    · intro w' hw' hn'; have r2 := Ext.cell hw' r2; go_simp; exact rfl
    intro K hK; go_simp; refine hK _ _ ?_; clear hK K
  iterate 1
    apply wpL_none rfl rfl
    · intro w' hw' hn'; go_simp; exact rfl
    intro K hK; go_simp; refine hK _ _ ?_; clear hK K
  iterate 1
    apply wpL_none rfl rfl
    · intro w' hw' hn'; have s2 := Ext.cell hw' s2; go_simp; exact rfl
    intro K hK; go_simp; refine hK _ _ ?_; clear hK K
  iterate 5
    apply wpL_none rfl rfl
    · intro w' hw' hn'; go_simp; exact rfl
    intro K hK; go_simp; refine hK _ _ ?_; clear hK K
  iterate 1
    apply wpL_none rfl rfl
    · intro w' hw' hn'; have r3 := Ext.cell hw' r3; go_simp; exact rfl
    intro K hK; go_simp; refine hK _ _ ?_; clear hK K
  iterate 1
    apply wpL_none rfl rfl
    · intro w' hw' hn'; go_simp; exact rfl
    intro K hK; go_simp; refine hK _ _ ?_; clear hK K
  iterate 1
    apply wpL_none rfl rfl
    · intro w' hw' hn'; have s3 := Ext.cell hw' s3; go_simp; exact rfl
    intro K hK; go_simp; refine hK _ _ ?_; clear hK K
  iterate 6
    apply wpL_none rfl rfl
    · intro w' hw' hn'; go_simp; exact rfl
    intro K hK; go_simp; refine hK _ _ ?_; clear hK K
  iterate 1
    apply wpL_none rfl rfl
    · intro w' hw' hn'; have v2 := Ext.cell hw' v2; go_simp; exact rfl
    intro K hK; go_simp; refine hK _ _ ?_; clear hK K
  iterate 3
    apply wpL_none rfl rfl
    · intro w' hw' hn'; go_simp; exact rfl
    intro K hK; go_simp; refine hK _ _ ?_; clear hK K
  iterate 1
    apply wpL_none rfl rfl
    · intro w' hw' hn'; have z2 := Ext.cell hw' z2; go_simp; exact rfl
    intro K hK; go_simp; refine hK _ _ ?_; clear hK K
  iterate 6
    apply wpL_none rfl rfl
    · intro w' hw' hn'; go_simp; exact rfl
    intro K hK; go_simp; refine hK _ _ ?_; clear hK K
  iterate 1
    apply wpL_none rfl rfl
    · intro w' hw' hn'; have v3 := Ext.cell hw' v3; go_simp; exact rfl
    intro K hK; go_simp; refine hK _ _ ?_; clear hK K
  iterate 3
    apply wpL_none rfl rfl
    · intro w' hw' hn'; go_simp; exact rfl
    intro K hK; go_simp; refine hK _ _ ?_; clear hK K
  iterate 1
    apply wpL_none rfl rfl
    · intro w' hw' hn'; have z3 := Ext.cell hw' z3; go_simp; exact rfl
    intro K hK; go_simp; refine hK _ _ ?_; clear hK K
  iterate 6
    apply wpL_none rfl rfl
    · intro w' hw' hn'; go_simp; exact rfl
    intro K hK; go_simp; refine hK _ _ ?_; clear hK K
  iterate 1
    apply wpL_none rfl rfl
    · intro w' hw' hn'; have v7 := Ext.cell hw' v7; go_simp; exact rfl
    intro K hK; go_simp; refine hK _ _ ?_; clear hK K
  iterate 3
    apply wpL_none rfl rfl
    · intro w' hw' hn'; go_simp; exact rfl
    intro K hK; go_simp; refine hK _ _ ?_; clear hK K
  iterate 1
    apply wpL_none rfl rfl
    · intro w' hw' hn'; have z7 := Ext.cell hw' z7; go_simp; exact rfl
    intro K hK; go_simp; refine hK _ _ ?_; clear hK K
  apply wpL_some rfl rfl
  · intro w' hw' hn'
    go_simp
    refine ⟨Ext.rfl' _, ?_⟩
    refine (hsame.out w' hw').mono ?_
    rintro e w2 ⟨rfl, hx⟩
    exact ⟨_, rfl, hx, rfl⟩
  intro v w' hw' hD' hv
  obtain rfl : v = _ := hv
  clear hw' hD' w'
  intro K hK; go_simp; refine hK _ _ ?_; clear hK K
  iterate 2
    apply wpL_none rfl rfl
    · intro w' hw' hn'; go_simp; exact rfl
    intro K hK; go_simp; refine hK _ _ ?_; clear hK K
  refine wpL_nil ?_
  intro w12 hx12 _
  have hx12 : Ext w11 w12 := hx12
  replace r7 := hx12.cell r7
  replace s7 := hx12.cell s7
  have hxw12 := hxw11.tr hx12
  have HRS12 := Lib.hid (HRS.out.ext hx12)
  have HO912 := Lib.hid (HO911.out.ext hx12)
  clear r2 r3 v2 v3 v7 z2 z3 z7 s2 s3 hx12 hxw11 hsame
  go_upto_region 19 with (fail)
  have hsk1 := Lib.hid (fun (W : World) (hx : Ext w12 W) => osacks_any _ _ W (HRS12.out.ext hx) HSK.out.os)
  have hsk2 := Lib.hid (fun (W : World) (hx : Ext w12 W) => osacks_any _ _ W (HO912.out.ext hx) HBL.out.k2.os)
  refine wp_region_grow [(2, fun v w => FrB 50 w w12.heap.size v (osacks S.os)), (7, fun v w => FrB 50 w w12.heap.size v (osacks S.os))]
    (lasts_cons (fun v w w' h hs => FrB.keep hs (Keep.ofExt h)) (lasts_cons (fun v w w' h hs => FrB.keep hs (Keep.ofExt h)) lasts_nil)) (by kernel_rfl) (by kernel_rfl) ?_
  iterate 1
    apply wpL_none rfl rfl
    · intro w' hw' hn'; go_simp; exact rfl
    intro K hK; go_simp; refine hK _ _ ?_; clear hK K
  iterate 1
    apply wpL_none rfl rfl
    · intro w' hw' hn'; have s7 := Ext.cell hw' s7; go_simp; exact rfl
    intro K hK; go_simp; refine hK _ _ ?_; clear hK K
  apply wpL_some rfl rfl
  · intro w' hw' hn'
    go_simp
    refine ⟨Ext.rfl' _, ?_⟩
    refine (hsk1.out w' hw').mono ?_
    rintro e w2 ⟨u, rfl, hu, hx⟩
    exact ⟨_, rfl, hx, hu.low (Below.size hw')⟩
  intro p1 w' hw' hD' hp1
  clear hp1 hw' hD' w'
  intro K hK; go_simp; refine hK _ _ ?_; clear hK K
  iterate 3
    apply wpL_none rfl rfl
    · intro w' hw' hn'; go_simp; exact rfl
    intro K hK; go_simp; refine hK _ _ ?_; clear hK K
  iterate 1
    apply wpL_none rfl rfl
    · intro w' hw' hn'; have r7 := Ext.cell hw' r7; go_simp; exact rfl
    intro K hK; go_simp; refine hK _ _ ?_; clear hK K
  apply wpL_some rfl rfl
  · intro w' hw' hn'
    go_simp
    refine ⟨Ext.rfl' _, ?_⟩
    refine (hsk2.out w' hw').mono ?_
    rintro e w2 ⟨u, rfl, hu, hx⟩
    exact ⟨_, rfl, hx, HBL.out.sk ▸ hu.low (Below.size hw')⟩
  intro p2 w' hw' hD' hp2
  clear hp2 hw' hD' w'
  intro K hK; go_simp; refine hK _ _ ?_; clear hK K
  iterate 2
    apply wpL_none rfl rfl
    · intro w' hw' hn'; go_simp; exact rfl
    intro K hK; go_simp; refine hK _ _ ?_; clear hK K
  refine wpL_nil ?_
  intro w13 hx13 hD13
  have hp1 : FrB 50 w13 w12.heap.size p1 (osacks S.os) := hD13 2
  have hp2 : FrB 50 w13 w12.heap.size p2 (osacks S.os) := hD13 7
  have hxw13 : Ext w w13 := hxw12.tr hx13
  clear hx13 hD13 r7 s7 hxw12
  obtain ⟨pa1, pc1, rfl, pl1, pm1, hq1⟩ := hp1.rdb
  obtain ⟨pa2, pc2, rfl, pl2, pm2, hq2⟩ := hp2.rdb
  unfold maxLen at pm1 pm2
  generalize osacks S.os = BS at *
  clear hp1 hp2
  have HQ1 := Lib.hid hq1
  have HQ2 := Lib.hid hq2
  clear hq1 hq2
  go_wp2_with fail
  go_loopw [195] (fun iv wr => ∃ k : Nat, k ≤ BS.length ∧ iv = .int .i64 k ∧ Ext w13 wr) (fun iv _ => BS.length - (intOf iv).toNat)
  case atStart => exact ⟨0, Nat.zero_le _, rfl, Ext.rfl' _⟩
  case round =>
    obtain ⟨k, hk, rfl, hx⟩ := hrel
    by_cases hlt : k < BS.length
    · rcases HQ1.out with h0 | ⟨b1, q1, rfl, hc1⟩
      · rw [h0] at hlt; simp at hlt
      rcases HQ2.out with h0 | ⟨b2, q2, rfl, hc2⟩
      · rw [h0] at hlt; simp at hlt
      obtain ⟨e0, e1⟩ := hc1 k hlt
      obtain ⟨f0, f1⟩ := hc2 k hlt
      replace e0 := hx.cell e0
      replace e1 := hx.cell e1
      replace f0 := hx.cell f0
      replace f1 := hx.cell f1
      clear hc1 hc2
      have hlk : (k : Int) < (BS.length : Int) := by omega
      have hl1 : k < pc1 := by omega
      have hl2 : k < pc2 := by omega
      go_upto_region 25 with (fail)
      refine wp_region_grow [] lasts_nil (by kernel_rfl) (by kernel_rfl) ?_
      iterate 3
        apply wpL_none rfl rfl
        · intro w' hw' hn'; go_simp; exact rfl
        intro K hK; go_simp; refine hK _ _ ?_; clear hK K
      iterate 1
        apply wpL_none rfl rfl
        · intro w' hw' hn'; have e0 := Ext.cell hw' e0; have e1 := Ext.cell hw' e1; go_simp; exact rfl
        intro K hK; go_simp; refine hK _ _ ?_; clear hK K
      iterate 3
        apply wpL_none rfl rfl
        · intro w' hw' hn'; go_simp; exact rfl
        intro K hK; go_simp; refine hK _ _ ?_; clear hK K
      iterate 1
        apply wpL_none rfl rfl
        · intro w' hw' hn'; have f0 := Ext.cell hw' f0; have f1 := Ext.cell hw' f1; go_simp; exact rfl
        intro K hK; go_simp; refine hK _ _ ?_; clear hK K
      iterate 1
        apply wpL_none rfl rfl
        · intro w' hw' hn'; go_simp; exact rfl
        intro K hK; go_simp; refine hK _ _ ?_; clear hK K
      refine wpL_nil ?_
      intro w14 hx14 _
      have hx15 := hx.tr hx14
      go_wp2_with fail
      go_roundw
      case rel => exact ⟨k + 1, by omega, by go_num, hx15⟩
      case measure => simp [intOf]; omega
    · obtain rfl : k = BS.length := by omega
      go_wp2_with fail
      refine (wakes25_any _).mono ?_
      rintro e w14 ⟨rfl, hx14⟩
      go_wp2_with fail
      go_ret
      exact ⟨rfl, (hxw13.tr hx).tr hx14⟩
end Go.Proofs.Ytmcaknmdalbpoaa.shiftBack
