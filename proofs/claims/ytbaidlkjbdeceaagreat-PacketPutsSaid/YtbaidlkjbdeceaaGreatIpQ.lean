/-
  Proved here: what ipv4.Parse computes. Condition: at most 2^47 - 4096 bytes.
-/
import Derived.Test.YtbaidlkjbdeceaaGreatIpP
import Derived.Test.YtbaidlkjbdeceaaGreatRegion
namespace Go.Proofs.YtbaidlkjbdeceaaGreat
set_option maxRecDepth 200000
open Go.ChangeShapes Go.WideShapes Go.ChangeAt Go.RowKit Go.Cul Go.Loose
set_option linter.unusedVariables false
attribute [local go_sem] First.pUpon

/-- The packet of bytes: head, payload, error. -/
def ipar (l : List Int) : Hd × List Int × Int := if ierr l = 0 then (ihead l, l.drop (ioff l), 0) else (Hd.zero, [], ierr l)

set_option maxHeartbeats 1000000 in
theorem iparse_any (bv : Value) (l : List Int) (w : World) (hv : Rd .u8 w bv l) (hb : Byt l) (hl : l.length ≤ 140737488351232) :
    Calls Tryz.prog 56 #[bv] w fun e w' => ∃ vo vp, e = .returned (.tuple #[.agg ((ipar l).1.cells vo), vp, .int .i64 (ipar l).2.2]) ∧ Fr w' w.heap.size 5 .u8 vo (ipar l).1.op ∧ Fr w' w.heap.size 5 .u8 vp (ipar l).2.1 ∧ Ext w w' := by
  have hvc := hv
  obtain ⟨a, cap, rfl, -, -, -⟩ := hvc
  by_cases hlong : 1500 < l.length
  · have hU : ipar l = (Hd.zero, [], 3) := by unfold ipar; rw [show ierr l = 3 from by unfold ierr; rw [if_pos hlong]]; rfl
    rw [hU]
    clear hU
    have hlong' : (1500 : Int) < (l.length : Int) := by omega
    go_enter Tryz.func56, Tryz.ntmps56
    go_wp2_with fail
    refine bodyPost_ret (v := .tuple #[.agg (Hd.zero.cells (.slice none 0 0)), .slice none 0 0, .int .i64 3]) (by simp [results, Tryz.results56, go_sem]) rfl ?_
    refine ⟨_, _, rfl, .inl (Own.nil _ _ _ _), .inl (Own.nil _ _ _ _), ?_⟩
    repeat (first | with_reducible exact Below.refl _ _ | with_reducible assumption | with_reducible exact Ext.drN (Ext.rfl' _) _ | with_reducible refine Below.setCell ?_ ?_ _ | with_reducible refine Ext.al ?_ _ | with_reducible refine Ext.drN ?_ _ | with_reducible refine Ext.dr ?_ | exact Nat.le_refl _ | omega | (dsimp only; omega) | (show _ ≤ _; omega) | (simp; done) | (simp; omega))
  · have hN : l.length ≤ 1500 := by omega
    have hlong' : ¬ (1500 : Int) < (l.length : Int) := by omega
    have hU : Hid (ipar l = if ierr l = 0 then (ihead l, l.drop (ioff l), 0) else (Hd.zero, [], ierr l)) := rfl
    go_enter Tryz.func56, Tryz.ntmps56
    go_wp2_with fail
    generalize hW : (World.alloc (World.alloc (World.alloc (World.alloc w _) _) _) _) = W
    have hxW : Ext w W := by
      rw [← hW]
      repeat (first | with_reducible exact Below.refl _ _ | with_reducible assumption | with_reducible exact Ext.drN (Ext.rfl' _) _ | with_reducible refine Below.setCell ?_ ?_ _ | with_reducible refine Ext.al ?_ _ | with_reducible refine Ext.drN ?_ _ | with_reducible refine Ext.dr ?_ | exact Nat.le_refl _ | omega | (dsimp only; omega) | (show _ ≤ _; omega) | (simp; done) | (simp; omega))
    have hsz : W.heap.size = w.heap.size + 4 := by rw [← hW]; simp
    have b0 : W.heap[w.heap.size]? = some (Obj.cells #[Value.slice a l.length cap] 24) := by rw [← hW]; simp only [heap_alloc_at, World.size_alloc]; repeat (first | rfl | rw [if_pos (by first | trivial | omega)] | rw [if_neg (by omega)])
    have b1 : W.heap[w.heap.size + 1]? = some (Obj.cells (Hd.zero.cells (.slice none 0 0)) 26) := by rw [← hW]; simp only [heap_alloc_at, World.size_alloc]; repeat (first | rfl | rw [if_pos (by first | trivial | omega)] | rw [if_neg (by omega)])
    have b2 : W.heap[w.heap.size + 1 + 1]? = some (Obj.cells (Hd.zero.cells (.slice none 0 0)) 26) := by rw [← hW]; simp only [heap_alloc_at, World.size_alloc]; repeat (first | rfl | rw [if_pos (by first | trivial | omega)] | rw [if_neg (by omega)])
    have b3 : W.heap[w.heap.size + 1 + 1 + 1]? = some (Obj.cells #[.slice none 0 0] 24) := by rw [← hW]; simp only [heap_alloc_at, World.size_alloc]; repeat (first | rfl | rw [if_pos (by first | trivial | omega)] | rw [if_neg (by omega)])
    clear hW
    refine (read_cl 86 _ _ l W (hv.ext hxW) hl (fun k => k = w.heap.size + 1 + 1 ∨ k = w.heap.size + 1 + 1 + 1) (by omega) (IpQ (w.heap.size + 1 + 1) (w.heap.size + 1 + 1 + 1) l) (fun _ _ => by simp [go_sem]) ?_).mono ?_
    · intro B bu w1 hx1 hB hR hA
      exact iparse1_any l hb hN _ bu w w1 B _ _ _ hv (Ext.tr hxW hx1) hR hA (by omega) (hx1.block b2) (hx1.block b3) (hx1.block b0) (by omega) (by omega) (by omega)
    rintro x w' ⟨e, w1, w2, rfl, hx1, ⟨he, hq⟩, hout, hm⟩
    have b1' := hm.keep b1 (by omega)
    have hs1 := hx1.size
    have hxw : Ext w w' := hm.ext hxW (by omega)
    by_cases he0 : e = 0
    · subst he0
      have hU' : Hid (ipar l = (ihead l, l.drop (ioff l), 0)) := by unfold Hid; rw [hU.out, if_pos he.symm]
      obtain ⟨vo, vp, hbd, hbp, hfo, hfp⟩ := hq rfl
      have b2' := (hout.block _ (lt_of_block hbd) (.inl (by omega))).trans hbd
      have b3' := (hout.block _ (lt_of_block hbp) (.inl (by omega))).trans hbp
      have hfo' := hout.fr hfo (Nat.le_refl _)
      have hfp' := hout.fr hfp (Nat.le_refl _)
      have hs3 : (w'.heap.size : Nat) ≥ w.heap.size + 4 := by have := hm.size; omega
      clear hq he hU b0 b1 b2 b3 hbd hbp hfo hfp hv hout hm hb
      generalize ihead l = g at *
      generalize l.drop (ioff l) = D at *
      obtain ⟨g1, g2, g3, g4, g5, g6, g7, g8⟩ := g
      simp only [Hd.cells] at *
      obtain ⟨ao, no, co, rfl⟩ := hfo'.rd.shape
      obtain ⟨au, nu, cu, rfl⟩ := hfp'.rd.shape
      have c0 := cell_blk b1' 0
      have c1 := cell_blk b1' 1
      have c2 := cell_blk b1' 2
      have c3 := cell_blk b1' 3
      have c4 := cell_blk b1' 4
      have c5 := cell_blk b1' 5
      have c6 := cell_blk b1' 6
      have c7 := cell_blk b1' 7
      simp at c0 c1 c2 c3 c4 c5 c6 c7
      have d0 := cell_blk b2' 0
      have d1 := cell_blk b2' 1
      have d2 := cell_blk b2' 2
      have d3 := cell_blk b2' 3
      have d4 := cell_blk b2' 4
      have d5 := cell_blk b2' 5
      have d6 := cell_blk b2' 6
      have d7 := cell_blk b2' 7
      simp at d0 d1 d2 d3 d4 d5 d6 d7
      have p0 := cell_blk b3' 0
      simp at p0
      have f1 := fz_blk b1'
      have hfin : ∀ w'' : World, Mvs (fun k => k = w.heap.size + 1) w' w'' → Fr w'' w.heap.size 5 .u8 (.slice ao no co) g8 ∧ Fr w'' w.heap.size 5 .u8 (.slice au nu cu) D ∧ Ext w w'' := fun w'' hmv => by
        have hkp := Keep.ofMvs hmv (base := w1.heap.size) (fun k hk => by omega)
        exact ⟨(Fr.keep hfo' hkp).low (by omega), (Fr.keep hfp' hkp).low (by omega), hmv.ext hxw (fun k hk => by omega)⟩
      have HFIN := Lib.hid hfin
      clear hfin hfo' hfp'
      go_wp2_with fail
      have hne1 : w.heap.size + 1 + 1 ≠ w.heap.size + 1 := by omega
      have hne2 : w.heap.size + 1 + 1 + 1 ≠ w.heap.size + 1 := by omega
      refine Order.wp_region_order [0, 1] [2, 3, 4] 5 (fun w'' => w''.heap[w.heap.size + 1 + 1]? = some (.cells #[.int .u8 g1, .int .u16 g2, .bool g3, .int .u8 g4, .int .u8 g5, .int .u32 g6, .int .u32 g7, .slice ao no co] 26) ∧ w''.heap[w.heap.size + 1 + 1 + 1]? = some (.cells #[.slice au nu cu] 24)) (fun _ _ => False) ?_ (fun w'' hw'' => ⟨Ext.block hw'' b2', Ext.block hw'' b3'⟩) (by kernel_rfl) (by kernel_rfl) (by kernel_rfl) rfl (by kernel_rfl) ?_
      · exact fun _ _ _ _ h => h.elim
      intro wd hwd
      apply Order.wpH_some rfl rfl
      · intro w'' hw''
        obtain ⟨q, -⟩ := hw''
        have q0 := cell_blk q 0
        have q1 := cell_blk q 1
        have q2 := cell_blk q 2
        have q3 := cell_blk q 3
        have q4 := cell_blk q 4
        have q5 := cell_blk q 5
        have q6 := cell_blk q 6
        have q7 := cell_blk q 7
        simp at q0 q1 q2 q3 q4 q5 q6 q7
        go_simp; exact rfl
      intro K hK; go_simp; refine hK _ ?_; clear hK K
      apply Order.wpH_some rfl rfl
      · intro w'' hw''
        obtain ⟨-, q⟩ := hw''
        have q0 := cell_blk q 0
        simp at q0
        go_simp; exact rfl
      intro K hK; go_simp; refine hK _ ?_; clear hK K
      refine Order.wpH_nil ?_
      have k1 := Ext.block hwd b1'
      have k2 := Ext.block hwd b2'
      have k3 := Ext.block hwd b3'
      have HFW := Lib.hid (fun (w'' : World) (h : Mvs (fun k => k = w.heap.size + 1) wd w'') => HFIN.out w'' ((Mvs.ofExt hwd).tr h))
      have HJ := Lib.hid (fun (w'' : World) (h : Mvs (fun k => k = w.heap.size + 1) wd w'') => And.intro (h.keep k2 hne1) (h.keep k3 hne2))
      clear k2 k3 hwd b1' b2' b3' c0 c1 c2 c3 c4 c5 c6 c7 d0 d1 d2 d3 d4 d5 d6 d7 p0 f1
      have c0 := cell_blk k1 0
      have c1 := cell_blk k1 1
      have c2 := cell_blk k1 2
      have c3 := cell_blk k1 3
      have c4 := cell_blk k1 4
      have c5 := cell_blk k1 5
      have c6 := cell_blk k1 6
      have c7 := cell_blk k1 7
      simp at c0 c1 c2 c3 c4 c5 c6 c7
      have f1 := fz_blk k1
      apply Order.wpI_step rfl rfl
      intro K hK
      go_simp
      refine hK _ _ (fun _ => ?_) ?_
      · refine HJ.out _ ?_
        repeat (first | with_reducible exact Mvs.refl _ _ | refine Mvs.tr ?_ (Mvs.set _ _ _ rfl))
      clear hK K
      apply Order.wpI_step rfl rfl
      intro K hK
      go_simp
      refine hK _ _ (fun _ => ?_) ?_
      · refine HJ.out _ ?_
        repeat (first | with_reducible exact Mvs.refl _ _ | refine Mvs.tr ?_ (Mvs.set _ _ _ rfl))
      clear hK K
      apply Order.wpI_step rfl rfl
      intro K hK
      go_simp
      refine hK _ _ (fun _ => ?_) ?_
      · refine HJ.out _ ?_
        repeat (first | with_reducible exact Mvs.refl _ _ | refine Mvs.tr ?_ (Mvs.set _ _ _ rfl))
      clear hK K
      refine Order.wpI_nil ?_
      go_wp2_with fail
      refine bodyPost_ret (v := .tuple #[.agg #[.int .u8 g1, .int .u16 g2, .bool g3, .int .u8 g4, .int .u8 g5, .int .u32 g6, .int .u32 g7, .slice ao no co], .slice au nu cu, .int .i64 0]) (by simp [results, Tryz.results56, go_sem, c0, c1, c2, c3, c4, c5, c6, c7]) rfl ?_
      rw [hU'.out]
      refine ⟨_, _, rfl, HFW.out _ ?_⟩
      repeat (first | with_reducible exact Mvs.refl _ _ | refine Mvs.tr ?_ (Mvs.set _ _ _ rfl))
    · have hU' : Hid (ipar l = (Hd.zero, [], e)) := by unfold Hid; rw [hU.out, if_neg (by omega), he]
      have hb : (e != 0) = true := by simpa using he0
      clear hq he hU b0 b1 b2 b3 hv hout hm he0
      simp only [Hd.cells] at b1'
      have c0 := cell_blk b1' 0
      have c1 := cell_blk b1' 1
      have c2 := cell_blk b1' 2
      have c3 := cell_blk b1' 3
      have c4 := cell_blk b1' 4
      have c5 := cell_blk b1' 5
      have c6 := cell_blk b1' 6
      have c7 := cell_blk b1' 7
      simp at c0 c1 c2 c3 c4 c5 c6 c7
      have f1 := fz_blk b1'
      go_wp2_with fail
      refine bodyPost_ret (v := .tuple #[.agg (Hd.zero.cells (.slice none 0 0)), .slice none 0 0, .int .i64 e]) (by simp [results, Tryz.results56, go_sem, c0, c1, c2, c3, c4, c5, c6, c7]) rfl ?_
      rw [hU'.out]
      refine ⟨_, _, rfl, .inl (Own.nil _ _ _ _), .inl (Own.nil _ _ _ _), ?_⟩
      repeat (first | with_reducible exact Below.refl _ _ | with_reducible assumption | with_reducible exact Ext.drN (Ext.rfl' _) _ | with_reducible refine Below.setCell ?_ ?_ _ | with_reducible refine Ext.al ?_ _ | with_reducible refine Ext.drN ?_ _ | with_reducible refine Ext.dr ?_ | exact Nat.le_refl _ | omega | (dsimp only; omega) | (show _ ≤ _; omega) | (simp; done) | (simp; omega))
end Go.Proofs.YtbaidlkjbdeceaaGreat
