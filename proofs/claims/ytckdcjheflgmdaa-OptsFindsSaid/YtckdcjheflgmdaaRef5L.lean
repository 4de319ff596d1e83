/-
  Proved here: what culvertref05's WithScale and WithSacks, and the law's sameBlocks, compute.
-/
import Derived.Test.YtckdcjheflgmdaaRef5K
import Derived.Deep.Cut
namespace Go.Proofs.Ytckdcjheflgmdaa
set_option maxRecDepth 16000
open Go.ChangeShapes Go.WideShapes Go.ChangeAt Go.RowKit Go.Cul Go.Loose
set_option linter.unusedVariables false
attribute [local go_sem] Loose.Still Loose.Upon Loose.vUpon

theorem bys_four (n : Int) (h : 0 ≤ n ∧ n ≤ 4294967295) : bys 4 n = by4 n := by
  simp [bys, by4]; omega

theorem rd_of1 {W : World} {b : Nat} {m : Int} {t : TypeId} (hW : W.heap[b]? = some (.cells #[.int .u8 m] t)) : Rd .u8 W (.slice (some ⟨b, 0, none⟩) 1 1) [m] := by
  refine ⟨_, 1, rfl, by simp, by decide, .inr ⟨_, 0, rfl, fun i hi => ?_⟩⟩
  obtain rfl : i = 0 := by simpa using hi
  rw [cell_blk hW]; rfl
set_option maxHeartbeats 1000000 in
theorem r5withscale_any (n m : Int) (w : World) (hn : -9223372036854775808 ≤ n ∧ n ≤ 9223372036854775807) (hm : m = if n < 0 then 0 else if 14 < n then 14 else n) :
    Calls Try.prog 36 #[.int .i64 n] w fun e w' => ∃ u, e = .returned (.agg #[.int .u8 3, u]) ∧ Rd .u8 w' u [m] ∧ Ext w w' := by
  have hm0 : 0 ≤ m ∧ m ≤ 14 := by rw [hm]; split <;> (try split) <;> omega
  clear hm0
  by_cases h0 : n < 0
  · rw [if_pos h0] at hm
    subst hm
    have hw : IntKind.u8.wrap 0 = 0 := by decide
    go_enter Try.func36, Try.ntmps36
    go_upto_region 5 with (fail)
    have k0 := heap_alloc_new w (.cells #[.int .u8 0, .slice none 0 0] 31)
    have hx0 := Ext.new w (.cells #[.int .u8 0, .slice none 0 0] 31)
    have hs0 : (w.alloc (.cells #[.int .u8 0, .slice none 0 0] 31)).heap.size = w.heap.size + 1 := by simp
    generalize World.alloc w _ = w1 at *
    have k2' := set_blk (set_blk k0 0 (.int .u8 3)) 1 (.slice (some ⟨w.heap.size + 1, 0, none⟩) 1 1)
    simp only [List.setIfInBounds_toArray, List.set_cons_zero, List.set_cons_succ] at k2'
    have k2 := (Ext.new ((w1.setCell ⟨w.heap.size, 0, none⟩ (.int .u8 3)).setCell ⟨w.heap.size, 1, none⟩ (.slice (some ⟨w.heap.size + 1, 0, none⟩) 1 1)) (.cells #[.int .u8 0] 5)).block k2'
    have hs2 : ((w1.setCell ⟨w.heap.size, 0, none⟩ (.int .u8 3)).setCell ⟨w.heap.size, 1, none⟩ (.slice (some ⟨w.heap.size + 1, 0, none⟩) 1 1)).heap.size = w.heap.size + 1 := by simp [hs0]
    have kb2 := heap_alloc_new ((w1.setCell ⟨w.heap.size, 0, none⟩ (.int .u8 3)).setCell ⟨w.heap.size, 1, none⟩ (.slice (some ⟨w.heap.size + 1, 0, none⟩) 1 1)) (.cells #[.int .u8 0] 5)
    rw [hs2] at kb2
    have hxf : Ext w (((w1.setCell ⟨w.heap.size, 0, none⟩ (.int .u8 3)).setCell ⟨w.heap.size, 1, none⟩ (.slice (some ⟨w.heap.size + 1, 0, none⟩) 1 1)).alloc (.cells #[.int .u8 0] 5)) := Ext.al (Below.setCell (Below.setCell hx0 (by simp) _) (by simp) _) _
    have d0 := cell_blk k0 0
    have d1 := cell_blk k0 1
    have dz := fz_blk k0
    simp at d0 d1
    clear k0 k2'
    go_wp2_with fail
    refine bodyPost_ret (v := .agg #[.int .u8 3, .slice (some ⟨w.heap.size + 1, 0, none⟩) 1 1]) (by have c0 := cell_blk k2 0; have c1 := cell_blk k2 1; simp at c0 c1; simp [results, Try.results36, go_sem, c0, c1]) rfl ?_
    exact ⟨_, rfl, rd_of1 kb2, hxf⟩
  · by_cases h14 : 14 < n
    · rw [if_neg h0, if_pos h14] at hm
      subst hm
      have hw : IntKind.u8.wrap 14 = 14 := by decide
      go_enter Try.func36, Try.ntmps36
      go_upto_region 5 with (fail)
      have k0 := heap_alloc_new w (.cells #[.int .u8 0, .slice none 0 0] 31)
      have hx0 := Ext.new w (.cells #[.int .u8 0, .slice none 0 0] 31)
      have hs0 : (w.alloc (.cells #[.int .u8 0, .slice none 0 0] 31)).heap.size = w.heap.size + 1 := by simp
      generalize World.alloc w _ = w1 at *
      have k2' := set_blk (set_blk k0 0 (.int .u8 3)) 1 (.slice (some ⟨w.heap.size + 1, 0, none⟩) 1 1)
      simp only [List.setIfInBounds_toArray, List.set_cons_zero, List.set_cons_succ] at k2'
      have k2 := (Ext.new ((w1.setCell ⟨w.heap.size, 0, none⟩ (.int .u8 3)).setCell ⟨w.heap.size, 1, none⟩ (.slice (some ⟨w.heap.size + 1, 0, none⟩) 1 1)) (.cells #[.int .u8 14] 5)).block k2'
      have hs2 : ((w1.setCell ⟨w.heap.size, 0, none⟩ (.int .u8 3)).setCell ⟨w.heap.size, 1, none⟩ (.slice (some ⟨w.heap.size + 1, 0, none⟩) 1 1)).heap.size = w.heap.size + 1 := by simp [hs0]
      have kb2 := heap_alloc_new ((w1.setCell ⟨w.heap.size, 0, none⟩ (.int .u8 3)).setCell ⟨w.heap.size, 1, none⟩ (.slice (some ⟨w.heap.size + 1, 0, none⟩) 1 1)) (.cells #[.int .u8 14] 5)
      rw [hs2] at kb2
      have hxf : Ext w (((w1.setCell ⟨w.heap.size, 0, none⟩ (.int .u8 3)).setCell ⟨w.heap.size, 1, none⟩ (.slice (some ⟨w.heap.size + 1, 0, none⟩) 1 1)).alloc (.cells #[.int .u8 14] 5)) := Ext.al (Below.setCell (Below.setCell hx0 (by simp) _) (by simp) _) _
      have d0 := cell_blk k0 0
      have d1 := cell_blk k0 1
      have dz := fz_blk k0
      simp at d0 d1
      clear k0 k2'
      go_wp2_with fail
      refine bodyPost_ret (v := .agg #[.int .u8 3, .slice (some ⟨w.heap.size + 1, 0, none⟩) 1 1]) (by have c0 := cell_blk k2 0; have c1 := cell_blk k2 1; simp at c0 c1; simp [results, Try.results36, go_sem, c0, c1]) rfl ?_
      exact ⟨_, rfl, rd_of1 kb2, hxf⟩
    · rw [if_neg h0, if_neg h14] at hm
      subst hm
      have hw : IntKind.u8.wrap m = m := by simp [IntKind.wrap, IntKind.bits, IntKind.signed]; omega
      go_enter Try.func36, Try.ntmps36
      go_upto_region 5 with (fail)
      have k0 := heap_alloc_new w (.cells #[.int .u8 0, .slice none 0 0] 31)
      have hx0 := Ext.new w (.cells #[.int .u8 0, .slice none 0 0] 31)
      have hs0 : (w.alloc (.cells #[.int .u8 0, .slice none 0 0] 31)).heap.size = w.heap.size + 1 := by simp
      generalize World.alloc w _ = w1 at *
      have k2' := set_blk (set_blk k0 0 (.int .u8 3)) 1 (.slice (some ⟨w.heap.size + 1, 0, none⟩) 1 1)
      simp only [List.setIfInBounds_toArray, List.set_cons_zero, List.set_cons_succ] at k2'
      have k2 := (Ext.new ((w1.setCell ⟨w.heap.size, 0, none⟩ (.int .u8 3)).setCell ⟨w.heap.size, 1, none⟩ (.slice (some ⟨w.heap.size + 1, 0, none⟩) 1 1)) (.cells #[.int .u8 m] 5)).block k2'
      have hs2 : ((w1.setCell ⟨w.heap.size, 0, none⟩ (.int .u8 3)).setCell ⟨w.heap.size, 1, none⟩ (.slice (some ⟨w.heap.size + 1, 0, none⟩) 1 1)).heap.size = w.heap.size + 1 := by simp [hs0]
      have kb2 := heap_alloc_new ((w1.setCell ⟨w.heap.size, 0, none⟩ (.int .u8 3)).setCell ⟨w.heap.size, 1, none⟩ (.slice (some ⟨w.heap.size + 1, 0, none⟩) 1 1)) (.cells #[.int .u8 m] 5)
      rw [hs2] at kb2
      have hxf : Ext w (((w1.setCell ⟨w.heap.size, 0, none⟩ (.int .u8 3)).setCell ⟨w.heap.size, 1, none⟩ (.slice (some ⟨w.heap.size + 1, 0, none⟩) 1 1)).alloc (.cells #[.int .u8 m] 5)) := Ext.al (Below.setCell (Below.setCell hx0 (by simp) _) (by simp) _) _
      have d0 := cell_blk k0 0
      have d1 := cell_blk k0 1
      have dz := fz_blk k0
      simp at d0 d1
      clear k0 k2'
      go_wp2_with fail
      refine bodyPost_ret (v := .agg #[.int .u8 3, .slice (some ⟨w.heap.size + 1, 0, none⟩) 1 1]) (by have c0 := cell_blk k2 0; have c1 := cell_blk k2 1; simp at c0 c1; simp [results, Try.results36, go_sem, c0, c1]) rfl ?_
      exact ⟨_, rfl, rd_of1 kb2, hxf⟩

set_option maxHeartbeats 1000000 in
theorem r5withsacks_any (v : Value) (bs : List Bk) (w : World) (hv : RdB w v bs) (hb : okB bs) :
    Calls Try.prog 32 #[v] w fun e w' => ∃ u, e = .returned (.tuple #[.agg #[.int .u8 (owith bs).1.1, u], .int .i64 (owith bs).2]) ∧ Fr w' w.heap.size 5 .u8 u (owith bs).1.2 ∧ Ext w w' := by
  obtain ⟨a, cap, rfl, hc1, hc2, hr⟩ := id hv
  unfold maxLen at hc2
  have HR := Lib.hid hr
  have HB := Lib.hid hb
  clear hr hb hv
  go_enter Try.func32, Try.ntmps32
  go_upto_region 1 with (fail)
  have k2 := heap_alloc_new w (.cells #[.int .u8 0, .slice none 0 0] 31)
  have hx0 := Ext.new w (.cells #[.int .u8 0, .slice none 0 0] 31)
  have hs0 : (w.alloc (.cells #[.int .u8 0, .slice none 0 0] 31)).heap.size = w.heap.size + 1 := by simp
  generalize World.alloc w _ = w1 at *
  have c0 := cell_blk k2 0
  have c1 := cell_blk k2 1
  simp at c0 c1
  have hz := fz_blk k2
  by_cases h0 : bs.length = 0
  · have hU : Hid (owith bs = ((0, []), 1)) := by unfold Hid owith; rw [if_pos h0]
    have h0' : (bs.length : Int) = 0 := by omega
    have k3 := set_blk (set_blk k2 0 (.int .u8 0)) 1 (.slice none 0 0)
    simp at k3
    clear h0 k2
    go_wp2_with fail
    refine bodyPost_ret (v := .tuple #[.agg #[.int .u8 0, .slice none 0 0], .int .i64 1]) (by have c0 := cell_blk k3 0; have c1 := cell_blk k3 1; simp at c0 c1; simp [results, Try.results32, go_sem, c0, c1]) rfl ?_
    rw [hU.out]
    refine ⟨_, rfl, .inr ⟨_, rfl, rfl⟩, ?_⟩
    repeat (first | with_reducible exact Below.refl _ _ | with_reducible assumption | with_reducible exact Ext.drN (Ext.rfl' _) _ | with_reducible refine Below.setCell ?_ ?_ _ | with_reducible refine Ext.al ?_ _ | with_reducible refine Ext.drN ?_ _ | with_reducible refine Ext.dr ?_ | exact Nat.le_refl _ | omega | (dsimp only; omega) | (show _ ≤ _; omega) | (simp; done) | (simp; omega))
  by_cases h4 : 4 < bs.length
  · have hU : Hid (owith bs = ((0, []), 3)) := by unfold Hid owith; rw [if_neg h0, if_pos h4]
    have h0' : ((bs.length : Int) == 0) = false := by rw [beq_eq_false_iff_ne]; omega
    have h4' : (4 : Int) < (bs.length : Int) := by omega
    have k3 := set_blk (set_blk k2 0 (.int .u8 0)) 1 (.slice none 0 0)
    simp at k3
    clear h0 h4 k2
    go_wp2_with fail
    refine bodyPost_ret (v := .tuple #[.agg #[.int .u8 0, .slice none 0 0], .int .i64 3]) (by have c0 := cell_blk k3 0; have c1 := cell_blk k3 1; simp at c0 c1; simp [results, Try.results32, go_sem, c0, c1]) rfl ?_
    rw [hU.out]
    refine ⟨_, rfl, .inr ⟨_, rfl, rfl⟩, ?_⟩
    repeat (first | with_reducible exact Below.refl _ _ | with_reducible assumption | with_reducible exact Ext.drN (Ext.rfl' _) _ | with_reducible refine Below.setCell ?_ ?_ _ | with_reducible refine Ext.al ?_ _ | with_reducible refine Ext.drN ?_ _ | with_reducible refine Ext.dr ?_ | exact Nat.le_refl _ | omega | (dsimp only; omega) | (show _ ≤ _; omega) | (simp; done) | (simp; omega))
  have hU : Hid (owith bs = ((5, flatB bs), 0)) := by unfold Hid owith; rw [if_neg h0, if_neg h4]
  have h0' : ((bs.length : Int) == 0) = false := by rw [beq_eq_false_iff_ne]; omega
  have h4' : ¬ (4 : Int) < (bs.length : Int) := by omega
  clear h0 h4
  go_upto_region 6 with (fail)
  have k4 : (w1.alloc (.cells #[.int .u8 5, .slice none 0 0] 31)).heap[w.heap.size + 1]? = some (.cells #[.int .u8 5, .slice none 0 0] 31) := by rw [← hs0]; exact heap_alloc_new w1 _
  have k2 := (Ext.new w1 (.cells #[.int .u8 5, .slice none 0 0] 31)).block k2
  have hx2 := hx0.al (.cells #[.int .u8 5, .slice none 0 0] 31)
  have hs2 : w.heap.size + 2 ≤ (w1.alloc (.cells #[.int .u8 5, .slice none 0 0] 31)).heap.size := by simp; omega
  generalize World.alloc w1 _ = w2 at *
  clear c0 c1 hz hs0 hx0
  go_wp2_with fail
  go_loopw [5] (fun i wr => ∃ (k : Nat) (u : Value), k ≤ bs.length ∧ i = .int .i64 k ∧ wr.heap[w.heap.size + 1]? = some (.cells #[.int .u8 5, u] 31) ∧ wr.heap[w.heap.size]? = some (.cells #[.int .u8 0, .slice none 0 0] 31) ∧ Fr wr (w.heap.size + 2) 5 .u8 u (flatB (bs.take k)) ∧ Ext w wr) (fun i _ => bs.length - (intOf i).toNat)
  case atStart => exact ⟨0, _, Nat.zero_le _, rfl, k4, k2, .inr ⟨_, rfl, rfl⟩, hx2⟩
  case round =>
    obtain ⟨k, u, hk, rfl, k4, k2, hu, hx⟩ := hrel
    by_cases hlt : k < bs.length
    · rcases HR.out with h0 | ⟨b, o, rfl, hrw⟩
      · rw [h0] at hlt; simp at hlt
      obtain ⟨e0, e1⟩ := hrw k hlt
      have e0 := hx.cell e0
      have e1 := hx.cell e1
      obtain ⟨hf, ht⟩ := HB.out.at k
      have htk := flatB_take hlt
      have hfl : (flatB (bs.take k)).length ≤ 8 * 4 := by rw [flatB_len, List.length_take]; omega
      generalize flatB (bs.take k) = N at *
      generalize bs.getD k (0, 0) = y at *
      obtain ⟨x, y⟩ := y
      dsimp only at e0 e1 hf ht htk
      have HT := Lib.hid htk
      obtain ⟨au, nu, cu, rfl⟩ := hu.rd.shape
      have HU := Lib.hid hu
      have hs3 : w.heap.size + 2 ≤ wr.heap.size := by have := lt_of_block k4; omega
      clear hrw htk hu
      go_upto_region 9 with (fail)
      have hxw := hx
      have hsW := hs3
      have y0 := cell_blk k4 0
      have y1 := cell_blk k4 1
      simp at y0 y1
      refine wp_region_tail 14 [(7, fun v w' => Own w' (w.heap.size + 2) 5 .u8 v (N ++ by4 x)), (13, fun v w' => Own w' (w.heap.size + 2) 5 .u8 v (N ++ (by4 x ++ by4 y)))] ?_ (by kernel_rfl) (by kernel_rfl) (by kernel_rfl) ?_
      · exact lasts_cons (fun _ _ _ hx h => Own.kept h hx) (lasts_cons (fun _ _ _ hx h => Own.kept h hx) lasts_nil)
      simp only [List.take, List.drop]
      iterate 7
        apply wpL_none rfl rfl
        · intro w' hw' hn'; have y1 := Ext.cell hw' y1; have e0 := Ext.cell hw' e0; go_simp; exact rfl
        intro K hK; go_simp; refine hK _ _ ?_; clear hK K
      apply wpL_some rfl rfl
      · intro w' hw' hn'
        go_simp
        refine ⟨Ext.rfl' _, ?_⟩
        refine (rlay_any _ N x 4 w' (HU.out.rd.ext hw') (by omega) (by omega) hf).mono ?_
        rw [bys_four x hf]
        rintro e w3 ⟨u3, rfl, hu3, hx3⟩
        exact ⟨_, rfl, hx3, hu3.low (Nat.le_trans hsW hw'.size)⟩
      intro v4 w4 hw4 hD4 hv4
      obtain ⟨a4, n4, c4, rfl⟩ := hv4.rd.shape
      clear hw4 hD4 hv4 w4
      intro K hK; go_simp; refine hK _ _ ?_; clear hK K
      iterate 5
        apply wpL_none rfl rfl
        · intro w' hw' hn'; have e1 := Ext.cell hw' e1; go_simp; exact rfl
        intro K hK; go_simp; refine hK _ _ ?_; clear hK K
      apply wpL_some rfl rfl
      · intro w' hw' hn'
        have q : Own w' (w.heap.size + 2) 5 .u8 _ (N ++ by4 x) := hn' ⟨7, .data⟩ (by simp) rfl
        go_simp
        refine ⟨Ext.rfl' _, ?_⟩
        refine (rlay_any _ (N ++ by4 x) y 4 w' q.rd (by simp [by4]; omega) (by omega) ht).mono ?_
        rw [bys_four y ht]
        rintro e w3 ⟨u3, rfl, hu3, hx3⟩
        exact ⟨_, rfl, hx3, by rw [← List.append_assoc]; exact hu3.low (Nat.le_trans hsW hw'.size)⟩
      intro v7 w7 hw7 hD7 hv7
      obtain ⟨a7, n7, c7, rfl⟩ := hv7.rd.shape
      clear hw7 hD7 hv7 w7
      intro K hK; go_simp; refine hK _ _ ?_; clear hK K
      refine wpL_nil ?_
      intro w' hw' hD'
      have hv7 := hD' 13
      simp [Loose.upd] at hv7
      have k4 := Ext.block hw' k4
      have k2 := Ext.block hw' k2
      have hx' : Ext w w' := hxw.tr hw'
      have y0 := cell_blk k4 0
      have y1 := cell_blk k4 1
      simp at y0 y1
      have hz := fz_blk k4
      iterate 1
        apply wpVL_step rfl
        intro K hK
        go_simp
        refine hK _ _ ?_
        clear hK K
      apply wpVL_step rfl
      intro K hK
      go_simp
      refine hK _ _ ?_
      clear hK K
      refine wpVL_nil ?_
      try simp only [Act.put]
      have k5 := set_blk k4 1 (.slice a7 n7 c7)
      simp at k5
      have k6 : (w'.setCell ⟨w.heap.size + 1, 1, none⟩ (.slice a7 n7 c7)).heap[w.heap.size]? = some (.cells #[.int .u8 0, .slice none 0 0] 31) := set_oth k2 (by omega) _ _
      have hu' : Fr (w'.setCell ⟨w.heap.size + 1, 1, none⟩ (.slice a7 n7 c7)) (w.heap.size + 2) 5 .u8 (.slice a7 n7 c7) (N ++ (by4 x ++ by4 y)) := fr_setO (.inl hv7) (by simp)
      have hxf : Ext w (w'.setCell ⟨w.heap.size + 1, 1, none⟩ (.slice a7 n7 c7)) := Below.setCell hx' (by simp) _
      clear k4 k2 hz hw' hD' hv7 y0 y1 hxw e0 e1
      generalize World.setCell w' _ _ = W2 at *
      go_wp2_with fail
      go_roundw
      case rel => exact ⟨k + 1, _, by omega, by go_num, k5, k6, by rw [HT.out, List.append_assoc]; exact hu', hxf⟩
      case measure => simp [intOf]; omega
    · obtain rfl : k = bs.length := by omega
      rw [List.take_length] at hu
      obtain ⟨au, nu, cu, rfl⟩ := hu.rd.shape
      have y0 := cell_blk k4 0
      have y1 := cell_blk k4 1
      simp at y0 y1
      have c0 := cell_blk k2 0
      have c1 := cell_blk k2 1
      simp at c0 c1
      have hz := fz_blk k2
      have k3 := set_blk (set_blk k2 0 (.int .u8 5)) 1 (.slice au nu cu)
      simp at k3
      have hfin : ∀ w'' : World, Fr w'' (w.heap.size + 2) 5 .u8 (.slice au nu cu) (flatB bs) → Fr w'' w.heap.size 5 .u8 (.slice au nu cu) (flatB bs) := fun _ h => h.low (by omega)
      clear k2 k4
      go_wp2_with fail
      refine bodyPost_ret (v := .tuple #[.agg #[.int .u8 5, .slice au nu cu], .int .i64 0]) (by have c0 := cell_blk k3 0; have c1 := cell_blk k3 1; simp at c0 c1; simp [results, Try.results32, go_sem, c0, c1]) rfl ?_
      rw [hU.out]
      refine ⟨_, rfl, hfin _ (fr_setO (fr_setO hu (by simp)) (by simp)), ?_⟩
      repeat (first | with_reducible exact Below.refl _ _ | with_reducible assumption | with_reducible exact Ext.drN (Ext.rfl' _) _ | with_reducible refine Below.setCell ?_ ?_ _ | with_reducible refine Ext.al ?_ _ | with_reducible refine Ext.drN ?_ _ | with_reducible refine Ext.dr ?_ | exact Nat.le_refl _ | omega | (dsimp only; omega) | (show _ ≤ _; omega) | (simp; done) | (simp; omega))


theorem sameblocks_any (v1 v2 : Value) (bs : List Bk) (w : World) (h1 : RdB w v1 bs) (h2 : RdB w v2 bs) :
    Calls Try.prog 30 #[v1, v2] w fun e w' => e = .returned (.bool true) ∧ Ext w w' := by
  obtain ⟨a1, c1, rfl, hc1, hc2, hr1⟩ := h1
  obtain ⟨a2, c2, rfl, hc3, hc4, hr2⟩ := h2
  unfold maxLen at hc2 hc4
  have HR1 := Lib.hid hr1
  have HR2 := Lib.hid hr2
  clear hr1 hr2
  go_enter Try.func30, Try.ntmps30
  go_wp2_with fail
  go_loopw [13] (fun i wq => ∃ k : Nat, k ≤ bs.length ∧ i = .int .i64 k ∧ Ext w wq) (fun i _ => bs.length - (intOf i).toNat)
  case atStart => exact ⟨0, Nat.zero_le _, rfl, Ext.rfl' _⟩
  case round =>
    obtain ⟨k, hk, rfl, hx⟩ := hrel
    by_cases hlt : k < bs.length
    · rcases HR1.out with h0 | ⟨b, o, rfl, hrw⟩
      · rw [h0] at hlt; simp at hlt
      rcases HR2.out with h0 | ⟨b', o', rfl, hrw'⟩
      · rw [h0] at hlt; simp at hlt
      obtain ⟨e0, e1⟩ := hrw k hlt
      obtain ⟨z0, z1⟩ := hrw' k hlt
      have e0 := hx.cell e0
      have e1 := hx.cell e1
      have z0 := hx.cell z0
      have z1 := hx.cell z1
      generalize bs.getD k (0, 0) = y at *
      obtain ⟨x, y⟩ := y
      dsimp only at e0 e1 z0 z1
      have hxx : (x == x) = true := by simp
      have hyy : (y == y) = true := by simp
      clear hrw hrw'
      go_upto_region 6 with (fail)
      refine wp_region_grow [] lasts_nil (by kernel_rfl) (by kernel_rfl) ?_
      iterate 9
        apply wpL_none rfl rfl
        · intro w' hw' hn'; have e0 := Ext.cell hw' e0; have e1 := Ext.cell hw' e1; have z0 := Ext.cell hw' z0; have z1 := Ext.cell hw' z1; go_simp; exact rfl
        intro K hK; go_simp; refine hK _ _ ?_; clear hK K
      refine wpL_nil ?_
      intro w5 hw5 hD5
      clear hD5 e0 e1 z0 z1
      go_wp2_with fail
      go_roundw
      case rel => exact ⟨k + 1, by omega, by go_num, hx.tr hw5⟩
      case measure => simp [intOf]; omega
    · obtain rfl : k = bs.length := by omega
      go_wp2_with fail
      go_ret
      exact ⟨rfl, hx⟩
end Go.Proofs.Ytckdcjheflgmdaa
