/-
  Proved here: what culvertref05's Mss, Scale, SackOk, WithScale compute.
-/
import Derived.Test.YtckdcjheflgmdaaOptW
import Derived.Deep.Cut
namespace Go.Proofs.Ytckdcjheflgmdaa
set_option maxRecDepth 16000
open Go.ChangeShapes Go.WideShapes Go.ChangeAt Go.RowKit Go.Cul Go.Loose
set_option linter.unusedVariables false
attribute [local go_sem] Loose.Still Loose.Upon Loose.vUpon

theorem fndO_at {p : Op1 → Bool} {os : List Op1} {k : Nat} (hk : k < os.length) (h1 : ∀ j, j < k → p (os.getD j (0, [])) = false) (h2 : p (os.getD k (0, [])) = true) : fndO p os = (os.getD k (0, [])).2 ∧ os.any p = true := by
  have h := firstIx_at hk h1 h2
  obtain ⟨k', q0, -, q1, -, q2⟩ := firstIx_pos (p := p) (os := os) (by rw [h]; omega)
  rw [h] at q0
  have : k = k' := by omega
  subst this
  exact ⟨q1, q2⟩
theorem fndO_none {p : Op1 → Bool} {os : List Op1} (h1 : ∀ j, j < os.length → p (os.getD j (0, [])) = false) : fndO p os = [] ∧ os.any p = false :=
  firstIx_neg (by rw [firstIx_none h1]; decide)
theorem all_next {p : Op1 → Bool} {os : List Op1} {k : Nat} (h1 : ∀ j, j < k → p (os.getD j (0, [])) = false) (h2 : p (os.getD k (0, [])) = false) : ∀ j, j < k + 1 → p (os.getD j (0, [])) = false := fun j hj => by
  rcases (by omega : j < k ∨ j = k) with h | rfl
  · exact h1 j h
  · exact h2

set_option maxHeartbeats 1000000 in
theorem r5mss_any (v : Value) (os : List Op1) (w : World) (hv : RdO w v os) (hb : BytO os) :
    Calls Try.prog 26 #[v] w fun e w' => e = .returned (.tuple #[.int .u16 (omss os), .bool (os.any (kl 2 (fun n => decide (n = 2))))]) ∧ Ext w w' := by
  obtain ⟨a, cap, rfl, hc1, hc2, hr⟩ := id hv
  unfold maxLen at hc2
  have HR := Lib.hid hr
  have HB := Lib.hid hb
  clear hr hb hv
  have hm : Hid (omss os = if os.any (kl 2 (fun n => decide (n = 2))) then (fndO (kl 2 (fun n => decide (n = 2))) os).getD 0 0 * 256 + (fndO (kl 2 (fun n => decide (n = 2))) os).getD 1 0 else 0) := rfl
  go_enter Try.func26, Try.ntmps26
  go_wp2_with fail
  go_loopw [4] (fun i wr => ∃ k : Nat, k ≤ os.length ∧ i = .int .i64 k ∧ Hid (∀ j, j < k → kl 2 (fun n => decide (n = 2)) (os.getD j (0, [])) = false) ∧ Ext w wr) (fun i _ => os.length - (intOf i).toNat)
  case atStart => exact ⟨0, Nat.zero_le _, rfl, (fun j hj => by omega), Ext.rfl' _⟩
  case round =>
    obtain ⟨k, hk, rfl, hpre, hx⟩ := hrel
    by_cases hlt : k < os.length
    · rcases HR.out with h0 | ⟨b, o, rfl, hrw⟩
      · rw [h0] at hlt; simp at hlt
      obtain ⟨u, e0, e1, hu⟩ := hrw k hlt
      clear hrw
      have e0 := hx.cell e0
      have e1 := hx.cell e1
      have hu := hu.ext hx
      have hnx := Lib.hid (fun h => all_next hpre.out h)
      have hat := Lib.hid (fun h => fndO_at hlt hpre.out h)
      have hby := (HB.out.at k).2
      generalize os.getD k (0, []) = x at *
      obtain ⟨kx, D⟩ := x
      dsimp only at e0 hu hby
      obtain ⟨ad, cd, rfl, hd1, hd2, -⟩ := id hu
      unfold maxLen at hd2
      rcases hkx : (kx == 2) with _ | _
      · have hn2 : Hid (∀ j, j < k + 1 → kl 2 (fun n => decide (n = 2)) (os.getD j (0, [])) = false) := hnx.out (by unfold kl; rw [hkx]; rfl)
        clear hu hnx hat
        go_wp2_with fail
        go_roundw
        case rel => exact ⟨k + 1, by omega, by go_num, hn2, hx⟩
        case measure => simp [intOf]; omega
      · by_cases hD : D.length = 2
        · obtain ⟨q1, q2⟩ := hat.out (by unfold kl; rw [hkx]; simp [hD])
          obtain ⟨b', o', cap', he, hcap, c0, c1⟩ := rd_2 hu hD
          rw [hD] at he
          cases he
          have hD0 := hby.getD' 0
          have hD1 := hby.getD' 1
          have hU : Hid (omss os = D.getD 0 0 * 256 + D.getD 1 0) := by unfold Hid; rw [hm.out, q2, if_pos rfl, q1]
          have HA := Lib.hid q2
          rw [hD] at e1 hd1
          generalize D.getD 0 0 = x at *
          generalize D.getD 1 0 = y at *
          have w1 : IntKind.u16.wrap x = x := by simp [IntKind.wrap, IntKind.bits, IntKind.signed]; omega
          have w2 : IntKind.u16.wrap y = y := by simp [IntKind.wrap, IntKind.bits, IntKind.signed]; omega
          have w3 : IntKind.u16.wrap (x * 256) = x * 256 := by simp [IntKind.wrap, IntKind.bits, IntKind.signed]; omega
          have w4 : IntKind.u16.wrap (x * 256 + y) = x * 256 + y := by simp [IntKind.wrap, IntKind.bits, IntKind.signed]; omega
          clear hu hnx hat q1 q2 hD hby
          go_upto_region 5 with (fail)
          refine wp_region_grow [] lasts_nil (by kernel_rfl) (by kernel_rfl) ?_
          iterate 20
            apply wpL_none rfl rfl
            · intro w' hw' hn'; have e1 := Ext.cell hw' e1; have c0 := Ext.cell hw' c0; have c1 := Ext.cell hw' c1; go_simp; exact rfl
            intro K hK; go_simp; refine hK _ _ ?_; clear hK K
          refine wpL_nil ?_
          intro w5 hw5 hD5
          clear hD5 e0 e1 c0 c1
          go_wp2_with fail
          go_ret2
          exact ⟨by rw [hU.out, HA.out]; rfl, hx.tr hw5⟩
        · have hn2 : Hid (∀ j, j < k + 1 → kl 2 (fun n => decide (n = 2)) (os.getD j (0, [])) = false) := hnx.out (by unfold kl; simp [hD])
          have hD' : ((D.length : Int) == 2) = false := by rw [beq_eq_false_iff_ne]; omega
          clear hu hnx hat hD
          go_wp2_with fail
          go_roundw
          case rel => exact ⟨k + 1, by omega, by go_num, hn2, hx⟩
          case measure => simp [intOf]; omega
    · obtain rfl : k = os.length := by omega
      obtain ⟨q1, q2⟩ := fndO_none hpre.out
      have hU : Hid (omss os = 0) := by unfold Hid; rw [hm.out, q2]; rfl
      have HA := Lib.hid q2
      clear q1 q2
      go_wp2_with fail
      go_ret2
      exact ⟨by rw [hU.out, HA.out]; rfl, hx⟩

set_option maxHeartbeats 1000000 in
theorem r5scale_any (v : Value) (os : List Op1) (w : World) (hv : RdO w v os) (hb : BytO os) :
    Calls Try.prog 27 #[v] w fun e w' => e = .returned (.tuple #[.int .i64 (oscale os), .bool (os.any (kl 3 (fun n => decide (n = 1))))]) ∧ Ext w w' := by
  obtain ⟨a, cap, rfl, hc1, hc2, hr⟩ := id hv
  unfold maxLen at hc2
  have HR := Lib.hid hr
  have HB := Lib.hid hb
  clear hr hb hv
  have hm : Hid (oscale os = if os.any (kl 3 (fun n => decide (n = 1))) then (if (fndO (kl 3 (fun n => decide (n = 1))) os).getD 0 0 ≤ 14 then (fndO (kl 3 (fun n => decide (n = 1))) os).getD 0 0 else 14) else 0) := rfl
  go_enter Try.func27, Try.ntmps27
  go_wp2_with fail
  go_loopw [4] (fun i wr => ∃ k : Nat, k ≤ os.length ∧ i = .int .i64 k ∧ Hid (∀ j, j < k → kl 3 (fun n => decide (n = 1)) (os.getD j (0, [])) = false) ∧ Ext w wr) (fun i _ => os.length - (intOf i).toNat)
  case atStart => exact ⟨0, Nat.zero_le _, rfl, (fun j hj => by omega), Ext.rfl' _⟩
  case round =>
    obtain ⟨k, hk, rfl, hpre, hx⟩ := hrel
    by_cases hlt : k < os.length
    · rcases HR.out with h0 | ⟨b, o, rfl, hrw⟩
      · rw [h0] at hlt; simp at hlt
      obtain ⟨u, e0, e1, hu⟩ := hrw k hlt
      clear hrw
      have e0 := hx.cell e0
      have e1 := hx.cell e1
      have hu := hu.ext hx
      have hnx := Lib.hid (fun h => all_next hpre.out h)
      have hat := Lib.hid (fun h => fndO_at hlt hpre.out h)
      have hby := (HB.out.at k).2
      generalize os.getD k (0, []) = x at *
      obtain ⟨kx, D⟩ := x
      dsimp only at e0 hu hby
      obtain ⟨ad, cd, rfl, hd1, hd2, -⟩ := id hu
      unfold maxLen at hd2
      rcases hkx : (kx == 3) with _ | _
      · have hn2 : Hid (∀ j, j < k + 1 → kl 3 (fun n => decide (n = 1)) (os.getD j (0, [])) = false) := hnx.out (by unfold kl; rw [hkx]; rfl)
        clear hu hnx hat
        go_wp2_with fail
        go_roundw
        case rel => exact ⟨k + 1, by omega, by go_num, hn2, hx⟩
        case measure => simp [intOf]; omega
      · by_cases hD : D.length = 1
        · obtain ⟨q1, q2⟩ := hat.out (by unfold kl; rw [hkx]; simp [hD])
          obtain ⟨b', o', cap', he, hcap, c0⟩ := rd_1 hu hD
          rw [hD] at he
          cases he
          have hD0 := hby.getD' 0
          have hU : Hid (oscale os = if D.getD 0 0 ≤ 14 then D.getD 0 0 else 14) := by unfold Hid; rw [hm.out, q2, if_pos rfl, q1]
          have HA := Lib.hid q2
          rw [hD] at e1 hd1
          generalize D.getD 0 0 = x at *
          have w1 : IntKind.i64.wrap x = x := by rw [IntWalk.i64_in _ (by omega)]
          clear hu hnx hat q1 q2 hD hby
          by_cases h14 : x ≤ 14
          · rw [if_pos h14] at hU
            have h14' : ¬ 14 < x := by omega
            go_wp2_with fail
            go_ret2
            exact ⟨by rw [hU.out, HA.out]; rfl, hx⟩
          · rw [if_neg h14] at hU
            have h14' : 14 < x := by omega
            go_wp2_with fail
            go_ret2
            exact ⟨by rw [hU.out, HA.out]; rfl, hx⟩
        · have hn2 : Hid (∀ j, j < k + 1 → kl 3 (fun n => decide (n = 1)) (os.getD j (0, [])) = false) := hnx.out (by unfold kl; simp [hD])
          have hD' : ((D.length : Int) == 1) = false := by rw [beq_eq_false_iff_ne]; omega
          clear hu hnx hat hD
          go_wp2_with fail
          go_roundw
          case rel => exact ⟨k + 1, by omega, by go_num, hn2, hx⟩
          case measure => simp [intOf]; omega
    · obtain rfl : k = os.length := by omega
      obtain ⟨q1, q2⟩ := fndO_none hpre.out
      have hU : Hid (oscale os = 0) := by unfold Hid; rw [hm.out, q2]; rfl
      have HA := Lib.hid q2
      clear q1 q2
      go_wp2_with fail
      go_ret2
      exact ⟨by rw [hU.out, HA.out]; rfl, hx⟩

set_option maxHeartbeats 1000000 in
theorem r5sackok_any (v : Value) (os : List Op1) (w : World) (hv : RdO w v os) :
    Calls Try.prog 29 #[v] w fun e w' => e = .returned (.bool (os.any (kl 4 (fun n => decide (n = 0))))) ∧ Ext w w' := by
  obtain ⟨a, cap, rfl, hc1, hc2, hr⟩ := id hv
  unfold maxLen at hc2
  have HR := Lib.hid hr
  clear hr hv
  go_enter Try.func29, Try.ntmps29
  go_wp2_with fail
  go_loopw [3] (fun i wr => ∃ k : Nat, k ≤ os.length ∧ i = .int .i64 k ∧ Hid (∀ j, j < k → kl 4 (fun n => decide (n = 0)) (os.getD j (0, [])) = false) ∧ Ext w wr) (fun i _ => os.length - (intOf i).toNat)
  case atStart => exact ⟨0, Nat.zero_le _, rfl, (fun j hj => by omega), Ext.rfl' _⟩
  case round =>
    obtain ⟨k, hk, rfl, hpre, hx⟩ := hrel
    by_cases hlt : k < os.length
    · rcases HR.out with h0 | ⟨b, o, rfl, hrw⟩
      · rw [h0] at hlt; simp at hlt
      obtain ⟨u, e0, e1, hu⟩ := hrw k hlt
      clear hrw
      have e0 := hx.cell e0
      have e1 := hx.cell e1
      have hnx := Lib.hid (fun h => all_next hpre.out h)
      have hat := Lib.hid (fun h => fndO_at hlt hpre.out h)
      generalize os.getD k (0, []) = x at *
      obtain ⟨kx, D⟩ := x
      dsimp only at e0 hu
      obtain ⟨ad, cd, rfl, hd1, hd2, -⟩ := id hu
      unfold maxLen at hd2
      rcases hkx : (kx == 4) with _ | _
      · have hn2 : Hid (∀ j, j < k + 1 → kl 4 (fun n => decide (n = 0)) (os.getD j (0, [])) = false) := hnx.out (by unfold kl; rw [hkx]; rfl)
        clear hu hnx hat
        go_wp2_with fail
        go_roundw
        case rel => exact ⟨k + 1, by omega, by go_num, hn2, hx⟩
        case measure => simp [intOf]; omega
      · by_cases hD : D.length = 0
        · obtain ⟨q1, q2⟩ := hat.out (by unfold kl; rw [hkx]; simp [hD])
          have HA := Lib.hid q2
          have hD' : (D.length : Int) = 0 := by omega
          clear hu hnx hat q1 q2 hD
          go_wp2_with fail
          go_ret
          exact ⟨by rw [HA.out]; rfl, hx⟩
        · have hn2 : Hid (∀ j, j < k + 1 → kl 4 (fun n => decide (n = 0)) (os.getD j (0, [])) = false) := hnx.out (by unfold kl; dsimp only; rw [decide_eq_false hD, Bool.and_false])
          have hD' : ((D.length : Int) == 0) = false := by rw [beq_eq_false_iff_ne]; omega
          clear hu hnx hat hD
          go_wp2_with fail
          go_roundw
          case rel => exact ⟨k + 1, by omega, by go_num, hn2, hx⟩
          case measure => simp [intOf]; omega
    · obtain rfl : k = os.length := by omega
      obtain ⟨q1, q2⟩ := fndO_none hpre.out
      have HA := Lib.hid q2
      clear q1 q2
      go_wp2_with fail
      go_ret
      exact ⟨by rw [HA.out]; rfl, hx⟩
end Go.Proofs.Ytckdcjheflgmdaa
