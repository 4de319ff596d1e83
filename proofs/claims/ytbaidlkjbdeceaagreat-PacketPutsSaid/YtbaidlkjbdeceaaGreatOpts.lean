/-
  Proved here: slices of options as lists; slices.IndexFunc and ContainsFunc over them, whatever the test; opts.Put's test.
-/
import Derived.Test.YtbaidlkjbdeceaaGreatLibs
import Derived.Test.YtbaidlkjbdeceaaGreatSums
import Derived.Test.YtbaidlkjbdeceaaGreatShape
import Derived.Test.YtbaidlkjbdeceaaGreatOptL
import Derived.Test.YtbaidlkjbdeceaaGreatCore
namespace Go.Proofs.YtbaidlkjbdeceaaGreat
set_option maxRecDepth 200000
open Go.ChangeShapes Go.WideShapes Go.ChangeAt Go.RowKit Go.Cul
set_option linter.unusedVariables false

/-- A slice of options that reads as a list. -/
def RdO (w : World) (v : Value) (os : List Op1) : Prop :=
  ∃ a cap, v = .slice a os.length cap ∧ os.length ≤ cap ∧ cap ≤ maxLen ∧
    (os = [] ∨ ∃ b o, a = some ⟨b, o, none⟩ ∧ ∀ i, i < os.length → ∃ u, w.cell? ⟨b, o + i * 2, none⟩ = some (.int .u8 (os.getD i (0, [])).1) ∧ w.cell? ⟨b, o + i * 2 + 1, none⟩ = some u ∧ Rd .u8 w u (os.getD i (0, [])).2)

theorem RdO.ext {w w' : World} {v : Value} {os : List Op1} (h : RdO w v os) (hx : Ext w w') : RdO w' v os := by
  obtain ⟨a, cap, rfl, h1, h2, h3⟩ := h
  refine ⟨a, cap, rfl, h1, h2, ?_⟩
  rcases h3 with h3 | ⟨b, o, rfl, h3⟩
  · exact .inl h3
  · exact .inr ⟨b, o, rfl, fun i hi => let ⟨u, h4, h5, h6⟩ := h3 i hi; ⟨u, hx.cell h4, hx.cell h5, h6.ext hx⟩⟩

/-- The first place whose option passes a test; -1: none. -/
def firstIx (p : Op1 → Bool) (os : List Op1) : Int := match os.findIdx? p with | some i => i | none => -1

/-- From the arguments' reading. -/
theorem rdo_of_rows {w : World} {v : Value} (h : Reads w (.rows 2 32 (.agg 2 (.more 1 (.int .u8) (.more 1 (.ints .u8 1) .done)))) [v]) : ∃ os, RdO w v os ∧ BytO os ∧ os.length * 32 ≤ 140737488351232 ∧ ∀ o ∈ os, o.2.length ≤ 140737488351232 := by
  simp only [Reads] at h
  obtain ⟨v', a, m, cap, hv, rfl, hmc, hc, hb, hel⟩ := h
  obtain rfl : v = .slice a m cap := by simpa using hv
  have hch : ∀ i, ∃ o : Op1, i < m → ((0 ≤ o.1 ∧ o.1 ≤ 255) ∧ Byt o.2 ∧ o.2.length ≤ 140737488351232 ∧ ∀ b off, a = some ⟨b, off, none⟩ → ∃ u, w.cell? ⟨b, off + i * 2, none⟩ = some (.int .u8 o.1) ∧ w.cell? ⟨b, off + i * 2 + 1, none⟩ = some u ∧ Rd .u8 w u o.2) := by
    intro i
    by_cases hi : i < m
    · rcases hel with h0 | ⟨b, off, rfl, hel⟩
      · omega
      obtain ⟨es, hl, hcell, _, _, rfl, ⟨x, rfl, wx⟩, _, _, rfl, ⟨u, l, rfl, hr, hby, hn⟩, rfl⟩ := hel i hi
      refine ⟨(x, l), fun _ => ⟨wf_u8 wx, byt_of_wf hby, by show l.length ≤ _; omega, fun b' off' he => ?_⟩⟩
      cases he
      exact ⟨u, by simpa using hcell 0 (by omega), by simpa using hcell 1 (by omega), hr⟩
    · exact ⟨(0, []), fun h => absurd h hi⟩
  obtain ⟨f, hf⟩ : ∃ f : Nat → Op1, ∀ i, i < m → ((0 ≤ (f i).1 ∧ (f i).1 ≤ 255) ∧ Byt (f i).2 ∧ (f i).2.length ≤ 140737488351232 ∧ ∀ b off, a = some ⟨b, off, none⟩ → ∃ u, w.cell? ⟨b, off + i * 2, none⟩ = some (.int .u8 (f i).1) ∧ w.cell? ⟨b, off + i * 2 + 1, none⟩ = some u ∧ Rd .u8 w u (f i).2) := ⟨fun i => Classical.choose (hch i), fun i hi => Classical.choose_spec (hch i) hi⟩
  have hlen : ((List.range m).map f).length = m := by simp
  have hget : ∀ i, i < m → ((List.range m).map f).getD i (0, []) = f i := fun i hi => by simp [List.getD, hi]
  refine ⟨(List.range m).map f, ⟨a, cap, by rw [hlen], by rw [hlen]; exact hmc, hc, ?_⟩, ?_, by rw [hlen]; exact hb, ?_⟩
  · rcases hel with h0 | ⟨b, off, rfl, _⟩
    · left; simp [h0]
    · refine .inr ⟨b, off, rfl, fun i hi => ?_⟩
      rw [hlen] at hi
      rw [hget i hi]
      exact (hf i hi).2.2.2 b off rfl
  · intro o ho
    obtain ⟨i, hi, rfl⟩ := List.mem_map.1 ho
    have h := hf i (by simpa using hi)
    exact ⟨h.1, h.2.1⟩
  · intro o ho
    obtain ⟨i, hi, rfl⟩ := List.mem_map.1 ho
    exact (hf i (by simpa using hi)).2.2.1

theorem RdO.len {w : World} {v : Value} {os : List Op1} (h : RdO w v os) : os.length ≤ maxLen := by obtain ⟨a, cap, rfl, h1, h2, h3⟩ := h; omega
theorem RdO.shape {w : World} {v : Value} {os : List Op1} (h : RdO w v os) : ∃ a c, v = .slice a os.length c := by obtain ⟨a, c, rfl, -, -, -⟩ := h; exact ⟨a, c, rfl⟩
theorem RdO.nil (w : World) : RdO w (.slice none 0 0) [] := ⟨none, 0, rfl, Nat.le_refl _, by decide, .inl rfl⟩

theorem findIdx?_at {p : Op1 → Bool} : ∀ {os : List Op1} {k : Nat}, k < os.length → (∀ j, j < k → p (os.getD j (0, [])) = false) → p (os.getD k (0, [])) = true → os.findIdx? p = some k
  | [], k, h, _, _ => by simp at h
  | o :: os, 0, h, h1, h2 => by simp at h2; simp [List.findIdx?_cons, h2]
  | o :: os, k + 1, h, h1, h2 => by
    have h0 := h1 0 (by omega)
    simp at h0 h2
    have ih := findIdx?_at (p := p) (os := os) (k := k) (by simpa using h) (fun j hj => by simpa using h1 (j + 1) (by omega)) (by simpa using h2)
    simp [List.findIdx?_cons, h0, ih]
theorem firstIx_at {p : Op1 → Bool} {os : List Op1} {k : Nat} (hk : k < os.length) (h1 : ∀ j, j < k → p (os.getD j (0, [])) = false) (h2 : p (os.getD k (0, [])) = true) : firstIx p os = k := by
  unfold firstIx; rw [findIdx?_at hk h1 h2]
theorem firstIx_none {p : Op1 → Bool} {os : List Op1} (h1 : ∀ j, j < os.length → p (os.getD j (0, [])) = false) : firstIx p os = -1 := by
  have : os.findIdx? p = none := by
    rw [List.findIdx?_eq_none_iff]
    intro x hx
    obtain ⟨j, hj, rfl⟩ := List.getElem_of_mem hx
    have := h1 j hj
    simpa [List.getD, hj] using this
  unfold firstIx; rw [this]
theorem any_of_at {p : Op1 → Bool} {os : List Op1} {k : Nat} (hk : k < os.length) (h2 : p (os.getD k (0, [])) = true) : os.any p = true := by
  rw [List.any_eq_true]
  exact ⟨os[k], List.getElem_mem hk, by simpa [List.getD, hk] using h2⟩
theorem any_none {p : Op1 → Bool} {os : List Op1} (h1 : ∀ j, j < os.length → p (os.getD j (0, [])) = false) : os.any p = false := by
  rw [List.any_eq_false]
  intro x hx
  obtain ⟨j, hj, rfl⟩ := List.getElem_of_mem hx
  have := h1 j hj
  simpa [List.getD, hj] using this
theorem firstIx_any (p : Op1 → Bool) (os : List Op1) : decide (0 ≤ firstIx p os) = os.any p ∧ (-1 ≤ firstIx p os ∧ firstIx p os < os.length) := by
  unfold firstIx
  cases h : os.findIdx? p with
  | none =>
    have h2 : os.any p = false := by
      rw [List.any_eq_false]
      intro x hx
      rw [List.findIdx?_eq_none_iff] at h
      simpa using h x hx
    rw [h2]; exact ⟨rfl, by dsimp only; omega, by dsimp only; omega⟩
  | some k =>
    obtain ⟨hk, hp, _⟩ := List.findIdx?_eq_some_iff_getElem.1 h
    have h2 : os.any p = true := List.any_eq_true.2 ⟨_, List.getElem_mem hk, hp⟩
    rw [h2]
    exact ⟨by simp, by dsimp only; omega, by dsimp only; omega⟩

theorem optIx_any (F : FuncId) (cap : Array Value) (p : Op1 → Bool) (v : Value) (os : List Op1) (w : World) (hv : RdO w v os)
    (hF : ∀ (args : Array Value) (w : World), (callFunc F args).run Tryz.prog w = .ok (.enter F args) w)
    (hcl : ∀ (i : Nat) (u : Value) (w' : World), i < os.length → Ext w w' → Rd .u8 w' u (os.getD i (0, [])).2 → Calls Tryz.prog F (#[.agg #[.int .u8 (os.getD i (0, [])).1, u]] ++ cap) w' fun e w'' => e = .returned (.bool (p (os.getD i (0, [])))) ∧ Ext w' w'') :
    Calls Tryz.prog 102 #[v, .func (.func F) #[] cap] w fun e w' => e = .returned (.int .i64 (firstIx p os)) ∧ Ext w w' := by
  obtain ⟨a, c, rfl, hc1, hc2, hr⟩ := hv
  have HR := Lib.hid hr
  have HC := Lib.hid hcl
  clear hr hcl
  have hm := hc2
  unfold maxLen at hm
  go_enter Tryz.func102, Tryz.ntmps102
  go_wp2_with fail
  go_loopw [8] (fun i wr => ∃ k : Nat, k ≤ os.length ∧ i = .int .i64 k ∧ Hid (∀ j, j < k → p (os.getD j (0, [])) = false) ∧ Ext w wr) (fun i _ => os.length - (intOf i).toNat)
  case atStart => exact ⟨0, Nat.zero_le _, rfl, (fun j hj => by omega), Ext.rfl' w⟩
  case round =>
    obtain ⟨k, hk, rfl, hpre, hx⟩ := hrel
    by_cases hlt : k < os.length
    · rcases HR.out with h0 | ⟨b, o, rfl, hrw⟩
      · rw [h0] at hlt; simp at hlt
      obtain ⟨u, e0, e1, hu⟩ := hrw k hlt
      clear hrw
      have e0 := hx.cell e0
      have e1 := hx.cell e1
      have hcl := HC.out k u wr hlt hx (hu.ext hx)
      have hat := fun h2 => Lib.hid (firstIx_at hlt hpre.out h2)
      have hnx : p (os.getD k (0, [])) = false → Hid (∀ j, j < k + 1 → p (os.getD j (0, [])) = false) := fun h2 => by
        intro j hj
        rcases (by omega : j < k ∨ j = k) with hj | rfl
        · exact hpre.out j hj
        · exact h2
      obtain ⟨au, nu, cu, rfl⟩ := hu.shape
      clear hu
      generalize os.getD k (0, []) = x at *
      have HA := Lib.hid hat
      have HX := Lib.hid hnx
      clear hat hnx
      rcases hp : p x with _ | _
      · have hx2 := HX.out hp
        rw [hp] at hcl
        have HCL := Lib.hid hcl
        clear hcl hp HA HX
        go_wp2_with fail
        refine HCL.out.mono ?_
        rintro e w1 ⟨rfl, hx1⟩
        go_wp2_with fail
        go_roundw
        case rel => exact ⟨k + 1, by omega, by go_num, hx2, hx.tr hx1⟩
        case measure => simp [intOf]; omega
      · have hx2 := HA.out hp
        rw [hp] at hcl
        have HCL := Lib.hid hcl
        clear hcl hp HA HX
        go_wp2_with fail
        refine HCL.out.mono ?_
        rintro e w1 ⟨rfl, hx1⟩
        go_wp2_with fail
        go_ret
        exact ⟨by rw [hx2.out]; rfl, hx.tr hx1⟩
    · obtain rfl : k = os.length := by omega
      have hx2 := Lib.hid (firstIx_none hpre.out)
      go_wp2_with fail
      go_ret
      exact ⟨by rw [hx2.out]; rfl, hx⟩

theorem optHas_any (F : FuncId) (cap : Array Value) (p : Op1 → Bool) (v : Value) (os : List Op1) (w : World) (hv : RdO w v os)
    (hF : ∀ (args : Array Value) (w : World), (callFunc F args).run Tryz.prog w = .ok (.enter F args) w)
    (hcl : ∀ (i : Nat) (u : Value) (w' : World), i < os.length → Ext w w' → Rd .u8 w' u (os.getD i (0, [])).2 → Calls Tryz.prog F (#[.agg #[.int .u8 (os.getD i (0, [])).1, u]] ++ cap) w' fun e w'' => e = .returned (.bool (p (os.getD i (0, [])))) ∧ Ext w' w'') :
    Calls Tryz.prog 90 #[v, .func (.func F) #[] cap] w fun e w' => e = .returned (.bool (os.any p)) ∧ Ext w w' := by
  have HI := Lib.hid (optIx_any F cap p v os w hv hF hcl)
  have hf := (firstIx_any p os).1
  obtain ⟨a, c, rfl⟩ := hv.shape
  clear hcl
  have Hf := Lib.hid hf
  clear hf
  go_enter Tryz.func90, Tryz.ntmps90
  go_wp2_with fail
  refine HI.out.mono ?_
  rintro e w1 ⟨rfl, hx1⟩
  go_wp2_with fail
  go_ret
  exact ⟨by rw [← Hf.out]; rfl, hx1⟩

theorem put1o_any (k : Int) (u : Value) (l : List Int) (w : World) (hu : Rd .u8 w u l) : Calls Tryz.prog 91 #[.agg #[.int .u8 k, u]] w fun e w' => e = .returned (.bool (badO (k, l))) ∧ Ext w w' := by
  obtain ⟨a, c, rfl, h1, h2, -⟩ := hu
  unfold maxLen at h2
  have hB : Hid (badO (k, l) = (decide (k < 2) || decide (38 < l.length))) := rfl
  by_cases hk : k ≤ 1
  · rw [show decide (k < 2) = true by simpa using (show k < 2 by omega), Bool.true_or] at hB
    go_enter Tryz.func91, Tryz.ntmps91
    go_wp2_with fail
    go_ret
    exact ⟨by rw [hB.out]; rfl, Ext.new _ _⟩
  · rw [show decide (k < 2) = false by simpa using (show ¬ k < 2 by omega), Bool.false_or] at hB
    go_enter Tryz.func91, Tryz.ntmps91
    go_wp2_with fail
    go_ret
    exact ⟨by rw [hB.out]; simp; omega, Ext.new _ _⟩
end Go.Proofs.YtbaidlkjbdeceaaGreat
