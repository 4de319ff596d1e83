/-
  Proved here: what is made is found: plain mathematics over lists of options. No walk.
-/
import Derived.Test.YtmcaknmdalbpoaaOptW
namespace Go.Proofs.Ytmcaknmdalbpoaa
set_option maxRecDepth 16000
open Go Go.Cul
set_option linter.unusedVariables false

/-- The four kinds are away. -/
def wo4 (os : List Op1) : Nat → List Op1
  | 0 => os
  | k + 1 => owo (wo4 os k) (2 + (k : Int))
def no25 (os : List Op1) : Prop := ∀ o ∈ os, o.1 ≠ 2 ∧ o.1 ≠ 3 ∧ o.1 ≠ 4 ∧ o.1 ≠ 5
theorem mem_owo {os : List Op1} {k : Int} {o : Op1} : o ∈ owo os k ↔ o ∈ os ∧ o.1 ≠ k := by
  unfold owo
  rw [List.mem_filter]
  simp
theorem wo4_no (os : List Op1) : no25 (wo4 os 4) := by
  intro o ho
  have h5 := mem_owo.1 ho
  have h4 := mem_owo.1 h5.1
  have h3 := mem_owo.1 h4.1
  have h2 := mem_owo.1 h3.1
  exact ⟨h2.2, h3.2, h4.2, h5.2⟩
theorem wo4_mem {os : List Op1} : ∀ {k : Nat} {o : Op1}, o ∈ wo4 os k → o ∈ os
  | 0, o, h => h
  | k + 1, o, h => wo4_mem (mem_owo.1 h).1
theorem wo4_len (os : List Op1) : ∀ k, (wo4 os k).length ≤ os.length
  | 0 => Nat.le_refl _
  | k + 1 => Nat.le_trans (owo_len _ _) (wo4_len os k)

theorem any_no {os : List Op1} {k : Int} {P : Nat → Bool} (h : ∀ o ∈ os, o.1 ≠ k) : os.any (kl k P) = false := by
  rw [List.any_eq_false]
  intro o ho
  unfold kl
  simp [h o ho]
theorem find_no {os : List Op1} {k : Int} {P : Nat → Bool} (h : ∀ o ∈ os, o.1 ≠ k) : os.find? (kl k P) = none := by
  rw [List.find?_eq_none]
  intro o ho
  unfold kl
  simp [h o ho]
theorem fndO_app {a b : List Op1} {k : Int} {P : Nat → Bool} (h : ∀ o ∈ a, o.1 ≠ k) : fndO (kl k P) (a ++ b) = fndO (kl k P) b := by
  unfold fndO
  rw [List.find?_append, find_no h]
  rfl
theorem any_app {a b : List Op1} {k : Int} {P : Nat → Bool} (h : ∀ o ∈ a, o.1 ≠ k) : (a ++ b).any (kl k P) = b.any (kl k P) := by
  rw [List.any_append, any_no h, Bool.false_or]
theorem owo_app (a b : List Op1) (k : Int) : owo (a ++ b) k = owo a k ++ owo b k := by unfold owo; rw [List.filter_append]
theorem owo_same {a : List Op1} {k : Int} (h : ∀ o ∈ a, o.1 ≠ k) : owo a k = a := by
  unfold owo
  rw [List.filter_eq_self]
  intro o ho
  simp [h o ho]

/-- Blocks out of their bytes. -/
theorem be32_by4 {x : Int} (h : 0 ≤ x ∧ x ≤ 4294967295) (D : List Int) : be32 (by4 x ++ D) 0 = x := by
  unfold be32 by4
  simp [List.getD]
  omega
theorem be32_drop (a D : List Int) (k : Nat) : be32 (a ++ D) (a.length + k) = be32 D k := by
  unfold be32
  simp only [List.getD, Nat.add_assoc, List.getElem?_append_right (Nat.le_add_right _ _), Nat.add_sub_cancel_left]
theorem bks_flat {bs : List Bk} (h : okB bs) : bks (flatB bs) = bs := by
  induction bs with
  | nil => rfl
  | cons b bs ih =>
    have ih := ih (fun x hx => h x (List.mem_cons_of_mem _ hx))
    obtain ⟨h1, h2⟩ := h b (List.mem_cons_self ..)
    have hf : flatB (b :: bs) = (by4 b.1 ++ by4 b.2) ++ flatB bs := by unfold flatB; rw [List.flatMap_cons]
    have hl : (flatB (b :: bs)).length / 8 = (flatB bs).length / 8 + 1 := by rw [flatB_len, flatB_len, List.length_cons]; omega
    have hl8 : (by4 b.1 ++ by4 b.2).length = 8 := rfl
    unfold bks
    rw [hl, List.range_succ_eq_map, List.map_cons, List.map_map]
    refine List.cons_eq_cons.2 ⟨?_, ?_⟩
    · unfold bkAt
      rw [hf, Nat.mul_zero, List.append_assoc, be32_by4 h1]
      have e := be32_drop (by4 b.1) (by4 b.2 ++ flatB bs) 0
      rw [show (by4 b.1).length + 0 = 0 + 4 from rfl] at e
      rw [e, be32_by4 h2]
    · conv => rhs; rw [← ih]
      unfold bks
      apply List.map_congr_left
      intro i _
      show bkAt _ (i + 1) = _
      unfold bkAt
      rw [hf]
      have e1 := be32_drop (by4 b.1 ++ by4 b.2) (flatB bs) (8 * i)
      have e2 := be32_drop (by4 b.1 ++ by4 b.2) (flatB bs) (8 * i + 4)
      rw [hl8] at e1 e2
      rw [show 8 * (i + 1) = 8 + 8 * i from by omega, e1, show 8 + 8 * i + 4 = 8 + (8 * i + 4) from by omega, e2]

/-- The made options. -/
def made (n m : Int) (bs : List Bk) : List Op1 := [(2, by2 n), (3, [m]), (4, []), (2, by2 ((n + 1) % 65536))] ++ (if bs = [] then [] else [(5, flatB bs)])
theorem sacks_of {bs : List Bk} (h4 : bs.length ≤ 4) (h0 : bs ≠ []) : okS (flatB bs).length = true := by
  have : 0 < bs.length := List.length_pos_iff.2 h0
  unfold okS
  rw [flatB_len]
  simp
  omega
theorem made_mss {L : List Op1} (hL : no25 L) (n m : Int) (hn : 0 ≤ n ∧ n ≤ 65535) (bs : List Bk) : omss (L ++ made n m bs) = n ∧ (L ++ made n m bs).any (kl 2 (fun n => decide (n = 2))) = true := by
  have h := fun o ho => (hL o ho).1
  have ha : (made n m bs).any (kl 2 (fun n => decide (n = 2))) = true := by unfold made kl by2; simp
  have hf : fndO (kl 2 (fun n => decide (n = 2))) (made n m bs) = by2 n := by unfold made fndO kl by2; simp
  unfold omss
  rw [any_app h, fndO_app h, ha, hf, if_pos rfl]
  refine ⟨?_, rfl⟩
  unfold by2
  simp [List.getD]
  omega
theorem made_scale {L : List Op1} (hL : no25 L) (n m : Int) (hm : 0 ≤ m ∧ m ≤ 14) (bs : List Bk) : oscale (L ++ made n m bs) = m ∧ (L ++ made n m bs).any (kl 3 (fun n => decide (n = 1))) = true := by
  have h := fun o ho => (hL o ho).2.1
  have ha : (made n m bs).any (kl 3 (fun n => decide (n = 1))) = true := by unfold made kl by2; simp
  have hf : fndO (kl 3 (fun n => decide (n = 1))) (made n m bs) = [m] := by unfold made fndO kl by2; simp
  unfold oscale
  rw [any_app h, fndO_app h, ha, hf, if_pos rfl]
  refine ⟨?_, rfl⟩
  show (if m ≤ 14 then m else 14) = m
  rw [if_pos hm.2]
theorem made_ok {L : List Op1} (hL : no25 L) (n m : Int) (bs : List Bk) : (L ++ made n m bs).any (kl 4 (fun n => decide (n = 0))) = true := by
  rw [any_app (fun o ho => (hL o ho).2.2.1)]
  unfold made kl by2
  simp
theorem made_sacks {L : List Op1} (hL : no25 L) (n m : Int) {bs : List Bk} (h4 : bs.length ≤ 4) (hb : okB bs) : osacks (L ++ made n m bs) = bs := by
  unfold osacks
  rw [fndO_app (fun o ho => (hL o ho).2.2.2)]
  by_cases h0 : bs = []
  · subst h0
    have hf : fndO (kl 5 okS) (made n m []) = [] := by unfold made fndO kl; simp
    rw [hf]; rfl
  · have hok := sacks_of h4 h0
    have hf : fndO (kl 5 okS) (made n m bs) = flatB bs := by
      unfold made fndO kl
      simp [h0, hok]
    rw [hf, bks_flat hb]
theorem made_no2 (L : List Op1) (P : Nat → Bool) (k : Int) : (owo L k).any (kl k P) = false := any_no (fun o ho => (mem_owo.1 ho).2)
theorem made_nos (L : List Op1) : osacks (owo L 5) = [] := by
  unfold osacks fndO
  rw [find_no (fun o ho => (mem_owo.1 ho).2)]
  rfl
theorem made_away {L : List Op1} (hL : no25 L) (n m : Int) (bs : List Bk) : owo (owo (owo (owo (L ++ made n m bs) 2) 3) 4) 5 = L := by
  have e : owo (owo (owo (owo (made n m bs) 2) 3) 4) 5 = [] := by
    unfold made
    by_cases h0 : bs = []
    · rw [if_pos h0]; rfl
    · rw [if_neg h0]; rfl
  rw [owo_app, owo_app, owo_app, owo_app, e, List.append_nil, owo_same (fun o ho => (hL o ho).1), owo_same (fun o ho => (hL o ho).2.1), owo_same (fun o ho => (hL o ho).2.2.1), owo_same (fun o ho => (hL o ho).2.2.2)]
theorem made_byt {L : List Op1} (hL : BytO L) {n m : Int} (hn : 0 ≤ n ∧ n ≤ 65535) (hm : 0 ≤ m ∧ m ≤ 14) {bs : List Bk} (hb : okB bs) : BytO (L ++ made n m bs) := by
  refine hL.app (BytO.app ?_ ?_)
  · intro o ho
    simp only [List.mem_cons, List.not_mem_nil, or_false] at ho
    rcases ho with rfl | rfl | rfl | rfl
    · exact ⟨by simp, by2_byt n hn⟩
    · exact ⟨by simp, fun x hx => by
        have h : x = m := by simpa using hx
        omega⟩
    · exact ⟨by simp, fun x hx => by cases hx⟩
    · exact ⟨by simp, by2_byt _ (by omega)⟩
  · split
    · intro o ho; cases ho
    · intro o ho
      obtain rfl : o = _ := by simpa using ho
      refine ⟨by simp, fun x hx => ?_⟩
      unfold flatB at hx
      rw [List.mem_flatMap] at hx
      obtain ⟨b, hb1, hx⟩ := hx
      obtain ⟨q1, q2⟩ := hb b hb1
      rcases List.mem_append.1 hx with hx | hx
      · exact by4_byt _ q1 x hx
      · exact by4_byt _ q2 x hx
end Go.Proofs.Ytmcaknmdalbpoaa
