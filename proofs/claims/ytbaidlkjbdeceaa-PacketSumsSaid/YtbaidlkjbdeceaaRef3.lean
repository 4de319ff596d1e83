/-
  Proved here: what culvertref03's Own and Lay, and an open Reader's take and Num, compute. Conditions: numbers within their kinds, at most 2^47 - 4096 bytes.
-/
import Derived.Test.YtbaidlkjbdeceaaLibs
import Derived.Test.YtbaidlkjbdeceaaSums
namespace Go.Proofs.Ytbaidlkjbdeceaa
set_option maxRecDepth 200000
open Go.ChangeShapes Go.WideShapes Go.ChangeAt Go.RowKit Go.Cul
set_option linter.unusedVariables false

/-- A number as so many bytes. -/
def bys : Nat → Int → List Int
  | 0, _ => []
  | k + 1, n => n / 2 ^ (8 * k) % 256 :: bys k n
theorem bys_len (k : Nat) (n : Int) : (bys k n).length = k := by
  induction k with
  | zero => rfl
  | succ k ih => simp [bys, ih]
theorem bys_byt (k : Nat) (n : Int) : Byt (bys k n) := by
  induction k with
  | zero => intro x hx; simp [bys] at hx
  | succ k ih =>
    intro x hx
    simp only [bys, List.mem_cons] at hx
    rcases hx with rfl | hx
    · omega
    · exact ih x hx
theorem bys_drop (k j : Nat) (n : Int) (h : j ≤ k) : (bys k n).drop (k - j) = bys j n := by
  induction k with
  | zero => obtain rfl : j = 0 := by omega
            rfl
  | succ k ih =>
    by_cases hj : j = k + 1
    · subst hj; rw [Nat.sub_self]; rfl
    · rw [show k + 1 - j = (k - j) + 1 from by omega]
      simp only [bys, List.drop_succ_cons]
      exact ih (by omega)
theorem bys_take (k j : Nat) (n : Int) (h : j + 1 ≤ k) : (bys k n).take (k - j) = (bys k n).take (k - (j + 1)) ++ [n / 2 ^ (8 * j) % 256] := by
  have h1 : k - j = (k - (j + 1)) + 1 := by omega
  rw [h1, take_succ_getD _ _ (by rw [bys_len]; omega)]
  congr 2
  have h2 := bys_drop k (j + 1) n h
  have h3 : (bys k n).getD (k - (j + 1)) 0 = ((bys k n).drop (k - (j + 1))).getD 0 0 := by simp [List.getD, List.getElem?_drop]
  rw [h3, h2]
  rfl
theorem bys_two (n : Int) (h : 0 ≤ n ∧ n ≤ 65535) : bys 2 n = by2 n := by
  simp [bys, by2]; omega

/-- The number of bytes. -/
def num (l : List Int) : Int := l.foldl (fun n c => n * 256 + c) 0
theorem num_snoc (l : List Int) (c : Int) : num (l ++ [c]) = num l * 256 + c := by simp [num]
theorem num_bd : ∀ {l : List Int}, Byt l → l.length ≤ 4 → 0 ≤ num l ∧ num l ≤ 4294967295 := by
  have key : ∀ (k : Nat) {l : List Int}, Byt l → l.length = k → 0 ≤ num l ∧ num l < 256 ^ k := by
    intro k
    induction k with
    | zero => intro l _ h; obtain rfl := List.eq_nil_of_length_eq_zero h; decide
    | succ k ih =>
      intro l hb hl
      obtain ⟨l', c, rfl⟩ : ∃ l' c, l = l' ++ [c] := ⟨l.dropLast, l.getLast (by intro h; rw [h] at hl; simp at hl), (List.dropLast_concat_getLast _).symm⟩
      have h1 := ih (l := l') (fun x hx => hb x (List.mem_append_left _ hx)) (by simpa using hl)
      have h2 := hb c (by simp)
      rw [num_snoc, Int.pow_succ]
      omega
  intro l hb hl
  have h := key l.length hb rfl
  have : (256 : Int) ^ l.length ≤ 256 ^ 4 := by
    rcases (by omega : l.length = 0 ∨ l.length = 1 ∨ l.length = 2 ∨ l.length = 3 ∨ l.length = 4) with h | h | h | h | h <;> rw [h] <;> decide
  omega

end Go.Proofs.Ytbaidlkjbdeceaa
