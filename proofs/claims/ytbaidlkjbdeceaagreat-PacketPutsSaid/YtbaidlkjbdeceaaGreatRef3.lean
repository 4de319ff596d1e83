/-
  Proved here: what culvertref03's Own and Lay, and an open Reader's take and Num, compute. Conditions: numbers within their kinds, at most 2^47 - 4096 bytes.
-/
import Derived.Test.YtbaidlkjbdeceaaGreatLibs
import Derived.Test.YtbaidlkjbdeceaaGreatSums
namespace Go.Proofs.YtbaidlkjbdeceaaGreat
set_option maxRecDepth 200000
open Go.ChangeShapes Go.WideShapes Go.ChangeAt Go.RowKit Go.Cul
set_option linter.unusedVariables false

/-- A number as so many bytes. -/
def bys : Nat → Int → List Int
  | 0, _ => []
  | k + 1, n => n / 2 ^ (8 * k) % 256 :: bys k n
theorem bys_len (k : Nat) (n : Int) : (bys k n).length = k := by
  induction k with
  | zero => rfl
  | succ k ih => simp [bys, ih]
theorem bys_byt (k : Nat) (n : Int) : Byt (bys k n) := by
  induction k with
  | zero => intro x hx; simp [bys] at hx
  | succ k ih =>
    intro x hx
    simp only [bys, List.mem_cons] at hx
    rcases hx with rfl | hx
    · omega
    · exact ih x hx
theorem bys_drop (k j : Nat) (n : Int) (h : j ≤ k) : (bys k n).drop (k - j) = bys j n := by
  induction k with
  | zero => obtain rfl : j = 0 := by omega
            rfl
  | succ k ih =>
    by_cases hj : j = k + 1
    · subst hj; rw [Nat.sub_self]; rfl
    · rw [show k + 1 - j = (k - j) + 1 from by omega]
      simp only [bys, List.drop_succ_cons]
      exact ih (by omega)
theorem bys_take (k j : Nat) (n : Int) (h : j + 1 ≤ k) : (bys k n).take (k - j) = (bys k n).take (k - (j + 1)) ++ [n / 2 ^ (8 * j) % 256] := by
  have h1 : k - j = (k - (j + 1)) + 1 := by omega
  rw [h1, take_succ_getD _ _ (by rw [bys_len]; omega)]
  congr 2
  have h2 := bys_drop k (j + 1) n h
  have h3 : (bys k n).getD (k - (j + 1)) 0 = ((bys k n).drop (k - (j + 1))).getD 0 0 := by simp [List.getD, List.getElem?_drop]
  rw [h3, h2]
  rfl
theorem bys_two (n : Int) (h : 0 ≤ n ∧ n ≤ 65535) : bys 2 n = by2 n := by
  simp [bys, by2]; omega

theorem rown_any (v : Value) (l : List Int) (w : World) (hv : Rd .u8 w v l) (hl : l.length ≤ 140737488351240) :
    Calls Tryz.prog 101 #[v] w fun e w' => ∃ u, e = .returned u ∧ Own w' w.heap.size 5 .u8 u l ∧ Ext w w' := by
  go_enter Tryz.func101, Tryz.ntmps101
  go_wp2_with (at_builtin; go_must (refine wpList_app isU8 rfl (.tmp _) (.tmp _) rfl w.heap.size _ [] rfl (Own.nil _ _ _ _) _ l rfl hv (by simp; omega) (by simp [maxLen]; omega) (Nat.le_refl _) ?_); intro v2 w2 hown2 hg2 hat2)
  go_ret
  exact ⟨_, rfl, by simpa using hown2, nil_grow hg2 (Ext.rfl' _)⟩

theorem rlay_any (v : Value) (l : List Int) (n : Int) (k : Nat) (w : World) (hv : Rd .u8 w v l) (hl : l.length ≤ 140737488351236) (hk : k ≤ 4) (hn : 0 ≤ n ∧ n ≤ 4294967295) :
    Calls Tryz.prog 84 #[v, .int .u32 n, .int .i64 k] w fun e w' => ∃ u, e = .returned u ∧ Own w' w.heap.size 5 .u8 u (l ++ bys k n) ∧ Ext w w' := by
  go_enter Tryz.func84, Tryz.ntmps84
  go_wp2_with fail
  refine (rown_any _ l _ hv (by omega)).mono ?_
  rintro e w1 ⟨u, rfl, hu, hx1⟩
  go_wp2_with fail
  go_loopw [7, 8] (fun v i wr => ∃ j : Nat, j ≤ k ∧ i = .int .i64 ((j : Int) - 1) ∧ Own wr w.heap.size 5 .u8 v (l ++ (bys k n).take (k - j)) ∧ Ext w wr) (fun _ i _ => (intOf i + 1).toNat)
  case atStart => exact ⟨k, Nat.le_refl _, by go_num, by simpa using hu, hx1⟩
  case round =>
    obtain ⟨j, hj, rfl, hown, hx⟩ := hrel
    rcases j with _ | j
    · have e : Hid (l ++ (bys k n).take (k - 0) = l ++ bys k n) := by unfold Hid; rw [List.take_of_length_le (by rw [bys_len]; omega)]
      have e1 : ((0 : Nat) : Int) - 1 = -1 := rfl
      go_wp2
      go_ret
      exact ⟨_, rfl, by rw [← e.out]; exact hown, hx⟩
    · have e := Lib.hid (bys_take k j n hj)
      have hlen : (l ++ (bys k n).take (k - (j + 1))).length ≤ l.length + 4 := by rw [List.length_append, List.length_take]; omega
      have e1 : ((j + 1 : Nat) : Int) - 1 = (j : Int) := by omega
      rw [e1]
      clear e1
      generalize (bys k n).take (k - (j + 1)) = L at *
      go_wp2_with (at_builtin; go_must (refine wpList_app isU8 rfl (.tmp 17) (.tmp 23) rfl w.heap.size _ _ rfl (hown.kept (Ext.new _ _)) _ [_] rfl (rd_new .u8 _ _ _ _ rfl rfl rfl rfl (by simp [maxLen])) (by simp at hlen ⊢ <;> omega) (by simp [maxLen] at hlen ⊢ <;> omega) (by have := hx.size; simp; omega) ?_); intro v2 w2 hown2 hg2 hat2)
      have hb2 : Ext w w2 := (hown.kept (Ext.new _ _)).below hg2 (hx.al _) (by have := hx.size; simp; omega)
      clear hg2 hat2
      exact ⟨⟨j, by omega, rfl, by rw [e.out, ← List.append_assoc]; exact hown2, hb2⟩, by simp [intOf]⟩

/-- The number of bytes. -/
def num (l : List Int) : Int := l.foldl (fun n c => n * 256 + c) 0
theorem num_snoc (l : List Int) (c : Int) : num (l ++ [c]) = num l * 256 + c := by simp [num]
theorem num_bd : ∀ {l : List Int}, Byt l → l.length ≤ 4 → 0 ≤ num l ∧ num l ≤ 4294967295 := by
  have key : ∀ (k : Nat) {l : List Int}, Byt l → l.length = k → 0 ≤ num l ∧ num l < 256 ^ k := by
    intro k
    induction k with
    | zero => intro l _ h; obtain rfl := List.eq_nil_of_length_eq_zero h; decide
    | succ k ih =>
      intro l hb hl
      obtain ⟨l', c, rfl⟩ : ∃ l' c, l = l' ++ [c] := ⟨l.dropLast, l.getLast (by intro h; rw [h] at hl; simp at hl), (List.dropLast_concat_getLast _).symm⟩
      have h1 := ih (l := l') (fun x hx => hb x (List.mem_append_left _ hx)) (by simpa using hl)
      have h2 := hb c (by simp)
      rw [num_snoc, Int.pow_succ]
      omega
  intro l hb hl
  have h := key l.length hb rfl
  have : (256 : Int) ^ l.length ≤ 256 ^ 4 := by
    rcases (by omega : l.length = 0 ∨ l.length = 1 ∨ l.length = 2 ∨ l.length = 3 ∨ l.length = 4) with h | h | h | h | h <;> rw [h] <;> decide
  omega

end Go.Proofs.YtbaidlkjbdeceaaGreat
