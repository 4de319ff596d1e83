/-
  Proved here: plain laws on words that are laid, swapped, and turned in a list of bytes, and its checksum. No program in sight.
-/
import Derived.Test.YtlobceldlegnlaaSumE
namespace Go.Proofs.Ytlobceldlegnlaa
open Go.Cul
set_option linter.unusedVariables false

theorem weigh_set {l : List Int} {i : Nat} (j : Nat) (h : i < l.length) (x : Int) : weigh j (l.set i x) = weigh j l - wt (l.getD i 0) (j + i) + wt x (j + i) := by
  induction l generalizing i j with
  | nil => simp at h
  | cons c l ih =>
    cases i with
    | zero => simp [weigh, List.getD]; omega
    | succ i =>
      have h' : i < l.length := by simpa using h
      rw [List.set_cons_succ]
      simp only [weigh]
      rw [ih (j + 1) h']
      have e : (c :: l).getD (i + 1) 0 = l.getD i 0 := by simp [List.getD]
      rw [e, show j + 1 + i = j + (i + 1) from by omega]
      omega

theorem getD_set (l : List Int) (i j : Nat) (x : Int) (h : i < l.length) : (l.set i x).getD j 0 = if i = j then x else l.getD j 0 := by
  unfold List.getD
  rw [List.getElem?_set]
  by_cases e : i = j
  · subst e; simp [h]
  · simp [e]

theorem weigh_layl {l : List Int} {t : Nat} {x : Int} (h4 : 4 ≤ l.length) (h2 : l.length % 2 = 0) : weigh 0 (layl l t x) = weigh 0 l - wordl l t + x := by
  have hk := pl_lt (t := t) h4 h2
  unfold layl wordl
  rw [weigh_set 0 (by simp; omega), weigh_set 0 (by omega), getD_set _ _ _ _ (by omega), if_neg (by omega)]
  have e : pl l.length t % 2 = 0 := by unfold pl; omega
  have e0 : ∀ c, wt c (0 + pl l.length t) = c * 256 := fun c => by unfold wt; rw [if_pos (by omega)]
  have e1 : ∀ c, wt c (0 + (pl l.length t + 1)) = c := fun c => by unfold wt; rw [if_neg (by omega)]
  simp only [e0, e1]
  omega

theorem layl_byt {l : List Int} (h : Byt l) (t : Nat) {x : Int} (hx : 0 ≤ x ∧ x ≤ 65535) : Byt (layl l t x) := by
  intro y hy
  unfold layl at hy
  rcases List.mem_or_eq_of_mem_set hy with hy | rfl
  · rcases List.mem_or_eq_of_mem_set hy with hy | rfl
    · exact h y hy
    · omega
  · omega

theorem wordl_bd {l : List Int} (h : Byt l) (t : Nat) : 0 ≤ wordl l t ∧ wordl l t ≤ 65535 := by
  have h1 := h.at (pl l.length t)
  have h2 := h.at (pl l.length t + 1)
  unfold wordl; omega

/-- A word that was laid, and one beside it. -/
theorem wordl_layl {l : List Int} {t s : Nat} {x : Int} (hx : 0 ≤ x ∧ x ≤ 65535) (h4 : 4 ≤ l.length) (h2 : l.length % 2 = 0) :
    wordl (layl l t x) s = if t % (l.length / 2) = s % (l.length / 2) then x else wordl l s := by
  have hk := pl_lt (t := t) h4 h2
  have hs := pl_lt (t := s) h4 h2
  unfold wordl
  rw [layl_len]
  unfold layl
  have hl : (l.set (pl l.length t) (x / 256)).length = l.length := by simp
  rw [getD_set _ _ _ _ (by omega), getD_set _ _ _ _ (by omega), getD_set _ _ _ _ (by omega), getD_set _ _ _ _ (by omega)]
  by_cases e : t % (l.length / 2) = s % (l.length / 2)
  · have e' : pl l.length t = pl l.length s := by unfold pl; rw [e]
    rw [if_pos e, e', if_neg (by omega), if_pos rfl, if_pos rfl]
    omega
  · have hne : pl l.length t ≠ pl l.length s := by unfold pl; omega
    have hp1 : pl l.length t % 2 = 0 := by unfold pl; omega
    have hp2 : pl l.length s % 2 = 0 := by unfold pl; omega
    rw [if_neg e, if_neg (by omega), if_neg hne, if_neg (by omega), if_neg (by omega)]

/-- Two words change places: the weight stays. -/
theorem weigh_swap2 {l : List Int} (hb : Byt l) {t s : Nat} (h4 : 4 ≤ l.length) (h2 : l.length % 2 = 0) : weigh 0 (layl (layl l t (wordl l s)) s (wordl l t)) = weigh 0 l := by
  rw [weigh_layl (by rw [layl_len]; exact h4) (by rw [layl_len]; exact h2), weigh_layl h4 h2, wordl_layl (wordl_bd hb s) h4 h2]
  split <;> omega

/-- The first m pairs, the other way round. -/
def swp (l : List Int) : Nat → List Int
  | 0 => l
  | m + 1 => ((swp l m).set (2 * m) ((swp l m).getD (2 * m + 1) 0)).set (2 * m + 1) ((swp l m).getD (2 * m) 0)
theorem swp_len (l : List Int) (m : Nat) : (swp l m).length = l.length := by
  induction m with
  | zero => rfl
  | succ m ih => simp [swp, ih]
theorem swp_getD (l : List Int) (m i : Nat) (h : 2 * m ≤ i) (hm : 2 * m ≤ l.length) : (swp l m).getD i 0 = l.getD i 0 := by
  induction m with
  | zero => rfl
  | succ m ih =>
    have hl := swp_len l m
    unfold swp
    rw [getD_set _ _ _ _ (by simp; omega), getD_set _ _ _ _ (by omega), if_neg (by omega), if_neg (by omega)]
    exact ih (by omega) (by omega)
def sumA (l : List Int) : Nat → Int
  | 0 => 0
  | m + 1 => sumA l m + (256 * l.getD (2 * m) 0 + l.getD (2 * m + 1) 0)
def sumB (l : List Int) : Nat → Int
  | 0 => 0
  | m + 1 => sumB l m + (256 * l.getD (2 * m + 1) 0 + l.getD (2 * m) 0)
def sumH (l : List Int) : Nat → Int
  | 0 => 0
  | m + 1 => sumH l m + l.getD (2 * m) 0
theorem sums_rel (l : List Int) (m : Nat) : 256 * sumA l m - sumB l m = 65535 * sumH l m := by
  induction m with
  | zero => rfl
  | succ m ih => simp only [sumA, sumB, sumH]; omega
theorem sums_bd {l : List Int} (h : Byt l) (m : Nat) : 0 ≤ sumA l m ∧ 0 ≤ sumB l m ∧ sumA l m ≤ 256 * sumB l m ∧ sumB l m ≤ 256 * sumA l m := by
  induction m with
  | zero => simp [sumA, sumB]
  | succ m ih =>
    have h1 := h.at (2 * m)
    have h2 := h.at (2 * m + 1)
    simp only [sumA, sumB]
    omega
theorem swp_weigh {l : List Int} (m : Nat) (hm : 2 * m ≤ l.length) : weigh 0 (swp l m) = weigh 0 l - sumA l m + sumB l m := by
  induction m with
  | zero => simp [swp, sumA, sumB]
  | succ m ih =>
    have hl := swp_len l m
    have g1 := swp_getD l m (2 * m) (by omega) (by omega)
    have g2 := swp_getD l m (2 * m + 1) (by omega) (by omega)
    unfold swp
    rw [weigh_set 0 (by simp; omega), weigh_set 0 (by omega), getD_set _ _ _ _ (by omega), if_neg (by omega), ih (by omega), g1, g2]
    have e0 : ∀ c, wt c (0 + 2 * m) = c * 256 := fun c => by unfold wt; rw [if_pos (by omega)]
    have e1 : ∀ c, wt c (0 + (2 * m + 1)) = c := fun c => by unfold wt; rw [if_neg (by omega)]
    simp only [sumA, sumB, e0, e1]
    omega
theorem sumA_weigh {l : List Int} (m : Nat) (hm : 2 * m ≤ l.length) : weigh 0 (l.take (2 * m)) = sumA l m := by
  induction m with
  | zero => simp [weigh, sumA]
  | succ m ih =>
    rw [show 2 * (m + 1) = 2 * m + 2 from by omega, weigh_two (by omega) (by omega), ih (by omega)]
    simp only [sumA]; omega

theorem swap_fold {A B S : Int} (h : 256 * A - B = 65535 * S) (h0 : 0 ≤ A) (h1 : 0 ≤ B) (h2 : A ≤ 256 * B) (h3 : B ≤ 256 * A) : fold16 B = fold16 A % 256 * 256 + fold16 A / 256 := by
  unfold fold16
  split <;> split <;> omega

theorem csum_swp {l : List Int} (hb : Byt l) (h2 : l.length % 2 = 0) : csum (swp l (l.length / 2)) = csum l % 256 * 256 + csum l / 256 := by
  have h := sumA_weigh (l := l) (l.length / 2) (by omega)
  rw [List.take_of_length_le (by omega)] at h
  have hw := swp_weigh (l := l) (l.length / 2) (by omega)
  have hs := sums_bd hb (l.length / 2)
  unfold csum
  rw [hw, h, show sumA l (l.length / 2) - sumA l (l.length / 2) + sumB l (l.length / 2) = sumB l (l.length / 2) from by omega]
  exact swap_fold (sums_rel l _) hs.1 hs.2.1 hs.2.2.1 hs.2.2.2

theorem csum_turn {l r : List Int} (h2 : (l ++ r).length % 2 = 0) (hl : l.length % 2 = 0) : csum (r ++ l) = csum (l ++ r) := by
  have hr : r.length % 2 = 0 := by rw [List.length_append] at h2; omega
  unfold csum
  rw [weigh_app, weigh_app, Nat.zero_add, Nat.zero_add, weigh_par r.length 0 l (by omega), weigh_par l.length 0 r (by omega), Int.add_comm]
theorem csum_nought {l r : List Int} (hl : l.length % 2 = 0) : csum (l ++ [0, 0] ++ r) = csum (l ++ r) := by
  have e1 : weigh (l ++ [0, 0]).length r = weigh 0 r := weigh_par _ _ r (by rw [List.length_append]; simp; omega)
  have e2 : weigh l.length r = weigh 0 r := weigh_par _ _ r (by omega)
  have e3 : weigh l.length [0, 0] = weigh 0 [0, 0] := weigh_par _ _ _ (by omega)
  unfold csum
  rw [weigh_app, weigh_app, weigh_app, Nat.zero_add, Nat.zero_add, e1, e2, e3]
  simp [weigh, wt]
theorem set_byt {l : List Int} (h : Byt l) (i : Nat) {x : Int} (hx : 0 ≤ x ∧ x ≤ 255) : Byt (l.set i x) := by
  intro y hy
  rcases List.mem_or_eq_of_mem_set hy with hy | rfl
  · exact h y hy
  · exact hx
theorem swp_byt {l : List Int} (h : Byt l) (m : Nat) : Byt (swp l m) := by
  induction m with
  | zero => exact h
  | succ m ih => exact set_byt (set_byt ih _ (ih.at _)) _ (ih.at _)
end Go.Proofs.Ytlobceldlegnlaa
