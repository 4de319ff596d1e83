/-
  Proved here: options as bytes and back, as plain mathematics: what Put and Parse of package opts say, and the laws between them. No walk.
-/
import Derived.Test.YtbaidlkjbdeceaaGreatCore
namespace Go.Proofs.YtbaidlkjbdeceaaGreat
set_option maxRecDepth 200000
open Go Go.Cul
set_option linter.unusedVariables false

/-- An option: its kind, its data. -/
abbrev Op1 := Int × List Int

/-- Kinds and data are bytes. -/
def BytO (os : List Op1) : Prop := ∀ o ∈ os, (0 ≤ o.1 ∧ o.1 ≤ 255) ∧ Byt o.2
theorem BytO.at {os : List Op1} (h : BytO os) (i : Nat) : (0 ≤ (os.getD i (0, [])).1 ∧ (os.getD i (0, [])).1 ≤ 255) ∧ Byt (os.getD i (0, [])).2 := by
  by_cases hi : i < os.length
  · have : os.getD i (0, []) = os[i] := by simp [List.getD, hi]
    rw [this]; exact h _ (List.getElem_mem hi)
  · have : os.getD i (0, []) = (0, []) := by simp [List.getD, List.getElem?_eq_none (show os.length ≤ i by omega)]
    rw [this]; exact ⟨by simp, fun x hx => by cases hx⟩
theorem BytO.app {a b : List Op1} (ha : BytO a) (hb : BytO b) : BytO (a ++ b) := fun o ho => by
  rcases List.mem_append.1 ho with h | h
  · exact ha o h
  · exact hb o h
theorem BytO.take {a : List Op1} (ha : BytO a) (n : Nat) : BytO (a.take n) := fun o ho => ha o (List.mem_of_mem_take ho)

/-- The bytes of an option, of options. -/
def ob (o : Op1) : List Int := o.1 :: (2 + o.2.length : Nat) :: o.2
def flat (os : List Op1) : List Int := (os.map ob).flatten
theorem flat_nil : flat [] = [] := rfl
theorem flat_cons (o : Op1) (os : List Op1) : flat (o :: os) = ob o ++ flat os := rfl
theorem flat_app (a b : List Op1) : flat (a ++ b) = flat a ++ flat b := by simp [flat]
theorem ob_len (o : Op1) : (ob o).length = o.2.length + 2 := by simp [ob]
theorem flat_take {os : List Op1} {i : Nat} (h : i < os.length) : flat (os.take (i + 1)) = flat (os.take i) ++ ob (os.getD i (0, [])) := by
  rw [take_succ_getD' (0, []) os i h, flat_app]; simp [flat]

/-- An option that may not be. -/
def badO (o : Op1) : Bool := decide (o.1 < 2) || decide (38 < o.2.length)
def zeros (n : Nat) : List Int := List.replicate n 0
def pad (n : Nat) : Nat := (4 - n % 4) % 4
/-- Options as bytes; the error. -/
def oput (os : List Op1) : List Int × Int :=
  if os.any badO then ([], 1) else if 40 < (flat os).length then ([], 3) else (flat os ++ zeros (pad (flat os).length), 0)

theorem flat_byt {os : List Op1} (h : BytO os) (hb : os.any badO = false) : Byt (flat os) := by
  induction os with
  | nil => intro x hx; cases hx
  | cons o os ih =>
    rw [flat_cons]
    simp only [List.any_cons, Bool.or_eq_false_iff] at hb
    have ho := h o (List.mem_cons_self ..)
    refine Byt.app ?_ (ih (fun x hx => h x (List.mem_cons_of_mem _ hx)) hb.2)
    have h38 : o.2.length ≤ 38 := by
      have := hb.1; unfold badO at this; simp at this; omega
    intro x hx
    simp only [ob, List.mem_cons] at hx
    rcases hx with rfl | rfl | hx
    · exact ho.1
    · omega
    · exact ho.2 x hx
theorem zeros_byt (n : Nat) : Byt (zeros n) := fun x hx => by
  have := List.eq_of_mem_replicate hx; omega
theorem oput_byt {os : List Op1} (h : BytO os) : Byt (oput os).1 := by
  unfold oput
  split
  · intro x hx; cases hx
  · split
    · intro x hx; cases hx
    · rename_i h1 h2
      exact (flat_byt h (by simpa using h1)).app (zeros_byt _)
theorem oput_len (os : List Op1) : (oput os).1.length ≤ 40 ∧ (oput os).1.length % 4 = 0 := by
  unfold oput
  split
  · simp
  · split
    · simp
    · simp only [List.length_append, zeros, List.length_replicate, pad]; omega

/-- Bytes are scanned: the options, the error. -/
def opF : Nat → List Int → List Op1 × Int
  | 0, _ => ([], 0)
  | f + 1, [] => ([], 0)
  | f + 1, k :: t =>
    if k = 0 then ([], if t.all (· == 0) then 0 else 5)
    else if k = 1 then opF f t
    else match t with
      | [] => ([], 4)
      | n :: t => if n < 2 then ([], 5) else if t.length < (n - 2).toNat then ([], 4)
        else ((k, t.take (n - 2).toNat) :: (opF f (t.drop (n - 2).toNat)).1, (opF f (t.drop (n - 2).toNat)).2)
theorem opF_irr : ∀ (f g : Nat) (l : List Int), l.length < f → l.length < g → opF f l = opF g l
  | 0, _, _, h, _ => by omega
  | _, 0, _, _, h => by omega
  | f + 1, g + 1, [], _, _ => rfl
  | f + 1, g + 1, k :: t, hf, hg => by
    simp only [List.length_cons] at hf hg
    unfold opF
    split
    · rfl
    · split
      · exact opF_irr f g t (by omega) (by omega)
      · split
        · rfl
        · rename_i n t
          simp only [List.length_cons] at hf hg
          rw [opF_irr f g (t.drop (n - 2).toNat) (by rw [List.length_drop]; omega) (by rw [List.length_drop]; omega)]
def opS (l : List Int) : List Op1 × Int := opF (l.length + 1) l
theorem opS_nil : opS [] = ([], 0) := rfl
theorem opS_zero (t : List Int) : opS (0 :: t) = ([], if t.all (· == 0) then 0 else 5) := by unfold opS opF; rw [if_pos rfl]
theorem opS_one (t : List Int) : opS (1 :: t) = opS t := by
  show opF _ _ = _
  unfold opF; rw [if_neg (by omega), if_pos rfl]; exact opF_irr _ _ _ (by simp) (by simp)
theorem opS_lone {k : Int} (h0 : k ≠ 0) (h1 : k ≠ 1) : opS [k] = ([], 4) := by unfold opS opF; rw [if_neg h0, if_neg h1]
theorem opS_form {k n : Int} (t : List Int) (h0 : k ≠ 0) (h1 : k ≠ 1) (hn : n < 2) : opS (k :: n :: t) = ([], 5) := by unfold opS opF; rw [if_neg h0, if_neg h1]; dsimp only; rw [if_pos hn]
theorem opS_short {k n : Int} (t : List Int) (h0 : k ≠ 0) (h1 : k ≠ 1) (hn : ¬ n < 2) (ht : t.length < (n - 2).toNat) : opS (k :: n :: t) = ([], 4) := by unfold opS opF; rw [if_neg h0, if_neg h1]; dsimp only; rw [if_neg hn, if_pos ht]
theorem opS_more {k n : Int} (t : List Int) (h0 : k ≠ 0) (h1 : k ≠ 1) (hn : ¬ n < 2) (ht : ¬ t.length < (n - 2).toNat) :
    opS (k :: n :: t) = ((k, t.take (n - 2).toNat) :: (opS (t.drop (n - 2).toNat)).1, (opS (t.drop (n - 2).toNat)).2) := by
  show opF _ _ = _
  unfold opF; rw [if_neg h0, if_neg h1]; dsimp only; rw [if_neg hn, if_neg ht]
  rw [opF_irr _ ((t.drop (n - 2).toNat).length + 1) (t.drop (n - 2).toNat) (by simp only [List.length_drop, List.length_cons]; omega) (by simp)]
  rfl

/-- Options of bytes; the error. -/
def opar (l : List Int) : List Op1 × Int := if 40 < l.length then ([], 3) else if (opS l).2 = 0 then opS l else ([], (opS l).2)

/-- One option's bytes ahead. -/
theorem opS_ob {o : Op1} (h : badO o = false) (t : List Int) : opS (ob o ++ t) = (o :: (opS t).1, (opS t).2) := by
  unfold badO at h
  simp only [Bool.or_eq_false_iff, decide_eq_false_iff_not] at h
  have hn : ((((2 + o.2.length : Nat) : Int)) - 2).toNat = o.2.length := by omega
  show opS (o.1 :: ((2 + o.2.length : Nat) : Int) :: (o.2 ++ t)) = _
  rw [opS_more _ (by omega) (by omega) (by omega) (by rw [hn]; simp), hn]
  simp
theorem opS_flat {os : List Op1} (h : os.any badO = false) (t : List Int) : opS (flat os ++ t) = (os ++ (opS t).1, (opS t).2) := by
  induction os with
  | nil => rfl
  | cons o os ih =>
    simp only [List.any_cons, Bool.or_eq_false_iff] at h
    rw [flat_cons, List.append_assoc, opS_ob h.1, ih h.2]
    rfl
theorem opS_zeros (n : Nat) : opS (zeros n) = ([], 0) := by
  cases n with
  | zero => rfl
  | succ n =>
    show opS (0 :: zeros n) = _
    rw [opS_zero, if_pos (by simp [zeros])]
theorem opS_ones (n : Nat) (t : List Int) : opS (List.replicate n 1 ++ t) = opS t := by
  induction n with
  | zero => rfl
  | succ n ih => rw [List.replicate_succ, List.cons_append, opS_one, ih]
theorem opar_put {os : List Op1} (h : (oput os).2 = 0) : opar (oput os).1 = (os, 0) := by
  have hl := (oput_len os).1
  unfold oput at h hl ⊢
  split at h
  · cases h
  · split at h
    · cases h
    · rename_i h1 h2
      rw [if_neg h1, if_neg h2] at hl ⊢
      dsimp only at hl ⊢
      unfold opar
      rw [if_neg (by omega), opS_flat (by simpa using h1), opS_zeros]
      simp

/-- What is scanned well may be. -/
theorem opS_good : ∀ (n : Nat) (l : List Int), l.length ≤ n → l.length ≤ 40 → Byt l → (opS l).1.any badO = false ∧ (flat (opS l).1).length ≤ l.length ∧ BytO (opS l).1
  | n, [], _, _, _ => by rw [opS_nil]; exact ⟨rfl, Nat.le_refl _, fun o h => by cases h⟩
  | 0, k :: t, h, _, _ => by simp at h
  | n + 1, k :: t, h, h40, hb => by
    simp only [List.length_cons] at h h40
    have hbt : Byt t := fun x hx => hb x (List.mem_cons_of_mem _ hx)
    by_cases h0 : k = 0
    · subst h0
      rw [opS_zero]; exact ⟨rfl, Nat.zero_le _, fun o h => by cases h⟩
    by_cases h1 : k = 1
    · subst h1
      rw [opS_one]
      obtain ⟨a, b, c⟩ := opS_good n t (by omega) (by omega) hbt
      exact ⟨a, by simp only [List.length_cons]; omega, c⟩
    cases t with
    | nil => rw [opS_lone h0 h1]; exact ⟨rfl, Nat.zero_le _, fun o h => by cases h⟩
    | cons m t =>
      simp only [List.length_cons] at h h40
      by_cases h2 : m < 2
      · rw [opS_form t h0 h1 h2]; exact ⟨rfl, Nat.zero_le _, fun o h => by cases h⟩
      by_cases h3 : t.length < (m - 2).toNat
      · rw [opS_short t h0 h1 h2 h3]; exact ⟨rfl, Nat.zero_le _, fun o h => by cases h⟩
      rw [opS_more t h0 h1 h2 h3]
      have hbt' : Byt t := fun x hx => hbt x (List.mem_cons_of_mem _ hx)
      have hl := List.length_drop (i := (m - 2).toNat) (l := t)
      obtain ⟨a, b, c⟩ := opS_good n (t.drop (m - 2).toNat) (by omega) (by omega) (hbt'.drop _)
      have hk := hb k (List.mem_cons_self ..)
      have htl : (t.take (m - 2).toNat).length = (m - 2).toNat := by rw [List.length_take]; omega
      refine ⟨?_, ?_, ?_⟩
      · simp only [List.any_cons, Bool.or_eq_false_iff]
        refine ⟨?_, a⟩
        unfold badO
        simp only [Bool.or_eq_false_iff, decide_eq_false_iff_not]
        omega
      · rw [flat_cons, List.length_append, ob_len]
        simp only [List.length_cons]
        omega
      · intro o ho
        rcases List.mem_cons.1 ho with rfl | ho
        · exact ⟨hk, hbt'.take _⟩
        · exact c o ho
theorem opar_byt {l : List Int} (hb : Byt l) : BytO (opar l).1 := by
  unfold opar
  split
  · intro o h; cases h
  · split
    · exact (opS_good _ l (Nat.le_refl _) (by omega) hb).2.2
    · intro o h; cases h
/-- Put of what Parse tells, parsed again, is the same. -/
theorem opar_again {l : List Int} (hb : Byt l) (h : (opar l).2 = 0) : (oput (opar l).1).2 = 0 ∧ opar (oput (opar l).1).1 = ((opar l).1, 0) := by
  have hput : (oput (opar l).1).2 = 0 := by
    unfold opar at h ⊢
    split at h
    · cases h
    · rename_i h4
      rw [if_neg h4]
      split at h
      · rename_i h5
        rw [if_pos h5]
        obtain ⟨a, b, c⟩ := opS_good _ l (Nat.le_refl _) (by omega) hb
        unfold oput
        rw [if_neg (by simp [a]), if_neg (by omega)]
      · rename_i h5; exact absurd h h5
  exact ⟨hput, opar_put hput⟩
theorem opar_err {l : List Int} (h : (opar l).2 ≠ 0) : (opar l).1 = [] := by
  unfold opar at *
  split at h
  · rename_i h4; rw [if_pos h4]
  · rename_i h4
    rw [if_neg h4]
    split at h
    · rename_i h5; exact absurd h5 h
    · rename_i h5; rw [if_neg h5]
end Go.Proofs.YtbaidlkjbdeceaaGreat
