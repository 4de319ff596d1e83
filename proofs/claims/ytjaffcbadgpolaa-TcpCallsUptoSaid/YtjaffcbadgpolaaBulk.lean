/-
  Proved here: what the bound on an input's bulk says of the lengths of slices of integers, and of slices of such slices.
-/
import Derived.Test.YtjaffcbadgpolaaRows
import Derived.Test.YtjaffcbadgpolaaFrame
namespace Go.Proofs.Ytjaffcbadgpolaa.bulks
open Go Go.Cul Go.ChangeShapes Go.RowKit Go.ChangeAt
set_option linter.unusedVariables false

theorem one_le {H : Type} (d : DataW H) : 1 ≤ Rows.uptoBulk d := by
  cases d with
  | lit l => cases l <;> simp [Rows.uptoBulk]
  | nil => simp [Rows.uptoBulk]
  | ptr d => simp [Rows.uptoBulk]
  | slice elems spare => simp [Rows.uptoBulk]
  | agg parts => simp [Rows.uptoBulk]
  | iface t d => simp [Rows.uptoBulk]
  | map entries => simp [Rows.uptoBulk]
  | held h => simp [Rows.uptoBulk]

theorem part_le {H : Type} {d : DataW H} {l : List (DataW H)} (h : d ∈ l) : Rows.uptoBulk d ≤ Rows.uptoBulkAll l := by
  induction l with
  | nil => cases h
  | cons x r ih =>
    simp only [Rows.uptoBulkAll]
    cases List.mem_cons.1 h with
    | inl e => subst e; omega
    | inr e => have := ih e; omega

theorem length_le {H : Type} (l : List (DataW H)) : l.length ≤ Rows.uptoBulkAll l := by
  induction l with
  | nil => simp [Rows.uptoBulkAll]
  | cons x r ih => have := one_le x; simp only [Rows.uptoBulkAll, List.length_cons]; omega

theorem bound {H : Type} {l : List (DataW H)} (hk : Rows.uptoSmall H l = true) : Rows.uptoBulkAll l ≤ 1048576 := of_decide_eq_true hk

theorem ints_bulk {H : Type} {k : IntKind} {d : DataW H} {l sp : List Int} (h : IsInts k d l sp) : l.length ≤ Rows.uptoBulk d := by
  rcases h with ⟨_, rfl⟩ | rfl
  · simp
  · have := length_le (H := H) (lits k l)
    simp only [Rows.uptoBulk]
    simp only [lits, List.length_map] at this ⊢
    omega

theorem ints_le {H : Type} {k : IntKind} {d : DataW H} {l sp : List Int} {n : Nat} (h : IsInts k d l sp) (hn : Rows.uptoBulk d ≤ n) : l.length ≤ n := Nat.le_trans (ints_bulk h) hn

theorem rows_bulk {H : Type} {k : IntKind} : ∀ (ls : List (List Int)) (es : List (DataW H)) (sps : List (List Int)), es.length = ls.length → (∀ i, i < ls.length → ∃ x, es[i]? = some x ∧ IsInts k x (ls.getD i []) (sps.getD i [])) → ls.flatten.length ≤ Rows.uptoBulkAll es
  | [], _, _, _, _ => by simp
  | l :: ls, es, sps, hl, h => by
    match es, hl with
    | e :: es, hl =>
      obtain ⟨x, hx, h0⟩ := h 0 (by simp)
      simp at hx
      subst hx
      have h1 := ints_bulk h0
      simp at h1
      have h2 := rows_bulk (k := k) ls es (sps.drop 1) (by simpa using hl) (fun i hi => by
        obtain ⟨x, hx, h3⟩ := h (i + 1) (by simpa using hi)
        refine ⟨x, by simpa using hx, ?_⟩
        have e1 : (sps.drop 1).getD i [] = sps.getD (i + 1) [] := by simp [List.getD]
        rw [e1]
        simpa using h3)
      simp only [Rows.uptoBulkAll, List.flatten_cons, List.length_append]
      omega

theorem rows_le {H : Type} {k : IntKind} {d : DataW H} {ls : List (List Int)} {n : Nat} (h : IsRows k d ls) (hn : Rows.uptoBulk d ≤ n) : ls.flatten.length ≤ n := by
  rcases h with ⟨_, rfl⟩ | ⟨es, sps, rest, rfl, h1, h2, h3⟩
  · simp
  · have := rows_bulk ls es sps h1 h3
    simp only [Rows.uptoBulk] at hn
    omega
end Go.Proofs.Ytjaffcbadgpolaa.bulks
