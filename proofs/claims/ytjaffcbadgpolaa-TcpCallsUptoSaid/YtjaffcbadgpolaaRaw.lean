/-
  Proved here: laws on a row of options in new memory whose data's bytes are turned.
-/
import Derived.Test.YtjaffcbadgpolaaOptsR
namespace Go.Proofs.Ytjaffcbadgpolaa.raws
open Go.ChangeShapes Go.WideShapes Go.ChangeAt Go.RowKit Go.Cul Go.Loose
set_option linter.unusedVariables false

/-- A slice of bytes, whatever they are, in memory behind base. -/
def RawD (base : Nat) (w : World) (u : Value) : Prop :=
  (∃ a c, u = .slice a 0 c) ∨ ∃ g n cap cur, u = .slice (some ⟨g, 0, none⟩) n cap ∧ base ≤ g ∧ w.heap[g]? = some (.cells cur 5) ∧ n ≤ cap ∧ cap ≤ maxLen ∧ cur.size = cap ∧ ∀ j, j < n → ∃ x, cur[j]? = some (.int .u8 x)
theorem RawD.of {base : Nat} {w : World} {u : Value} {l : List Int} (h : Fr w base 5 .u8 u l) : RawD base w u := by
  rcases h with h | ⟨a, rfl, rfl⟩
  · rcases h.2 with ⟨rfl, h0⟩ | ⟨g, cap, cur, rfl, hb, hh, hn, hm, hsz, htk⟩
    · exact .inl ⟨_, _, rfl⟩
    · refine .inr ⟨g, _, cap, cur, rfl, hb, hh, hn, hm, by omega, fun j hj => ?_⟩
      have h1 : (l.map (Value.int .u8))[j]? = some (.int .u8 l[j]) := by simp [hj]
      rw [← htk, List.getElem?_take, if_pos (by omega)] at h1
      exact ⟨_, by simpa using h1⟩
  · exact .inl ⟨_, _, rfl⟩
theorem RawD.shape {base : Nat} {w : World} {u : Value} (h : RawD base w u) : ∃ a n c, u = .slice a n c ∧ n ≤ 9223372036854775807 := by
  rcases h with ⟨a, c, rfl⟩ | ⟨g, n, cap, cur, rfl, -, -, hn, hm, -⟩
  · exact ⟨_, _, _, rfl, by omega⟩
  · exact ⟨_, _, _, rfl, by unfold maxLen at hm; omega⟩
theorem RawD.stored {base : Nat} {w : World} {u : Value} (h : RawD base w u) (g j : Nat) (y : Int) : RawD base (w.setCell ⟨g, j, none⟩ (.int .u8 y)) u := by
  rcases h with h | ⟨g', n, cap, cur, rfl, hb, hh, hn, hm, hsz, hx⟩
  · exact .inl h
  · by_cases hg : g' = g
    · subst hg
      refine .inr ⟨g', n, cap, cur.setIfInBounds j (.int .u8 y), rfl, hb, set_blk hh _ _, hn, hm, by simpa using hsz, fun i hi => ?_⟩
      obtain ⟨x, hx⟩ := hx i hi
      rw [Array.getElem?_setIfInBounds]
      split
      · rename_i he
        subst he
        have : j < cur.size := by omega
        exact ⟨y, by simp [this]⟩
      · exact ⟨x, hx⟩
    · exact .inr ⟨g', n, cap, cur, rfl, hb, set_oth hh hg _ _, hn, hm, hsz, hx⟩

theorem types_ne : (5 : TypeId) ≠ 36 := by decide

/-- What the loops keep: the row of options as it was, bytes in its data, and only new memory turned. -/
def Inv (base : Nat) (v : Value) (xs : List (Op1 × Value)) (w0 w : World) : Prop :=
  (∀ x ∈ xs, RawD base w x.2) ∧ w.ownsRow base 36 2 v xs.length (rowsO xs) ∧ Mvs (fun b => base ≤ b) w0 w
theorem Inv.at {base : Nat} {v : Value} {xs : List (Op1 × Value)} {w0 w : World} (h : Inv base v xs w0 w) {i : Nat} (hi : i < xs.length) :
    ∃ g cap, v = .slice (some ⟨g, 0, none⟩) xs.length cap ∧ xs.length ≤ cap ∧ w.cell? ⟨g, i * 2 + 1, none⟩ = some (xs.getD i ((0, []), undef)).2 ∧ RawD base w (xs.getD i ((0, []), undef)).2 := by
  obtain ⟨h1, h2, h3⟩ := h
  rcases h2.2 with ⟨rfl, h0⟩ | ⟨g, cap, cur, rfl, hb, hh, hn, hm, hsz, htk⟩
  · omega
  · obtain ⟨c0, c1⟩ := rowsO_at xs i hi
    have hget : ∀ j, j < xs.length * 2 → w.cell? ⟨g, j, none⟩ = (rowsO xs)[j]? := fun j hj => by
      rw [cell_of_row w g j cur _ (0, 0) hh, ← htk, List.getElem?_take, if_pos hj]
      simp
    exact ⟨g, cap, rfl, hn, by rw [hget _ (by omega), c1], h1 _ (by simp [List.getD, hi])⟩
theorem Inv.stored {base : Nat} {v : Value} {xs : List (Op1 × Value)} {w0 w : World} (h : Inv base v xs w0 w) {g : Nat} {cur : Array Value} (hg : w.heap[g]? = some (.cells cur 5)) (hb : base ≤ g) (j : Nat) (y : Int) :
    Inv base v xs w0 (w.setCell ⟨g, j, none⟩ (.int .u8 y)) := by
  obtain ⟨h1, h2, h3⟩ := h
  refine ⟨fun x hx => (h1 x hx).stored g j y, ⟨h2.1, ?_⟩, h3.tr (Mvs.set _ _ _ hb)⟩
  rcases h2.2 with h0 | ⟨g', cap, cur', rfl, hb', hh, r⟩
  · exact .inl h0
  · refine .inr ⟨g', cap, cur', rfl, hb', set_oth hh (fun he => ?_) _ _, r⟩
    subst he
    rw [hg] at hh
    simp only [Option.some.injEq, Obj.cells.injEq] at hh
    exact types_ne hh.2.1

end Go.Proofs.Ytjaffcbadgpolaa.raws
