/-
  Proved here: small laws on worlds that grow, and on slices of integers that are read. No program in sight.
-/
import Derived.WalkKit
import Derived.ProofKit
import Derived.OneCell
import Derived.WalkSmall
import Derived.Lib.Hide
namespace Go.Cul
open Go Go.RowKit

/-- The world has grown: what was there is there. -/
abbrev Ext (w w' : World) : Prop := Below w.heap.size w w'

theorem Ext.rfl' (w : World) : Ext w w := Below.refl _ _
theorem Ext.tr {a b c : World} (h : Ext a b) (k : Ext b c) : Ext a c := Below.trans h (k.mono h.size)
theorem Ext.draw (w : World) : Ext w { w with drawn := w.drawn + 1 } := ⟨rfl, rfl, rfl, Nat.le_refl _, fun _ _ => rfl⟩

theorem lt_of_cell {w : World} {a : Addr} {v : Value} (h : w.cell? a = some v) : a.block < w.heap.size := by
  rcases Nat.lt_or_ge a.block w.heap.size with h' | h'
  · exact h'
  · simp [World.cell?, Array.getElem?_eq_none h'] at h

theorem Ext.cell {w w' : World} (h : Ext w w') {a : Addr} {v : Value} (hc : w.cell? a = some v) : w'.cell? a = some v := by
  rw [Below.cell h (lt_of_cell hc)]; exact hc

theorem Ext.block {w w' : World} (h : Ext w w') {b : Nat} {o : Obj} (hc : w.heap[b]? = some o) : w'.heap[b]? = some o := by
  rw [Below.block h b (lt_of_block hc)]; exact hc

/-- A slice of integers of kind k that reads as l. -/
def Rd (k : IntKind) (w : World) (v : Value) (l : List Int) : Prop :=
  ∃ a cap, v = .slice a l.length cap ∧ l.length ≤ cap ∧ cap ≤ maxLen ∧
    (l = [] ∨ ∃ b o, a = some ⟨b, o, none⟩ ∧ ∀ i, i < l.length → w.cell? ⟨b, o + i, none⟩ = some (.int k (l.getD i 0)))

theorem Rd.ext {k : IntKind} {w w' : World} {v : Value} {l : List Int} (h : Rd k w v l) (hx : Ext w w') : Rd k w' v l := by
  obtain ⟨a, cap, rfl, h1, h2, h3⟩ := h
  refine ⟨a, cap, rfl, h1, h2, ?_⟩
  rcases h3 with h3 | ⟨b, o, rfl, h3⟩
  · exact .inl h3
  · exact .inr ⟨b, o, rfl, fun i hi => hx.cell (h3 i hi)⟩

theorem Rd.nil (k : IntKind) (w : World) : Rd k w (.slice none 0 0) [] := ⟨none, 0, rfl, Nat.le_refl _, by decide, .inl rfl⟩

theorem Rd.len {k : IntKind} {w : World} {v : Value} {l : List Int} (h : Rd k w v l) : l.length ≤ maxLen := by
  obtain ⟨a, cap, rfl, h1, h2, h3⟩ := h; omega

/-- A slice of slices of bytes. -/
def Rds (k : IntKind) (w : World) (v : Value) (ls : List (List Int)) : Prop :=
  ∃ a cap, v = .slice a ls.length cap ∧ ls.length ≤ cap ∧ cap ≤ maxLen ∧
    (ls = [] ∨ ∃ b o, a = some ⟨b, o, none⟩ ∧ ∀ i, i < ls.length → ∃ u, w.cell? ⟨b, o + i, none⟩ = some u ∧ Rd k w u (ls.getD i []))

theorem Rds.ext {k : IntKind} {w w' : World} {v : Value} {ls : List (List Int)} (h : Rds k w v ls) (hx : Ext w w') : Rds k w' v ls := by
  obtain ⟨a, cap, rfl, h1, h2, h3⟩ := h
  refine ⟨a, cap, rfl, h1, h2, ?_⟩
  rcases h3 with h3 | ⟨b, o, rfl, h3⟩
  · exact .inl h3
  · exact .inr ⟨b, o, rfl, fun i hi => let ⟨u, h4, h5⟩ := h3 i hi; ⟨u, hx.cell h4, h5.ext hx⟩⟩

/-- Bytes. -/
def Byt (l : List Int) : Prop := ∀ x ∈ l, 0 ≤ x ∧ x ≤ 255

theorem Byt.at {l : List Int} (h : Byt l) (i : Nat) : 0 ≤ l.getD i 0 ∧ l.getD i 0 ≤ 255 := by
  by_cases hi : i < l.length
  · have : l.getD i 0 = l[i] := by simp [List.getD, hi]
    rw [this]; exact h _ (List.getElem_mem hi)
  · have : l.getD i 0 = 0 := by simp [List.getD, List.getElem?_eq_none (show l.length ≤ i by omega)]
    rw [this]; decide

theorem Byt.app {l r : List Int} (h : Byt l) (h' : Byt r) : Byt (l ++ r) := by
  intro x hx; rcases List.mem_append.1 hx with hx | hx
  · exact h x hx
  · exact h' x hx
theorem Byt.take {l : List Int} (h : Byt l) (n : Nat) : Byt (l.take n) := fun x hx => h x (List.mem_of_mem_take hx)
theorem Byt.drop {l : List Int} (h : Byt l) (n : Nat) : Byt (l.drop n) := fun x hx => h x (List.mem_of_mem_drop hx)

theorem take_succ_getD (l : List Int) (i : Nat) (h : i < l.length) : l.take (i + 1) = l.take i ++ [l.getD i 0] := by
  rw [List.take_succ_eq_append_getElem h]; simp [List.getD, h]
theorem take_succ_getD' {α : Type} (d : α) (l : List α) (i : Nat) (h : i < l.length) : l.take (i + 1) = l.take i ++ [l.getD i d] := by
  rw [List.take_succ_eq_append_getElem h]; simp [List.getD, h]

theorem ret_int {k : IntKind} {a b : Int} (h : a = b) : Ending.returned (.int k a) = .returned (.int k b) := by rw [h]
theorem ret_bool {a b : Bool} (h : a = b) : Ending.returned (.bool a) = .returned (.bool b) := by rw [h]

theorem Ext.al {a b : World} (h : Ext a b) (o : Obj) : Ext a (b.alloc o) := Below.alloc h h.size o
theorem Ext.dr {a b : World} (h : Ext a b) : Ext a b.drew := Below.drew h
theorem Ext.new (a : World) (o : Obj) : Ext a (a.alloc o) := (Ext.rfl' a).al o

theorem cell_new (w : World) (C : Array Value) (t : TypeId) (i : Nat) : (w.alloc (.cells C t)).cell? ⟨w.heap.size, i, none⟩ = C[i]? := by
  have h := heap_alloc_new w (.cells C t)
  simp only [World.cell?, h]
  rfl

/-- A slice of integers that has just been built. -/
theorem rd_new (k : IntKind) (w : World) (C : Array Value) (t : TypeId) (l : List Int) {B n m : Nat} (hB : w.heap.size = B) (hn : l.length = n) (hm : l.length = m) (hC : C = (l.map (Value.int k)).toArray) (hl : l.length ≤ maxLen) : Rd k (w.alloc (.cells C t)) (.slice (some ⟨B, 0, none⟩) n m) l := by
  subst hB hn hm
  refine ⟨_, _, rfl, Nat.le_refl _, hl, .inr ⟨_, _, rfl, fun i hi => ?_⟩⟩
  rw [Nat.zero_add, cell_new, hC]
  simp [List.getD, hi]

theorem rds_one {k : IntKind} {w : World} {u : Value} {l : List Int} {t : TypeId} {B : Nat} (h : Rd k w u l) (hB : w.heap.size = B) : Rds k (w.alloc (.cells #[u] t)) (.slice (some ⟨B, 0, none⟩) 1 1) [l] := by
  subst hB
  refine ⟨_, _, rfl, Nat.le_refl _, by decide, .inr ⟨_, _, rfl, fun i hi => ?_⟩⟩
  have : i = 0 := by simpa using hi
  subst this
  exact ⟨u, by rw [Nat.zero_add, cell_new]; rfl, h.ext (Ext.new _ _)⟩

theorem rds_two {k : IntKind} {w : World} {u v : Value} {l r : List Int} {t : TypeId} {B : Nat} (h : Rd k w u l) (h' : Rd k w v r) (hB : w.heap.size = B) : Rds k (w.alloc (.cells #[u, v] t)) (.slice (some ⟨B, 0, none⟩) 2 2) [l, r] := by
  subst hB
  refine ⟨_, _, rfl, Nat.le_refl _, by decide, .inr ⟨_, _, rfl, fun i hi => ?_⟩⟩
  have hi : i < 2 := by simpa using hi
  rcases (by omega : i = 0 ∨ i = 1) with rfl | rfl
  · exact ⟨u, by rw [Nat.zero_add, cell_new]; rfl, h.ext (Ext.new _ _)⟩
  · exact ⟨v, by rw [Nat.zero_add, cell_new]; rfl, h'.ext (Ext.new _ _)⟩

theorem rds_nil (k : IntKind) (w : World) : Rds k w (.slice none 0 0) [] := ⟨none, 0, rfl, Nat.le_refl _, by decide, .inl rfl⟩

/-- Bytes, as a test. -/
def bytB (l : List Int) : Bool := l.all fun x => decide (0 ≤ x) && decide (x ≤ 255)
theorem byt_of {l : List Int} (h : bytB l = true) : Byt l := by
  intro x hx
  have := List.all_eq_true.1 h x hx
  simpa using this

end Go.Cul
