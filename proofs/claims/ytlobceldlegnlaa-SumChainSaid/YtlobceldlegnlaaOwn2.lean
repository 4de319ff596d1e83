/-
  Proved here: make of integers, and stores into a slice that the call itself made. Over any program.
-/
import Derived.Test.YtlobceldlegnlaaOwn
namespace Go.Cul
open Go Go.RowKit
set_option linter.unusedVariables false

theorem madeCells_one (z : Value) (hz : z.cells = #[z]) (n : Nat) : (madeCells z.cells n).toList = List.replicate n z := by
  apply List.ext_getElem?
  intro i
  rw [hz]
  by_cases hi : i < n
  · simp [madeCells, hi, Nat.mod_one]
  · simp [madeCells, hi]

theorem Ext.of_grown {w w' : World} (h : w.grownBy w' none) : Ext w w' := ⟨h.os, h.tape, h.output, h.size, fun k hk => h.block k hk (by simp)⟩

theorem run_mk {P : Program} {k : IntKind} {t e : TypeId} {bytes : Nat} (is : IS P k t e bytes) (w : World) (base : Nat) (kl kc : IntKind) (n : Nat) (hn : bytes * n ≤ 281474976710656) (h63 : n ≤ maxLen) (hbase : base ≤ w.heap.size) :
    ∃ w', (Instr.makeSlice t (.int kl n) (.int kc n)).run P w = .ok (.slice (some ⟨w.heap.size, 0, none⟩) n n) w' ∧ Own w' base e k (.slice (some ⟨w.heap.size, 0, none⟩) n n) (List.replicate n 0) ∧ Ext w w' := by
  obtain ⟨i, hi, hz, hs, hb⟩ := is.hi
  obtain ⟨w', h1, h2, h3⟩ := run_make_full (P := P) w base t e i _ 1 is.ht hi hz hs kl kc n (by rw [hb]; exact hn) h63 hbase
  refine ⟨w', h1, ?_, Ext.of_grown h3⟩
  rw [madeCells_one _ rfl, Nat.mul_one] at h2
  unfold Own
  rw [List.length_replicate, List.map_replicate]
  exact h2

theorem Own.open {w : World} {base : Nat} {e : TypeId} {k : IntKind} {v : Value} {l : List Int} (h : Own w base e k v l) (hl : 0 < l.length) :
    ∃ g cap, v = .slice (some ⟨g, 0, none⟩) l.length cap ∧ base ≤ g ∧ g < w.heap.size ∧ (∀ i, i < l.length → w.cell? ⟨g, i, none⟩ = some (.int k (l.getD i 0))) ∧ (∀ i, w.frozen? ⟨g, i, none⟩ = false) ∧ l.length ≤ cap ∧ cap ≤ maxLen ∧
      (∀ (x : Int) i, i < l.length → Own (w.setCell ⟨g, i, none⟩ (.int k x)) base e k v (l.set i x)) := by
  rcases h.2 with ⟨rfl, h0⟩ | ⟨g, cap, cur, rfl, hb, hh, hn, hm, hsz, htake⟩
  · omega
  · have hcell : ∀ i, i < l.length → w.cell? ⟨g, i, none⟩ = some (.int k (l.getD i 0)) := fun i hi => by
      rw [cell_of_row w g i cur e (0, 0) hh]
      have h1 : (cur.toList.take (l.length * 1))[i]? = (l.map (Value.int k))[i]? := by rw [htake]
      rw [Nat.mul_one, List.getElem?_take, if_pos hi] at h1
      simp [List.getD, hi] at h1 ⊢
      exact h1
    refine ⟨g, cap, rfl, hb, lt_of_block hh, hcell, fun i => by simp [World.frozen?, hh], hn, hm, fun x i hi => ⟨by simp, .inr ⟨g, cap, cur.setIfInBounds i (.int k x), by simp, hb, ?_, by simpa using hn, hm, by simpa using hsz, ?_⟩⟩⟩
    · simp [World.setCell, Array.getElem?_modify, hh]
    · rw [Nat.mul_one] at htake
      rw [List.length_set, Nat.mul_one, Array.toList_setIfInBounds, List.take_set, htake, List.map_set]

/-- An own slice of another block stays as it is behind a store. -/
theorem Own.other {w : World} {base : Nat} {e : TypeId} {k : IntKind} {v : Value} {l : List Int} (h : Own w base e k v l) {a : Addr} (ha : v.ownBlock ≠ some a.block) (u : Value) : Own (w.setCell a u) base e k v l :=
  ownsRow_setCell_other h ha u
end Go.Cul
