/-
  Proved here: what opts.Parse computes. Condition: at most 2^47 bytes.
-/
import Derived.Test.YtebbnincclgagaaOptsP
import Derived.Test.YtebbnincclgagaaLibs
import Derived.Test.YtebbnincclgagaaRegion
import Derived.Deep.Cut
namespace Go.Proofs.Ytebbnincclgagaa
set_option maxRecDepth 16000
open Go.ChangeShapes Go.WideShapes Go.ChangeAt Go.RowKit Go.Cul Go.Loose
set_option linter.unusedVariables false
attribute [local go_sem] Loose.Still Loose.Upon Loose.vUpon First.pUpon

/-- What is in blocks from base on is kept. -/
def Keep (base : Nat) (w w' : World) : Prop := ∀ g o, base ≤ g → w.heap[g]? = some o → w'.heap[g]? = some o
theorem Keep.ofExt {base : Nat} {w w' : World} (h : Ext w w') : Keep base w w' := fun g o _ hg => h.block hg
theorem Keep.ofMvs {S : Nat → Prop} {base : Nat} {w w' : World} (h : Mvs S w w') (hS : ∀ k, S k → k < base) : Keep base w w' := fun g o hb hg => h.keep hg (fun hs => by have := hS g hs; omega)
theorem Keep.ofOut {base : Nat} {w w1 w2 w' : World} (h : Out w w1 w2 w') (hb : w1.heap.size ≤ base) : Keep base w2 w' := fun g o hg hh => (h.block g (lt_of_block hh) (.inr (Nat.le_trans hb hg))).trans hh
theorem Own.keep {base : Nat} {w w' : World} {e : TypeId} {k : IntKind} {v : Value} {l : List Int} (h : Own w base e k v l) (hk : Keep base w w') : Own w' base e k v l := by
  refine ⟨h.1, ?_⟩
  rcases h.2 with h0 | ⟨g, cap, cur, rfl, hb, hh, r⟩
  · exact .inl h0
  · exact .inr ⟨g, cap, cur, rfl, hb, hk g _ hb hh, r⟩
theorem Fr.keep {base : Nat} {w w' : World} {e : TypeId} {k : IntKind} {v : Value} {l : List Int} (h : Fr w base e k v l) (hk : Keep base w w') : Fr w' base e k v l := by
  rcases h with h | h
  · exact .inl (Own.keep h hk)
  · exact .inr h

/-- The cells of options whose data are there. -/
def rowsO (xs : List (Op1 × Value)) : List Value := xs.flatMap fun x => [.int .u8 x.1.1, x.2]
theorem rowsO_len (xs : List (Op1 × Value)) : (rowsO xs).length = xs.length * 2 := by
  induction xs with
  | nil => rfl
  | cons x xs ih => simp only [rowsO, List.flatMap_cons, List.length_append, List.length_cons, List.length_nil] at *; omega
theorem rowsO_at : ∀ (xs : List (Op1 × Value)) (i : Nat), i < xs.length → (rowsO xs)[i * 2]? = some (.int .u8 (xs.getD i ((0, []), undef)).1.1) ∧ (rowsO xs)[i * 2 + 1]? = some (xs.getD i ((0, []), undef)).2
  | x :: xs, 0, _ => by simp [rowsO]
  | x :: xs, i + 1, h => by
    have ih := rowsO_at xs i (by simpa using h)
    have e1 : (i + 1) * 2 = i * 2 + 2 := by omega
    rw [e1]
    simpa [rowsO] using ih
theorem mvs_grown {S : Nat → Prop} {W w w' : World} {r : Option Nat} (hm : Mvs S W w) (hg : w.grownBy w' r) (hr : ∀ j, r = some j → W.heap.size ≤ j) : Mvs S W w' :=
  ⟨hg.os.trans hm.os, hg.tape.trans hm.tape, hg.output.trans hm.output, Nat.le_trans hm.size hg.size, fun k hk hS => (hg.block k (Nat.lt_of_lt_of_le hk hm.size) (fun e => by have := hr k e.symm; omega)).trans (hm.block k hk hS)⟩

theorem rd_grown {k : IntKind} {w0 w w' : World} {r : Option Nat} {v : Value} {l : List Int} (h0 : Rd k w0 v l) (h : Rd k w v l) (hg : w.grownBy w' r) (hr : ∀ j, r = some j → w0.heap.size ≤ j) : Rd k w' v l := by
  obtain ⟨a, cap, rfl, h1, h2, h3⟩ := h
  refine ⟨a, cap, rfl, h1, h2, ?_⟩
  rcases h3 with h3 | ⟨b, o, rfl, h3⟩
  · exact .inl h3
  · obtain ⟨a', cap', he, -, -, h4⟩ := h0
    cases he
    rcases h4 with h4 | ⟨b', o', he, h4⟩
    · exact .inl h4
    · cases he
      refine .inr ⟨b, o, rfl, fun i hi => ?_⟩
      have hlt := lt_of_cell (h4 i hi)
      have hc := h3 i hi
      rw [World.cell?_of_block (w := w) (hg.block b (lt_of_cell hc) (fun e => by have := hr b e.symm; dsimp only at hlt; omega))]
      exact hc

/-- How far a reader has read. -/
def rdAt (w : World) (B : Nat) : Nat := match w.cell? ⟨B, 1, none⟩ with | some (.int _ n) => n.toNat | _ => 0
theorem rdAt_of {w : World} {B : Nat} {bv : Value} {l : List Int} {k : Nat} (h : Rdr w B bv l k) : rdAt w B = k := by unfold rdAt; rw [h.c1]; simp
theorem drop_cons {l : List Int} {k : Nat} (h : k < l.length) : l.drop k = l.getD k 0 :: l.drop (k + 1) := by rw [List.drop_eq_getElem_cons h]; simp [List.getD, h]

end Go.Proofs.Ytebbnincclgagaa
