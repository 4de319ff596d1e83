/-
  Proved here: culvertlaw25's awake returns true.
-/
import Derived.Test.YtgbbpibcmpeneaaShV
import Derived.Lib.SlBytesConst
namespace Go.Proofs.Ytgbbpibcmpeneaa
set_option maxRecDepth 200000
open Go.ChangeShapes Go.WideShapes Go.ChangeAt Go.RowKit Go.Cul Go.Loose
set_option linter.unusedVariables false

theorem over_lit (x : Shf) (g : Sg) (L : List Sg) (E : Int) (he : overL x g = (L, E)) (hx : x.ok) (hg : g.ok) (vo vd : Value) (w : World) (hvo : RdO w vo g.os) (hvd : Rd .u8 w vd g.data) (hn : g.os = []) (hl : g.data.length ≤ 1000000) :
    Calls Try.prog 36 #[.agg x.cells, .agg (g.cells vo vd)] w fun e w' => ∃ u, e = .returned (.tuple #[u, .int .i64 E]) ∧ FrS w' w.heap.size u L ∧ Ext w w' := by
  have h := over_any x hx g hg vo vd w hvo hvd (by rw [hn]; simp) (by rw [hn]; simp) hl
  rw [he] at h
  exact h

theorem rd_newz (w : World) (t : TypeId) (fz : Nat × Nat) (l : List Int) {C : Array Value} {n : Nat} (hC : C = (l.map (Value.int .u8)).toArray) (hn : l.length = n) (hl : l.length ≤ maxLen) : Rd .u8 (w.alloc (.cells C t fz)) (.slice (some ⟨w.heap.size, 0, none⟩) n n) l := by
  subst hC hn
  refine ⟨_, _, rfl, Nat.le_refl _, hl, .inr ⟨w.heap.size, 0, rfl, fun i hi => ?_⟩⟩
  rw [Nat.zero_add, cell_of_row _ _ i _ _ fz (heap_alloc_new w _)]
  simp [List.getD, hi]

end Go.Proofs.Ytgbbpibcmpeneaa
