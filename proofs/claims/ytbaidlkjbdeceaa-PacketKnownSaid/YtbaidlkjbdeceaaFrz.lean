/-
  Proved here, over any program: the conversion of a literal's row to its own type ('[]byte("abc")'), in any world: it marks the row; every cell reads as it did.
-/
import Derived.Test.YtbaidlkjbdeceaaCore
import Derived.Test.YtbaidlkjbdeceaaRegion
import Derived.Lib.SlBytesConst
namespace Go.Cul
open Go Go.RowKit Go.Loose
set_option linter.unusedVariables false
variable {P : Program}

/-- As it was, but for the marks of rows of type e that are not older than block N. -/
structure Mkd (e : TypeId) (N : Nat) (w w' : World) : Prop where
  below : Below N w w'
  blk : ∀ (k : Nat) (C : Array Value) (t : TypeId) (f : Nat × Nat), w.heap[k]? = some (.cells C t f) → ∃ f', w'.heap[k]? = some (.cells C t f') ∧ (t ≠ e → f' = f)

theorem Mkd.cell {e : TypeId} {N : Nat} {w w' : World} (h : Mkd e N w w') {a : Addr} {v : Value} (hc : w.cell? a = some v) : w'.cell? a = some v := by
  unfold World.cell? at hc ⊢
  cases hb : w.heap[a.block]? with
  | none => rw [hb] at hc; cases hc
  | some o =>
    rw [hb] at hc
    cases o with
    | cells C t f =>
      obtain ⟨f', h1, -⟩ := h.blk _ C t f hb
      rw [h1]
      exact hc
    | _ => cases hc
theorem Rd.mkd {k : IntKind} {e : TypeId} {N : Nat} {w w' : World} {v : Value} {l : List Int} (h : Rd k w v l) (hx : Mkd e N w w') : Rd k w' v l := by
  obtain ⟨a, cap, rfl, h1, h2, h3⟩ := h
  refine ⟨a, cap, rfl, h1, h2, ?_⟩
  rcases h3 with h3 | ⟨b, o, rfl, h3⟩
  · exact .inl h3
  · exact .inr ⟨b, o, rfl, fun i hi => hx.cell (h3 i hi)⟩

theorem freeze_mkd {e : TypeId} {N : Nat} {w : World} {b : Nat} {C : Array Value} {f : Nat × Nat} (hb : w.heap[b]? = some (.cells C e f)) (hN : N ≤ b) (k : Nat) : Mkd e N w (w.freeze ⟨b, k, none⟩ 1) := by
  have hz : (w.freeze ⟨b, k, none⟩ 1).heap.size = w.heap.size := by unfold World.freeze; rw [if_neg (by decide)]; simp
  have ho : ∀ j, j ≠ b → (w.freeze ⟨b, k, none⟩ 1).heap[j]? = w.heap[j]? := fun j hj => by
    unfold World.freeze
    rw [if_neg (by decide)]
    show (w.heap.modify b _)[j]? = _
    rw [Array.getElem?_modify, if_neg (Ne.symm hj)]
  refine ⟨⟨rfl, rfl, rfl, ?_, fun j hj => ho j (by omega)⟩, fun j D t g hj => ?_⟩
  · rw [hz]; exact Nat.le_refl _
  · by_cases hjb : j = b
    · subst hjb
      rw [hb] at hj
      cases hj
      unfold World.freeze
      rw [if_neg (by decide)]
      refine ⟨if f.1 == f.2 then (k, k + 1) else (min f.1 k, max f.2 (k + 1)), ?_, fun h => absurd rfl h⟩
      show (w.heap.modify j _)[j]? = _
      rw [Array.getElem?_modify, if_pos rfl, hb]
      rfl
    · exact ⟨g, by rw [ho j hjb]; exact hj, fun _ => rfl⟩

theorem run_convert_lit (w : World) (t e : TypeId) (b : Nat) (C : Array Value) (f : Nat × Nat) (n c : Nat) (hb : w.heap[b]? = some (.cells C e f)) (ht : P.underlying t = some (.slice e)) (he : P.underlying e = some (.int .u8)) :
    (convert t t (.slice (some ⟨b, 0, none⟩) n c)).run P w = .ok (.slice (some ⟨b, 0, none⟩) n c) (w.freeze ⟨b, C.size, none⟩ 1) := by
  have hsh : w.shape? b = some (e, C.size) := by unfold World.shape?; rw [hb]
  simp [convert, run_underlying ht, run_underlying he, markStringish, hsh]

/-- Operation i marks rows of type e; all others let the world grow. -/
theorem tk_cases {e : TypeId} {N i j : Nat} {w w' : World} (h : LooseT.tk [(i, Mkd e N)] j w w') : Ext w w' ∨ Mkd e N w w' := by
  unfold LooseT.tk at h
  split at h
  · exact .inr h
  · exact .inl h
theorem tk_hX {e : TypeId} {w : World} {i : Nat} : ∀ k b c, w.heap.size ≤ b.heap.size → LooseT.tk [(i, Mkd e w.heap.size)] k b c → RowKit.Below w.heap.size b c := fun k b c hb h => by
  rcases tk_cases h with h | h
  · exact h.mono hb
  · exact h.below
theorem lastsK_cons {e : TypeId} {N i : Nat} {m : Nat} {s : Value → World → Prop} {L : List (Nat × (Value → World → Prop))} (h1 : ∀ v w w', Ext w w' → s v w → s v w') (h2 : ∀ v w w', Mkd e N w w' → s v w → s v w') (hL : LooseT.Lasts (LooseT.tk [(m, Mkd e N)]) (lk L)) :
    LooseT.Lasts (LooseT.tk [(m, Mkd e N)]) (lk ((i, s) :: L)) :=
  LooseT.lastsT_cons (fun j v w w' _ h hs => (tk_cases h).elim (fun h => h1 v w w' h hs) (fun h => h2 v w w' h hs)) hL
end Go.Cul
