/-
  Proved here: what the bound on an input's bulk says of the length of a slice in a field of a struct argument.
-/
import Derived.Test.YtjaffcbadgpolaaBulk
import Derived.Test.YtjaffcbadgpolaaShape
namespace Go.Proofs.Ytjaffcbadgpolaa.bulks
open Go Go.Cul Go.ChangeShapes Go.RowKit Go.ChangeAt
set_option linter.unusedVariables false

theorem field_le {H : Type} {enc : TypeId × Value → H} {P : Program} {w : World} {t : TypeId} {v : Value} {d : DataW H} {p : List MemPlace} {fs : Array Field} (hu : P.underlying t = some (.struct fs)) (h : T0 enc P w t v d p) {N : Nat} (hb : Rows.uptoBulk d ≤ N)
    {i : Nat} {f : Field} (hf : fs[i]? = some f) {e : TypeId} (he : P.underlying f.type = some (.slice e)) {o k : Nat} (ho : f.offset = o) (hk : P.cellsOf f.type = k) {a : Option Addr} {m c : Nat} (hc : (v.cells.toList.drop o).take k = [.slice a m c]) : m ≤ N := by
  subst ho hk
  obtain ⟨fuel, hy⟩ := h
  obtain ⟨xs, n, _, hx, _, hlen, hall⟩ := DataW.trod_struct hu hy
  simp only [Prod.mk.injEq] at hx
  obtain ⟨rfl, _⟩ := hx
  have hi : i < fs.size := (Array.getElem?_eq_some_iff.1 hf).1
  have hix : i < xs.length := by omega
  have hxi := hall i f hf
  rw [List.getElem?_eq_getElem hix, hc] at hxi
  have hpart : Rows.uptoBulk xs[i].1 ≤ Rows.uptoBulkAll (xs.map (·.1)) := part_le (List.mem_map.2 ⟨xs[i], List.getElem_mem hix, rfl⟩)
  have hN : Rows.uptoBulk xs[i].1 ≤ N := by simp only [Rows.uptoBulk] at hb; omega
  rcases Deep.open_slice he hxi with ⟨hcs, _⟩ | ⟨a', len, cap, m', n', D, Pl, hcs, _, hl, hm, hz, hx', hel⟩
  · simp at hcs; omega
  · simp only [List.cons.injEq, Value.slice.injEq, and_true] at hcs
    obtain ⟨-, rfl, -⟩ := hcs
    rw [hx'] at hN
    simp only [Rows.uptoBulk] at hN
    have := length_le (H := H) ((List.range m).map D)
    simp at this
    omega
end Go.Proofs.Ytjaffcbadgpolaa.bulks
