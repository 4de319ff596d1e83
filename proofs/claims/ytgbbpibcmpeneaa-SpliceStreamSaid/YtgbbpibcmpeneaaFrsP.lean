/-
  Proved here: one cell of a row of segments in new memory is stored; a row of one segment that has just been built.
-/
import Derived.Test.YtgbbpibcmpeneaaShV
namespace Go.Proofs.Ytgbbpibcmpeneaa
set_option maxRecDepth 200000
open Go.ChangeShapes Go.WideShapes Go.ChangeAt Go.RowKit Go.Cul Go.Loose
set_option linter.unusedVariables false

theorem rowsS_set : ∀ (xs : List Sv) (i j : Nat) (y : Sv) (v : Value), i < xs.length → j < 9 → (Sv.row (xs.getD i Sv.no)).set j v = Sv.row y → rowsS (xs.set i y) = (rowsS xs).set (i * 9 + j) v
  | [], i, j, y, v, h, _, _ => by simp at h
  | x :: xs, 0, j, y, v, h, hj, hy => by
    have e : ∀ (y : Sv) (ys : List Sv), rowsS (y :: ys) = Sv.row y ++ rowsS ys := fun y ys => rfl
    have h9 : (Sv.row x).length = 9 := rfl
    rw [List.set_cons_zero, e, e, Nat.zero_mul, Nat.zero_add, List.set_append_left _ _ (by omega)]
    rw [← hy]
    simp
  | x :: xs, i + 1, j, y, v, h, hj, hy => by
    have e : ∀ (y : Sv) (ys : List Sv), rowsS (y :: ys) = Sv.row y ++ rowsS ys := fun y ys => rfl
    have h9 : (Sv.row x).length = 9 := rfl
    have ih := rowsS_set xs i j y v (by simpa using h) hj (by simpa [List.getD] using hy)
    rw [List.set_cons_succ, e, e, ih, List.set_append_right _ _ (by omega), h9]
    congr 2
    omega

theorem frb_setS {t : TypeId} (ht : t ≠ 51) {w : World} {g k : Nat} {cur : Array Value} {fz : Nat × Nat} {c : Array Value} {fz' : Nat × Nat} (hs : w.heap[k]? = some (.cells c 51 fz'))
    (hh : w.heap[g]? = some (.cells cur t fz)) (j : Nat) (v : Value) : (w.setCell ⟨k, j, none⟩ v).heap[g]? = some (.cells cur t fz) := by
  refine set_oth hh ?_ j v
  rintro rfl
  rw [hs] at hh
  simp only [Option.some.injEq, Obj.cells.injEq] at hh
  exact ht hh.2.1.symm
theorem fr_setS {w : World} {base k : Nat} {u : Value} {l : List Int} {c : Array Value} {fz : Nat × Nat} (hs : w.heap[k]? = some (.cells c 51 fz)) (j : Nat) (v : Value) (hu : Fr w base 5 .u8 u l) : Fr (w.setCell ⟨k, j, none⟩ v) base 5 .u8 u l := by
  rcases hu with hu | hu
  · left
    refine ⟨hu.1, ?_⟩
    rcases hu.2 with h0 | ⟨g, cap, cur, rfl, hb, hh, r⟩
    · exact .inl h0
    · exact .inr ⟨g, cap, cur, rfl, hb, frb_setS (by decide) hs hh j v, r⟩
  · exact .inr hu
theorem fro_setS {w : World} {base k : Nat} {u : Value} {os : List Op1} {c : Array Value} {fz : Nat × Nat} (hs : w.heap[k]? = some (.cells c 51 fz)) (j : Nat) (v : Value) (hu : FrO w base u os) : FrO (w.setCell ⟨k, j, none⟩ v) base u os := by
  obtain ⟨ys, h1, h2, h3⟩ := hu
  refine ⟨ys, h1, ⟨h2.1, ?_⟩, fun y hy => fr_setS hs j v (h3 y hy)⟩
  rcases h2.2 with h0 | ⟨g, cap, cur, rfl, hb, hh, r⟩
  · exact .inl h0
  · exact .inr ⟨g, cap, cur, rfl, hb, frb_setS (by decide) hs hh j v, r⟩

/-- A cell that is no slice is stored. -/
theorem FrS.stored {w : World} {base g n c : Nat} {L : List Sg} (h : FrS w base (.slice (some ⟨g, 0, none⟩) n c) L) (i : Nat) (hi : i < L.length) (j : Nat) (hj : j < 9) (s : Sg) (v : Value)
    (hs : ∀ vo vd, ((L.getD i Sg.none).cells vo vd).toList.set j v = (s.cells vo vd).toList) (ho : s.os = (L.getD i Sg.none).os) (hd : s.data = (L.getD i Sg.none).data) :
    ∃ cur, w.heap[g]? = some (.cells cur 51) ∧ i * 9 + j < cur.size ∧ base ≤ g ∧ FrS (w.setCell ⟨g, i * 9 + j, none⟩ v) base (.slice (some ⟨g, 0, none⟩) n c) (L.set i s) := by
  obtain ⟨xs, rfl, h2, h3⟩ := h
  rw [List.length_map] at hi
  obtain ⟨hl, h2'⟩ := id h2
  rcases h2' with ⟨h', _⟩ | ⟨g', cap, cur, h', hb, hh, hn, hm, hsz, htk⟩
  · cases h'
  cases h'
  have hx : ((xs.map (·.1)).getD i Sg.none) = (xs.getD i Sv.no).1 := by simp [List.getD, hi]
  rw [hx] at hs ho hd
  have hxi : xs.getD i Sv.no ∈ xs := by simp [List.getD, hi]
  obtain ⟨k1, k2⟩ := World.ownsRow.stored h2 (i * 9 + j) v
  refine ⟨cur, hh, by omega, hb, xs.set i (s, (xs.getD i Sv.no).2.1, (xs.getD i Sv.no).2.2), by rw [List.map_set], ?_, fun x hx => ?_⟩
  · rw [rowsS_set xs i j (s, (xs.getD i Sv.no).2.1, (xs.getD i Sv.no).2.2) v hi hj (hs _ _), List.length_set]
    exact k1
  · rcases List.mem_or_eq_of_mem_set hx with hx | rfl
    · exact ⟨fro_setS hh _ _ (h3 x hx).1, fr_setS hh _ _ (h3 x hx).2⟩
    · have := h3 _ hxi
      dsimp only
      rw [ho, hd]
      exact ⟨fro_setS hh _ _ this.1, fr_setS hh _ _ this.2⟩

theorem frs_one {w : World} {base B : Nat} {g : Sg} (ho : g.os = []) (hd : g.data = []) (hb : base ≤ w.heap.size) (hB : w.heap.size = B) : FrS (w.alloc (.cells (g.cells (.slice none 0 0) (.slice none 0 0)) 51)) base (.slice (some ⟨B, 0, none⟩) 1 1) [g] := by
  subst hB
  refine ⟨[(g, .slice none 0 0, .slice none 0 0)], rfl, ⟨rfl, .inr ⟨w.heap.size, 1, _, rfl, hb, heap_alloc_new w _, Nat.le_refl _, by decide, rfl, rfl⟩⟩, fun x hx => ?_⟩
  obtain rfl : x = _ := by simpa using hx
  dsimp only
  rw [ho, hd]
  exact ⟨FrO.nil _ _, .inr ⟨none, rfl, rfl⟩⟩
end Go.Proofs.Ytgbbpibcmpeneaa
