/-
  Proved here: what tcp.Put tells at given numbers; that chapter 6 is awake; how a segment that is handed in reads.
-/
import Derived.Test.YtbaidlkjbdeceaaGreatTcp
import Derived.Test.YtbaidlkjbdeceaaGreatShape
namespace Go.Proofs.YtbaidlkjbdeceaaGreat
set_option maxRecDepth 200000
open Go.ChangeShapes Go.WideShapes Go.ChangeAt Go.RowKit Go.Cul Go.Loose
set_option linter.unusedVariables false
attribute [local go_sem] Loose.Still Loose.Upon Loose.vUpon

abbrev segSh : Sh := .agg 9 (.more 1 (.int .u16) (.more 1 (.int .u16) (.more 1 (.int .u32) (.more 1 (.int .u32) (.more 1 (.int .u8) (.more 1 (.int .u16) (.more 1 (.int .u16) (.more 1 (.rows 2 32 (.agg 2 (.more 1 (.int .u8) (.more 1 (.ints .u8 1) .done)))) (.more 1 (.ints .u8 1) .done)))))))))

theorem open_segment {w : World} {cs : Array Value} (h : Reads w segSh cs.toList) : ∃ (g : Sg) (vo vd : Value), cs = g.cells vo vd ∧ g.ok ∧ RdO w vo g.os ∧ Rd .u8 w vd g.data ∧ g.data.length ≤ 140737488351232 ∧ ∀ o ∈ g.os, o.2.length ≤ 140737488351232 := by
  simp only [Reads] at h
  obtain ⟨_, _, e0, ⟨s0, rfl, ws0⟩, _, _, rfl, ⟨s1, rfl, ws1⟩, _, _, rfl, ⟨s2, rfl, ws2⟩, _, _, rfl, ⟨s3, rfl, ws3⟩, _, _, rfl, ⟨s4, rfl, ws4⟩, _, _, rfl, ⟨s5, rfl, ws5⟩, _, _, rfl, ⟨s6, rfl, ws6⟩, _, _, rfl, h7, _, _, rfl, ⟨v, l, rfl, hr, hb, hn⟩, rfl⟩ := h
  obtain ⟨vo, a, m, cap, rfl, h7'⟩ := id h7
  obtain ⟨os, ho, hbo, hlo, hdo⟩ := rdo_of_rows (v := vo) (by simp only [Reads]; exact h7)
  refine ⟨⟨s0, s1, s2, s3, s4, s5, s6, os, l⟩, vo, v, by rw [← Array.toList_inj]; simpa using e0, ⟨wf_u16 ws0, wf_u16 ws1, wf_u32 ws2, wf_u32 ws3, wf_u8 ws4, wf_u16 ws5, wf_u16 ws6, hbo, byt_of_wf hb⟩, ho, hr, by show l.length ≤ _; omega, hdo⟩

theorem field_bd {g : Sg} (hg : g.ok) {s d : Int} (hs : 0 ≤ s ∧ s ≤ 4294967295) (hd : 0 ≤ d ∧ d ≤ 4294967295) {O : List Int} (hO : Byt O) (hl : O.length ≤ 40) : 0 ≤ g.field s d O ∧ g.field s d O ≤ 65535 := by
  have h := csum_bd ((pseu_byt (20 + (O.length : Int) + (g.data.length : Int)) hs hd (p := 6) (by omega)).app (lay_byt hg hO hl (f := 0) (by omega)))
  unfold Sg.field
  omega
theorem oput_split (os : List Op1) : ∃ O E, oput os = (O, E) ∧ O.length ≤ 40 ∧ O.length % 4 = 0 := ⟨_, _, rfl, oput_len os⟩
/-- What Put tells of a segment: an error and nothing, or its bytes. -/
theorem tput_cases {s d : Int} {g : Sg} (hg : g.ok) (hs : 0 ≤ s ∧ s ≤ 4294967295) (hd : 0 ≤ d ∧ d ≤ 4294967295) : (∃ E, E ≠ 0 ∧ tput s d g = ([], E) ∧ ∀ s' d' (g' : Sg), g'.os = g.os → g'.data = g.data → tput s' d' g' = ([], E)) ∨
    (∃ O, oput g.os = (O, 0) ∧ Byt O ∧ O.length ≤ 40 ∧ O.length % 4 = 0 ∧ 20 + O.length + g.data.length ≤ 1480 ∧ tput s d g = (g.lay O (g.field s d O), 0) ∧ (0 ≤ g.field s d O ∧ g.field s d O ≤ 65535) ∧
      ∀ s' d' (g' : Sg), g'.os = g.os → g'.data = g.data → tput s' d' g' = (g'.lay O (g'.field s' d' O), 0)) := by
  obtain ⟨O, E, ho, h4, h5⟩ := oput_split g.os
  have hb : Byt O := by have := oput_byt hg.os; rw [ho] at this; exact this
  by_cases he : E = 0
  · subst he
    by_cases hl : 1480 < 20 + O.length + g.data.length
    · left
      refine ⟨3, by decide, tput_long ho hl, fun s' d' g' h1 h2 => tput_long (h1 ▸ ho) (by rw [h2]; exact hl)⟩
    · right
      refine ⟨O, ho, hb, h4, h5, by omega, tput_fit ho hl, field_bd hg hs hd hb h4, fun s' d' g' h1 h2 => tput_fit (h1 ▸ ho) (by rw [h2]; exact hl)⟩
  · left
    exact ⟨E, he, tput_err ho he, fun s' d' g' h1 h2 => tput_err (h1 ▸ ho) he⟩

theorem by2_inj {x y : Int} (hx : 0 ≤ x ∧ x ≤ 65535) (hy : 0 ≤ y ∧ y ≤ 65535) : decide (by2 x = by2 y) = (x == y) := by
  rw [Bool.eq_iff_iff, decide_eq_true_iff, beq_iff_eq]
  simp only [by2, List.cons.injEq, and_true]
  constructor
  · rintro ⟨h1, h2⟩; omega
  · rintro rfl; exact ⟨rfl, rfl⟩
theorem by4_inj {x y : Int} (hx : 0 ≤ x ∧ x ≤ 4294967295) (hy : 0 ≤ y ∧ y ≤ 4294967295) : decide (by4 x = by4 y) = (x == y) := by
  rw [Bool.eq_iff_iff, decide_eq_true_iff, beq_iff_eq]
  simp only [by4, List.cons.injEq, and_true]
  constructor
  · rintro ⟨h1, h2, h3, h4⟩; omega
  · rintro rfl; exact ⟨rfl, rfl, rfl, rfl⟩
theorem one_inj {x y : Int} : decide ([x] = [y]) = (x == y) := by
  rw [Bool.eq_iff_iff, decide_eq_true_iff, beq_iff_eq]
  simp

theorem tput_lit (L : List Int) (n : Int) (s d : Int) (g : Sg) (vo vd : Value) (w : World) (hvo : RdO w vo g.os) (hvd : Rd .u8 w vd g.data) (hg : g.ok) (hr : (0 ≤ s ∧ s ≤ 4294967295) ∧ (0 ≤ d ∧ d ≤ 4294967295)) (hl : g.data.length ≤ 2000) (he : tput s d g = (L, n)) :
    Calls Tryz.prog 33 #[.int .u32 s, .int .u32 d, .agg (g.cells vo vd)] w fun e w' => ∃ u, e = .returned (.tuple #[u, .int .i64 n]) ∧ Own w' w.heap.size 5 .u8 u L ∧ Ext w w' := by
  have h := tput_any s d g vo vd w hg hvo hvd hr.1 hr.2 (by omega)
  rw [he] at h
  exact h

/-- A slice of one option. -/
theorem rdo_one {w : World} {b : Nat} {k : Int} {u : Value} {l : List Int} {t : TypeId} (hb : w.heap[b]? = some (.cells #[.int .u8 k, u] t)) (hu : Rd .u8 w u l) : RdO w (.slice (some ⟨b, 0, none⟩) 1 1) [(k, l)] := by
  refine ⟨_, 1, rfl, Nat.le_refl _, by decide, .inr ⟨b, 0, rfl, fun i hi => ?_⟩⟩
  obtain rfl : i = 0 := by simpa using hi
  exact ⟨u, by rw [cell_blk hb]; rfl, by rw [cell_blk hb]; rfl, hu⟩

end Go.Proofs.YtbaidlkjbdeceaaGreat
