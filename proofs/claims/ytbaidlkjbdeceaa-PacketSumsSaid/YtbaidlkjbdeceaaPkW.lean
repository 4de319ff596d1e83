/-
  Proved here: a packet among the arguments is opened; culvertlaw09's few of it. No condition.
-/
import Derived.Test.YtbaidlkjbdeceaaPkA
import Derived.Test.YtbaidlkjbdeceaaFew
import Derived.Test.YtbaidlkjbdeceaaTcpW
import Derived.Test.YtbaidlkjbdeceaaShape
namespace Go.Proofs.Ytbaidlkjbdeceaa
set_option maxRecDepth 200000
open Go.ChangeShapes Go.WideShapes Go.ChangeAt Go.RowKit Go.Cul Go.Loose
set_option linter.unusedVariables false

abbrev hdSh : Sh := .agg 8 (.more 1 (.int .u8) (.more 1 (.int .u16) (.more 1 .bool (.more 1 (.int .u8) (.more 1 (.int .u8) (.more 1 (.int .u32) (.more 1 (.int .u32) (.more 1 (.ints .u8 1) .done))))))))
abbrev dgSh : Sh := .agg 3 (.more 1 (.int .u16) (.more 1 (.int .u16) (.more 1 (.ints .u8 1) .done)))
abbrev msSh : Sh := .agg 4 (.more 1 (.int .u8) (.more 1 (.int .u8) (.more 1 (.int .u32) (.more 1 (.ints .u8 1) .done))))
abbrev pkSh : Sh := .agg 24 (.more 8 hdSh (.more 9 segSh (.more 3 dgSh (.more 4 msSh .done))))
theorem open_hd9 {w : World} {cs : List Value} (h : Reads w hdSh cs) : ∃ (g : Hd) (v : Value), cs = (g.cells v).toList ∧ g.ok ∧ Byt g.op ∧ Rd .u8 w v g.op := by
  simp only [Reads] at h
  obtain ⟨_, _, e0, ⟨s0, rfl, w0⟩, _, _, rfl, ⟨s1, rfl, w1⟩, _, _, rfl, ⟨s2, rfl⟩, _, _, rfl, ⟨s3, rfl, w3⟩, _, _, rfl, ⟨s4, rfl, w4⟩, _, _, rfl, ⟨s5, rfl, w5⟩, _, _, rfl, ⟨s6, rfl, w6⟩, _, _, rfl, ⟨v, l, rfl, hr, hb, -⟩, rfl⟩ := h
  exact ⟨⟨s0, s1, s2, s3, s4, s5, s6, l⟩, v, by simpa using e0, ⟨wf_u8 w0, wf_u16 w1, wf_u8 w3, wf_u8 w4, wf_u32 w5, wf_u32 w6, byt_of_wf hb⟩, byt_of_wf hb, hr⟩
theorem open_dg9 {w : World} {cs : List Value} (h : Reads w dgSh cs) : ∃ (g : Dg) (v : Value), cs = (g.cells v).toList ∧ g.ok ∧ Rd .u8 w v g.data := by
  simp only [Reads] at h
  obtain ⟨_, _, e0, ⟨s0, rfl, w0⟩, _, _, rfl, ⟨s1, rfl, w1⟩, _, _, rfl, ⟨v, l, rfl, hr, hb, -⟩, rfl⟩ := h
  exact ⟨⟨s0, s1, l⟩, v, by simpa using e0, ⟨wf_u16 w0, wf_u16 w1, byt_of_wf hb⟩, hr⟩
theorem open_ms9 {w : World} {cs : List Value} (h : Reads w msSh cs) : ∃ (g : Ms) (v : Value), cs = (g.cells v).toList ∧ g.ok ∧ Rd .u8 w v g.data := by
  simp only [Reads] at h
  obtain ⟨_, _, e0, ⟨s0, rfl, w0⟩, _, _, rfl, ⟨s1, rfl, w1⟩, _, _, rfl, ⟨s2, rfl, w2⟩, _, _, rfl, ⟨v, l, rfl, hr, hb, -⟩, rfl⟩ := h
  exact ⟨⟨s0, s1, s2, l⟩, v, by simpa using e0, ⟨wf_u8 w0, wf_u8 w1, wf_u32 w2, byt_of_wf hb⟩, hr⟩
theorem open_pk9 {w : World} {cs : Array Value} (h : Reads w pkSh cs.toList) : ∃ (p : Pk) (vh vo vg vd vm : Value), cs = p.cells vh vo vg vd vm ∧ p.ok ∧ PkR w p vh vo vg vd vm := by
  obtain ⟨c1, c2, h1, hh, d1, d2, rfl, hs, e1, e2, rfl, hd, f1, f2, rfl, hm, rfl⟩ := h
  obtain ⟨hd', vh, rfl, ok1, bo, r1⟩ := open_hd9 hh
  obtain ⟨g, vo, vg, hg, ok2, r2, r3, -⟩ := open_segment (cs := d1.toArray) (by simpa using hs)
  obtain rfl : d1 = (g.cells vo vg).toList := by rw [← hg]
  obtain ⟨d, vd, rfl, ok3, r4⟩ := open_dg9 hd
  obtain ⟨m, vm, rfl, ok4, r5⟩ := open_ms9 hm
  exact ⟨⟨hd', g, d, m⟩, vh, vo, vg, vd, vm, by rw [← Array.toList_inj]; simpa using h1, ⟨ok1, bo, ok2, ok3, ok4⟩, ⟨r1, r2, r3, r4, r5⟩⟩
theorem fxP_len (p : Pk) : (fxP p).len := by
  have h : ∀ l : List Int, (l.take 1600).length ≤ 140737488351232 := fun l => by rw [List.length_take]; omega
  exact ⟨h _, h _, h _, h _⟩
/-- A packet whose parts read as they did at w0; its options lie in new memory. -/
structure FxR (w0 w : World) (base : Nat) (p : Pk) (vh vo vg vd vm : Value) : Prop where
  h : Rd .u8 w0 vh p.h.op
  o : RoX w0 w base vo p.g.os
  g : Rd .u8 w0 vg p.g.data
  d : Rd .u8 w0 vd p.d.data
  m : Rd .u8 w0 vm p.m.data
theorem FxR.keep {w0 w w' : World} {base : Nat} {p : Pk} {vh vo vg vd vm : Value} (h : FxR w0 w base p vh vo vg vd vm) (hk : Keep base w w') : FxR w0 w' base p vh vo vg vd vm := ⟨h.h, h.o.keep hk, h.g, h.d, h.m⟩
theorem FxR.ext {w0 w w' : World} {base : Nat} {p : Pk} {vh vo vg vd vm : Value} (h : FxR w0 w base p vh vo vg vd vm) (hx : Ext w w') : FxR w0 w' base p vh vo vg vd vm := h.keep (Keep.ofExt hx)
theorem FxR.pk {w0 w : World} {base : Nat} {p : Pk} {vh vo vg vd vm : Value} (h : FxR w0 w base p vh vo vg vd vm) (hb : w0.heap.size ≤ base) (hx : Ext w0 w) : PkR w p vh vo vg vd vm := ⟨h.h.ext hx, (h.o.mio hb hx).rdo, h.g.ext hx, h.d.ext hx, h.m.ext hx⟩
/-- few of a packet. -/
theorem few9_of (p : Pk) (vh vo vg vd vm : Value) (w0 w : World) (hx0 : Ext w0 w) (r : PkR w0 p vh vo vg vd vm) :
    Calls Try.prog 6 #[.agg (p.cells vh vo vg vd vm)] w fun e w' => ∃ a1 n1 c1 a2 n2 c2 a3 n3 c3 a4 n4 c4 a5 n5 c5, e = .returned (.agg ((fxP p).cells (.slice a1 n1 c1) (.slice a2 n2 c2) (.slice a3 n3 c3) (.slice a4 n4 c4) (.slice a5 n5 c5))) ∧ FxR w0 w' w.heap.size (fxP p) (.slice a1 n1 c1) (.slice a2 n2 c2) (.slice a3 n3 c3) (.slice a4 n4 c4) (.slice a5 n5 c5) ∧ Ext w w' := by
  refine (few9_any p vh vo vg vd vm w0 w hx0 r).mono ?_
  rintro e w' ⟨uh, uo, ug, ud, um, rfl, h1, h2, h3, h4, h5, hx⟩
  obtain ⟨a2, c2, rfl, -, -⟩ := h1.shape
  obtain ⟨a1, n1, c1, rfl⟩ := h2.shape
  obtain ⟨a3, n3, c3, rfl⟩ := h3.shape
  obtain ⟨a4, n4, c4, rfl⟩ := h4.shape
  obtain ⟨a5, n5, c5, rfl⟩ := h5.shape
  exact ⟨_, _, _, _, _, _, _, _, _, _, _, _, _, _, _, rfl, ⟨h2, h1, h3, h4, h5⟩, hx⟩
end Go.Proofs.Ytbaidlkjbdeceaa
