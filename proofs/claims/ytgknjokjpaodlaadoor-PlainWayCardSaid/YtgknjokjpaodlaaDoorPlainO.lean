/-
  Proved here: how a slice of seen packets reads in memory.
-/
import Derived.Test.YtgknjokjpaodlaaDoorPlainY
import Derived.Test.YtgknjokjpaodlaaDoorShape
import Derived.Deep.MidRow
namespace Go.Proofs.YtgknjokjpaodlaaDoor
open Go.ChangeShapes Go.WideShapes Go.ChangeAt Go.RowKit Go.Cul
set_option linter.unusedVariables false

abbrev seenSh : Sh := (.rows 26 192 (.agg 26 (.more 24 (.agg 24 (.more 8 (.agg 8 (.more 1 (.int .u8) (.more 1 (.int .u16) (.more 1 .bool (.more 1 (.int .u8) (.more 1 (.int .u8) (.more 1 (.int .u32) (.more 1 (.int .u32) (.more 1 (.ints .u8 1) .done))))))))) (.more 9 (.agg 9 (.more 1 (.int .u16) (.more 1 (.int .u16) (.more 1 (.int .u32) (.more 1 (.int .u32) (.more 1 (.int .u8) (.more 1 (.int .u16) (.more 1 (.int .u16) (.more 1 (.rows 2 32 (.agg 2 (.more 1 (.int .u8) (.more 1 (.ints .u8 1) .done)))) (.more 1 (.ints .u8 1) .done)))))))))) (.more 3 (.agg 3 (.more 1 (.int .u16) (.more 1 (.int .u16) (.more 1 (.ints .u8 1) .done)))) (.more 4 (.agg 4 (.more 1 (.int .u8) (.more 1 (.int .u8) (.more 1 (.int .u32) (.more 1 (.ints .u8 1) .done))))) .done))))) (.more 1 .bool (.more 1 (.int .u64) .done)))))

theorem wf_u64 {x : Int} (h : (Lit.int .u64 x).wf = true) : 0 ≤ x ∧ x ≤ 18446744073709551615 := int_wf h

theorem seen_head {w : World} {cs : List Value} (h : Reads w (.agg 8 (.more 1 (.int .u8) (.more 1 (.int .u16) (.more 1 .bool (.more 1 (.int .u8) (.more 1 (.int .u8) (.more 1 (.int .u32) (.more 1 (.int .u32) (.more 1 (.ints .u8 1) .done))))))))) cs) : ∃ (h0 : Int) (h1 : Int) (h2 : Bool) (h3 : Int) (h4 : Int) (h5 : Int) (h6 : Int) (h7 : Value), cs = [.int .u8 h0, .int .u16 h1, .bool h2, .int .u8 h3, .int .u8 h4, .int .u32 h5, .int .u32 h6, h7] ∧ (0 ≤ h4 ∧ h4 ≤ 255) := by
  simp only [Reads] at h
  obtain ⟨_, _, rfl, ⟨h0, rfl, wh0⟩, _, _, rfl, ⟨h1, rfl, wh1⟩, _, _, rfl, ⟨h2, rfl⟩, _, _, rfl, ⟨h3, rfl, wh3⟩, _, _, rfl, ⟨h4, rfl, wh4⟩, _, _, rfl, ⟨h5, rfl, wh5⟩, _, _, rfl, ⟨h6, rfl, wh6⟩, _, _, rfl, ⟨h7, lh7, rfl, rh7, -, -⟩, rfl⟩ := h
  exact ⟨h0, h1, h2, h3, h4, h5, h6, h7, rfl, wf_u8 wh4⟩

theorem seen_seg {w : World} {cs : List Value} (h : Reads w (.agg 9 (.more 1 (.int .u16) (.more 1 (.int .u16) (.more 1 (.int .u32) (.more 1 (.int .u32) (.more 1 (.int .u8) (.more 1 (.int .u16) (.more 1 (.int .u16) (.more 1 (.rows 2 32 (.agg 2 (.more 1 (.int .u8) (.more 1 (.ints .u8 1) .done)))) (.more 1 (.ints .u8 1) .done)))))))))) cs) : ∃ (s0 : Int) (s1 : Int) (s2 : Int) (s3 : Int) (s4 : Int) (s5 : Int) (s6 : Int) (s7 : Value) (s8 : Value), cs = [.int .u16 s0, .int .u16 s1, .int .u32 s2, .int .u32 s3, .int .u8 s4, .int .u16 s5, .int .u16 s6, s7, s8] ∧ (0 ≤ s2 ∧ s2 ≤ 4294967295) ∧ (0 ≤ s3 ∧ s3 ≤ 4294967295) ∧ (0 ≤ s4 ∧ s4 ≤ 255) ∧ (0 ≤ s5 ∧ s5 ≤ 65535) ∧ ∃ a n c, s8 = .slice a n c := by
  simp only [Reads] at h
  obtain ⟨_, _, rfl, ⟨s0, rfl, ws0⟩, _, _, rfl, ⟨s1, rfl, ws1⟩, _, _, rfl, ⟨s2, rfl, ws2⟩, _, _, rfl, ⟨s3, rfl, ws3⟩, _, _, rfl, ⟨s4, rfl, ws4⟩, _, _, rfl, ⟨s5, rfl, ws5⟩, _, _, rfl, ⟨s6, rfl, ws6⟩, _, _, rfl, ⟨s7, as7, ms7, cs7, rfl, -, -⟩, _, _, rfl, ⟨s8, ls8, rfl, rs8, -, -⟩, rfl⟩ := h
  exact ⟨s0, s1, s2, s3, s4, s5, s6, s7, s8, rfl, wf_u32 ws2, wf_u32 ws3, wf_u8 ws4, wf_u16 ws5, rs8.shape⟩

theorem seen_dg {w : World} {cs : List Value} (h : Reads w (.agg 3 (.more 1 (.int .u16) (.more 1 (.int .u16) (.more 1 (.ints .u8 1) .done)))) cs) : ∃ (d0 : Int) (d1 : Int) (d2 : Value), cs = [.int .u16 d0, .int .u16 d1, d2] := by
  simp only [Reads] at h
  obtain ⟨_, _, rfl, ⟨d0, rfl, wd0⟩, _, _, rfl, ⟨d1, rfl, wd1⟩, _, _, rfl, ⟨d2, ld2, rfl, rd2, -, -⟩, rfl⟩ := h
  exact ⟨d0, d1, d2, rfl⟩

theorem seen_ms {w : World} {cs : List Value} (h : Reads w (.agg 4 (.more 1 (.int .u8) (.more 1 (.int .u8) (.more 1 (.int .u32) (.more 1 (.ints .u8 1) .done))))) cs) : ∃ (m0 : Int) (m1 : Int) (m2 : Int) (m3 : Value), cs = [.int .u8 m0, .int .u8 m1, .int .u32 m2, m3] := by
  simp only [Reads] at h
  obtain ⟨_, _, rfl, ⟨m0, rfl, wm0⟩, _, _, rfl, ⟨m1, rfl, wm1⟩, _, _, rfl, ⟨m2, rfl, wm2⟩, _, _, rfl, ⟨m3, lm3, rfl, rm3, -, -⟩, rfl⟩ := h
  exact ⟨m0, m1, m2, m3, rfl⟩

theorem seen_all {w : World} {es : List Value} (h : Reads w (.agg 26 (.more 24 (.agg 24 (.more 8 (.agg 8 (.more 1 (.int .u8) (.more 1 (.int .u16) (.more 1 .bool (.more 1 (.int .u8) (.more 1 (.int .u8) (.more 1 (.int .u32) (.more 1 (.int .u32) (.more 1 (.ints .u8 1) .done))))))))) (.more 9 (.agg 9 (.more 1 (.int .u16) (.more 1 (.int .u16) (.more 1 (.int .u32) (.more 1 (.int .u32) (.more 1 (.int .u8) (.more 1 (.int .u16) (.more 1 (.int .u16) (.more 1 (.rows 2 32 (.agg 2 (.more 1 (.int .u8) (.more 1 (.ints .u8 1) .done)))) (.more 1 (.ints .u8 1) .done)))))))))) (.more 3 (.agg 3 (.more 1 (.int .u16) (.more 1 (.int .u16) (.more 1 (.ints .u8 1) .done)))) (.more 4 (.agg 4 (.more 1 (.int .u8) (.more 1 (.int .u8) (.more 1 (.int .u32) (.more 1 (.ints .u8 1) .done))))) .done))))) (.more 1 .bool (.more 1 (.int .u64) .done)))) es) :
    ∃ (p : Pk) (ins : Bool) (now : Int), es = p.cells.toList ++ [.bool ins, .int .u64 now] ∧ p.ok ∧ (0 ≤ p.proto ∧ p.proto ≤ 255) ∧ (0 ≤ now ∧ now ≤ 18446744073709551615) := by
  obtain ⟨c1, c2, rfl, ⟨e1, e2, rfl, hh, f1, f2, rfl, hs, g1, g2, rfl, hd, k1, k2, rfl, hm, rfl⟩, c3, c4, rfl, ⟨ins, rfl⟩, c5, c6, rfl, ⟨now, rfl, wn⟩, rfl⟩ := h
  obtain ⟨h0, h1, h2, h3, h4, h5, h6, h7, rfl, bh⟩ := seen_head hh
  obtain ⟨s0, s1, s2, s3, s4, s5, s6, s7, s8, rfl, b2, b3, b4, b5, ad, nd, cd, rfl⟩ := seen_seg hs
  obtain ⟨d0, d1, d2, rfl⟩ := seen_dg hd
  obtain ⟨m0, m1, m2, m3, rfl⟩ := seen_ms hm
  exact ⟨⟨.int .u8 h0, .int .u16 h1, .bool h2, .int .u8 h3, h4, .int .u32 h5, .int .u32 h6, h7, .int .u16 s0, .int .u16 s1, s2, s3, s4, s5, .int .u16 s6, s7, ad, nd, cd, .int .u16 d0, .int .u16 d1, d2, .int .u8 m0, .int .u8 m1, .int .u32 m2, m3⟩, ins, now, rfl, ⟨b4, b2, b3, b5⟩, bh, int_wf wn⟩

theorem open_seen {w : World} {v : Value} (h : Reads w seenSh [v]) : ∃ a m cap, v = .slice a m cap ∧ m ≤ cap ∧ cap ≤ maxLen ∧ (m = 0 ∨ ∃ b o, a = some ⟨b, o, none⟩ ∧ ∀ i, i < m → ∃ p ins now, SeenAt w b o i p ins now ∧ p.ok ∧ (0 ≤ p.proto ∧ p.proto ≤ 255) ∧ (0 ≤ now ∧ now ≤ 18446744073709551615)) := by
  obtain ⟨v', a, m, cap, hv, rfl, hmc, hc, hb, hel⟩ := h
  obtain rfl : v = .slice a m cap := by simpa using hv
  refine ⟨a, m, cap, rfl, hmc, hc, ?_⟩
  rcases hel with h0 | ⟨b, o, rfl, hel⟩
  · exact .inl h0
  refine .inr ⟨b, o, rfl, fun i hi => ?_⟩
  obtain ⟨es, hl, hcell, hr⟩ := hel i hi
  obtain ⟨p, ins, now, rfl, hp, hpp, hn⟩ := seen_all hr
  have hlen : p.cells.toList.length = 24 := rfl
  refine ⟨p, ins, now, ⟨fun j x hx => ?_, ?_, ?_⟩, hp, hpp, hn⟩
  · have hj : j < 24 := by rw [← hlen]; exact (List.getElem?_eq_some_iff.1 hx).1
    rw [hcell j (by omega), List.getElem?_append_left (by omega)]
    exact hx
  · rw [hcell 24 (by omega)]; rfl
  · rw [hcell 25 (by omega)]; rfl
end Go.Proofs.YtgknjokjpaodlaaDoor
