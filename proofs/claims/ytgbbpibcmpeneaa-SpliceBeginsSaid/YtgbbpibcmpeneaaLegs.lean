/-
  Proved here: two legs among the arguments are opened; what Updates and Rsts tell of a new splice, in plain terms.
-/
import Derived.Test.YtgbbpibcmpeneaaSpw
import Derived.Test.YtgbbpibcmpeneaaShape
namespace Go.Proofs.Ytgbbpibcmpeneaa
set_option maxRecDepth 200000
open Go.ChangeShapes Go.WideShapes Go.ChangeAt Go.RowKit Go.Cul Go.Loose
set_option linter.unusedVariables false

abbrev faSh : Sh := .agg 6 (.more 1 (.int .u32) (.more 1 (.int .u32) (.more 1 (.int .u16) (.more 1 (.int .i64) (.more 1 .bool (.more 1 (.int .u32) .done))))))
abbrev suSh : Sh := .agg 9 (.more 1 (.int .u16) (.more 1 (.int .u16) (.more 1 (.int .u32) (.more 1 (.int .u16) (.more 1 (.int .i64) (.more 1 .bool (.more 1 (.int .i64) (.more 1 (.int .u64) (.more 1 (.int .i64) .done)))))))))
abbrev legSh : Sh := .agg 31 (.more 6 faSh (.more 6 faSh (.more 9 suSh (.more 9 suSh (.more 1 (.int .i64) .done)))))
theorem open_fa {w : World} {cs : List Value} (h : Reads w faSh cs) : ∃ a : Fa, cs = a.cells.toList ∧ a.ok := by
  simp only [Reads] at h
  obtain ⟨_, _, rfl, ⟨s0, rfl, ws0⟩, _, _, rfl, ⟨s1, rfl, ws1⟩, _, _, rfl, ⟨s2, rfl, ws2⟩, _, _, rfl, ⟨s3, rfl, ws3⟩, _, _, rfl, ⟨s4, rfl⟩, _, _, rfl, ⟨s5, rfl, ws5⟩, rfl⟩ := h
  exact ⟨⟨s0, s1, s2, s3, s4, s5⟩, rfl, ⟨wf_u32 ws0, wf_u32 ws1, wf_u16 ws2, wf_i64 ws3, wf_u32 ws5⟩⟩
theorem open_su {w : World} {cs : List Value} (h : Reads w suSh cs) : ∃ a : Su, cs = a.cells.toList ∧ a.ok := by
  simp only [Reads] at h
  obtain ⟨_, _, rfl, ⟨s0, rfl, ws0⟩, _, _, rfl, ⟨s1, rfl, ws1⟩, _, _, rfl, ⟨s2, rfl, ws2⟩, _, _, rfl, ⟨s3, rfl, ws3⟩, _, _, rfl, ⟨s4, rfl, ws4⟩, _, _, rfl, ⟨s5, rfl⟩, _, _, rfl, ⟨s6, rfl, ws6⟩, _, _, rfl, ⟨s7, rfl, ws7⟩, _, _, rfl, ⟨s8, rfl, ws8⟩, rfl⟩ := h
  exact ⟨⟨s0, s1, s2, s3, s4, s5, s6, s7, s8⟩, rfl, ⟨wf_u16 ws0, wf_u16 ws1, wf_i64 ws4⟩⟩
theorem open_legs {w : World} {cs : Array Value} (h : Reads w legSh cs.toList) : ∃ l : Lg, cs = l.cells ∧ l.ok := by
  obtain ⟨c1, c2, h1, hc, d1, d2, rfl, hs, e1, e2, rfl, hcs, f1, f2, rfl, hss, g1, g2, rfl, ⟨n, rfl, wn⟩, rfl⟩ := h
  obtain ⟨c, rfl, oc⟩ := open_fa hc
  obtain ⟨s, rfl, os⟩ := open_fa hs
  obtain ⟨cs', rfl, ocs⟩ := open_su hcs
  obtain ⟨ss, rfl, oss⟩ := open_su hss
  exact ⟨⟨c, s, cs', ss, n⟩, by rw [← Array.toList_inj]; simpa using h1, ⟨oc, os, ocs, oss, wf_i64 wn⟩⟩

/-- A leg's window as it is told to its end: the other leg's, by this leg's scale. -/
def lgW (a o : Fa) (sc : Int) : Int := if 65535 < o.win / 2 ^ (if a.sc = -1 then 0 else sc).toNat then 65535 else o.win / 2 ^ (if a.sc = -1 then 0 else sc).toNat
theorem upd_c {l : Lg} (h : l.ok) : updG l.sp false = ⟨l.cs.lo, l.cs.re, (l.c.iss + 1) % 4294967296, (l.c.irs + 1 + l.n) % 4294967296, 16, lgW l.c l.s l.cs.sc, 0, [], []⟩ := by
  have h1 : updG l.sp false = ⟨l.cs.lo, l.cs.re, ((l.s.irs + 1) % 4294967296 + (l.c.iss - l.s.irs) % 4294967296) % 4294967296, ((l.s.iss + 1 + l.n) % 4294967296 - (l.s.iss - l.c.irs) % 4294967296) % 4294967296, 16, lgW l.c l.s l.cs.sc, 0, [], []⟩ := rfl
  rw [h1]
  have e1 : ((l.s.irs + 1) % 4294967296 + (l.c.iss - l.s.irs) % 4294967296) % 4294967296 = (l.c.iss + 1) % 4294967296 := by omega
  have e2 : ((l.s.iss + 1 + l.n) % 4294967296 - (l.s.iss - l.c.irs) % 4294967296) % 4294967296 = (l.c.irs + 1 + l.n) % 4294967296 := by omega
  rw [e1, e2]
theorem upd_s {l : Lg} (h : l.ok) : updG l.sp true = ⟨l.ss.lo, l.ss.re, (l.s.iss + 1 + l.n) % 4294967296, (l.s.irs + 1) % 4294967296, 16, lgW l.s l.c l.ss.sc, 0, [], []⟩ := by
  have h1 : updG l.sp true = ⟨l.ss.lo, l.ss.re, ((l.c.irs + 1 + l.n) % 4294967296 + (l.s.iss - l.c.irs) % 4294967296) % 4294967296, ((l.c.iss + 1) % 4294967296 - (l.c.iss - l.s.irs) % 4294967296) % 4294967296, 16, lgW l.s l.c l.ss.sc, 0, [], []⟩ := rfl
  rw [h1]
  have e1 : ((l.c.irs + 1 + l.n) % 4294967296 + (l.s.iss - l.c.irs) % 4294967296) % 4294967296 = (l.s.iss + 1 + l.n) % 4294967296 := by omega
  have e2 : ((l.c.iss + 1) % 4294967296 - (l.c.iss - l.s.irs) % 4294967296) % 4294967296 = (l.s.irs + 1) % 4294967296 := by omega
  rw [e1, e2]
theorem rst_c {l : Lg} (h : l.ok) : rstG l.sp false = ⟨l.cs.lo, l.cs.re, (l.c.iss + 1) % 4294967296, (l.c.irs + 1 + l.n) % 4294967296, 20, 0, 0, [], []⟩ := by
  have h1 : rstG l.sp false = ⟨l.cs.lo, l.cs.re, (l.c.iss + 1) % 4294967296, ((l.s.iss + 1 + l.n) % 4294967296 - (l.s.iss - l.c.irs) % 4294967296) % 4294967296, 20, 0, 0, [], []⟩ := rfl
  rw [h1]
  have e2 : ((l.s.iss + 1 + l.n) % 4294967296 - (l.s.iss - l.c.irs) % 4294967296) % 4294967296 = (l.c.irs + 1 + l.n) % 4294967296 := by omega
  rw [e2]
theorem rst_s {l : Lg} (h : l.ok) : rstG l.sp true = ⟨l.ss.lo, l.ss.re, (l.s.iss + 1 + l.n) % 4294967296, (l.s.irs + 1) % 4294967296, 20, 0, 0, [], []⟩ := by
  have h1 : rstG l.sp true = ⟨l.ss.lo, l.ss.re, (l.s.iss + 1 + l.n) % 4294967296, ((l.c.iss + 1) % 4294967296 - (l.c.iss - l.s.irs) % 4294967296) % 4294967296, 20, 0, 0, [], []⟩ := rfl
  rw [h1]
  have e2 : ((l.c.iss + 1) % 4294967296 - (l.c.iss - l.s.irs) % 4294967296) % 4294967296 = (l.s.irs + 1) % 4294967296 := by omega
  rw [e2]
theorem state_new {l : Lg} : l.sp.state = 0 := by
  have h : l.sp.clo false = false := rfl
  unfold Sp.state
  rw [h]
  rfl
/-- The window that is told, doubled by the scale, is not more than the other leg's; it is that, where it can be said. -/
theorem lgW_le {a o : Fa} {sc : Int} (ho : o.ok) : lgW a o sc * 2 ^ (if a.sc = -1 then 0 else sc).toNat ≤ o.win ∧ 0 ≤ lgW a o sc ∧ lgW a o sc ≤ 65535 := by
  unfold lgW
  generalize (if a.sc = -1 then 0 else sc).toNat = t
  have ht : (0 : Int) < 2 ^ t := Int.pow_pos (by decide)
  have h1 : o.win / 2 ^ t * 2 ^ t ≤ o.win := Int.ediv_mul_le _ (by omega)
  have h0 : 0 ≤ o.win / 2 ^ t := Int.ediv_nonneg ho.win.1 (by omega)
  split
  · exact ⟨Int.le_trans (Int.mul_le_mul_of_nonneg_right (by omega) (by omega)) h1, by omega, by omega⟩
  · exact ⟨h1, by omega, by omega⟩
theorem lgW_one {a o : Fa} {sc : Int} (ho : o.ok) (h : a.sc = -1) : 65535 < o.win ∨ lgW a o sc = o.win := by
  unfold lgW
  rw [if_pos h]
  simp only [Int.toNat_zero, Int.pow_zero, Int.ediv_one]
  split
  · exact .inl (by assumption)
  · exact .inr rfl
/-- The scales of legs that can be joined. -/
theorem err_sc {l : Lg} (h : l.ok) (he : l.err = false) : (l.c.sc = -1 ∨ (0 ≤ l.c.sc ∧ 0 ≤ l.cs.sc ∧ l.cs.sc ≤ 14)) ∧ (l.s.sc = -1 ∨ (0 ≤ l.s.sc ∧ 0 ≤ l.ss.sc ∧ l.ss.sc ≤ 14)) ∧ (0 ≤ l.n ∧ l.n ≤ 16384) := by
  have h1 : nwE l.c l.s l.cs l.ss l.n = false := he
  unfold nwE at h1
  simp only [Bool.or_eq_false_iff, Bool.not_eq_false', decide_eq_false_iff_not] at h1
  obtain ⟨⟨⟨h2, h3⟩, h4⟩, h5⟩ := h1
  unfold Shf.may nwSh at h4 h5
  simp only [Bool.and_eq_true, decide_eq_true_eq] at h4 h5
  obtain ⟨⟨⟨⟨a1, a2⟩, a3, a4⟩, -⟩, -⟩ := h4
  obtain ⟨⟨⟨⟨b1, b2⟩, b3, b4⟩, -⟩, -⟩ := h5
  refine ⟨?_, ?_, by omega⟩
  · by_cases hc : l.c.sc = -1
    · exact .inl hc
    · rw [if_neg hc] at a1 b3 b4
      exact .inr ⟨a1, b3, b4⟩
  · by_cases hc : l.s.sc = -1
    · exact .inl hc
    · rw [if_neg hc] at b1 a3 a4
      exact .inr ⟨b1, a3, a4⟩
end Go.Proofs.Ytgbbpibcmpeneaa
