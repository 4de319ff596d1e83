/-
  Proved here: two legs among the arguments are opened; what Updates and Rsts tell of a new splice, in plain terms.
  Proved here: what a new splice does with an RST, in plain terms: the plain law of SpliceResets. No walk.
  Proved here: a splice with its ends the other way round, in plain terms: the plain law of SpliceMirror; what is told is within its kinds; what may be is short. No walk.
  Proved here: FromClient or FromServer, whichever an end's is, called over a function value.
-/
import Derived.Test.YtgbbpibcmpeneaaSpw
import Derived.Test.YtgbbpibcmpeneaaShape
namespace Go.Proofs.Ytgbbpibcmpeneaa
set_option maxRecDepth 200000
open Go.ChangeShapes Go.WideShapes Go.ChangeAt Go.RowKit Go.Cul Go.Loose
set_option linter.unusedVariables false

abbrev faSh : Sh := .agg 6 (.more 1 (.int .u32) (.more 1 (.int .u32) (.more 1 (.int .u16) (.more 1 (.int .i64) (.more 1 .bool (.more 1 (.int .u32) .done))))))
abbrev suSh : Sh := .agg 9 (.more 1 (.int .u16) (.more 1 (.int .u16) (.more 1 (.int .u32) (.more 1 (.int .u16) (.more 1 (.int .i64) (.more 1 .bool (.more 1 (.int .i64) (.more 1 (.int .u64) (.more 1 (.int .i64) .done)))))))))
abbrev legSh : Sh := .agg 31 (.more 6 faSh (.more 6 faSh (.more 9 suSh (.more 9 suSh (.more 1 (.int .i64) .done)))))
theorem open_fa {w : World} {cs : List Value} (h : Reads w faSh cs) : ∃ a : Fa, cs = a.cells.toList ∧ a.ok := by
  simp only [Reads] at h
  obtain ⟨_, _, rfl, ⟨s0, rfl, ws0⟩, _, _, rfl, ⟨s1, rfl, ws1⟩, _, _, rfl, ⟨s2, rfl, ws2⟩, _, _, rfl, ⟨s3, rfl, ws3⟩, _, _, rfl, ⟨s4, rfl⟩, _, _, rfl, ⟨s5, rfl, ws5⟩, rfl⟩ := h
  exact ⟨⟨s0, s1, s2, s3, s4, s5⟩, rfl, ⟨wf_u32 ws0, wf_u32 ws1, wf_u16 ws2, wf_i64 ws3, wf_u32 ws5⟩⟩
theorem open_su {w : World} {cs : List Value} (h : Reads w suSh cs) : ∃ a : Su, cs = a.cells.toList ∧ a.ok := by
  simp only [Reads] at h
  obtain ⟨_, _, rfl, ⟨s0, rfl, ws0⟩, _, _, rfl, ⟨s1, rfl, ws1⟩, _, _, rfl, ⟨s2, rfl, ws2⟩, _, _, rfl, ⟨s3, rfl, ws3⟩, _, _, rfl, ⟨s4, rfl, ws4⟩, _, _, rfl, ⟨s5, rfl⟩, _, _, rfl, ⟨s6, rfl, ws6⟩, _, _, rfl, ⟨s7, rfl, ws7⟩, _, _, rfl, ⟨s8, rfl, ws8⟩, rfl⟩ := h
  exact ⟨⟨s0, s1, s2, s3, s4, s5, s6, s7, s8⟩, rfl, ⟨wf_u16 ws0, wf_u16 ws1, wf_i64 ws4⟩⟩
theorem open_legs {w : World} {cs : Array Value} (h : Reads w legSh cs.toList) : ∃ l : Lg, cs = l.cells ∧ l.ok := by
  obtain ⟨c1, c2, h1, hc, d1, d2, rfl, hs, e1, e2, rfl, hcs, f1, f2, rfl, hss, g1, g2, rfl, ⟨n, rfl, wn⟩, rfl⟩ := h
  obtain ⟨c, rfl, oc⟩ := open_fa hc
  obtain ⟨s, rfl, os⟩ := open_fa hs
  obtain ⟨cs', rfl, ocs⟩ := open_su hcs
  obtain ⟨ss, rfl, oss⟩ := open_su hss
  exact ⟨⟨c, s, cs', ss, n⟩, by rw [← Array.toList_inj]; simpa using h1, ⟨oc, os, ocs, oss, wf_i64 wn⟩⟩

/-- A leg's window as it is told to its end: the other leg's, by this leg's scale. -/
def lgW (a o : Fa) (sc : Int) : Int := if 65535 < o.win / 2 ^ (if a.sc = -1 then 0 else sc).toNat then 65535 else o.win / 2 ^ (if a.sc = -1 then 0 else sc).toNat
theorem upd_c {l : Lg} (h : l.ok) : updG l.sp false = ⟨l.cs.lo, l.cs.re, (l.c.iss + 1) % 4294967296, (l.c.irs + 1 + l.n) % 4294967296, 16, lgW l.c l.s l.cs.sc, 0, [], []⟩ := by
  have h1 : updG l.sp false = ⟨l.cs.lo, l.cs.re, ((l.s.irs + 1) % 4294967296 + (l.c.iss - l.s.irs) % 4294967296) % 4294967296, ((l.s.iss + 1 + l.n) % 4294967296 - (l.s.iss - l.c.irs) % 4294967296) % 4294967296, 16, lgW l.c l.s l.cs.sc, 0, [], []⟩ := rfl
  rw [h1]
  have e1 : ((l.s.irs + 1) % 4294967296 + (l.c.iss - l.s.irs) % 4294967296) % 4294967296 = (l.c.iss + 1) % 4294967296 := by omega
  have e2 : ((l.s.iss + 1 + l.n) % 4294967296 - (l.s.iss - l.c.irs) % 4294967296) % 4294967296 = (l.c.irs + 1 + l.n) % 4294967296 := by omega
  rw [e1, e2]
theorem upd_s {l : Lg} (h : l.ok) : updG l.sp true = ⟨l.ss.lo, l.ss.re, (l.s.iss + 1 + l.n) % 4294967296, (l.s.irs + 1) % 4294967296, 16, lgW l.s l.c l.ss.sc, 0, [], []⟩ := by
  have h1 : updG l.sp true = ⟨l.ss.lo, l.ss.re, ((l.c.irs + 1 + l.n) % 4294967296 + (l.s.iss - l.c.irs) % 4294967296) % 4294967296, ((l.c.iss + 1) % 4294967296 - (l.c.iss - l.s.irs) % 4294967296) % 4294967296, 16, lgW l.s l.c l.ss.sc, 0, [], []⟩ := rfl
  rw [h1]
  have e1 : ((l.c.irs + 1 + l.n) % 4294967296 + (l.s.iss - l.c.irs) % 4294967296) % 4294967296 = (l.s.iss + 1 + l.n) % 4294967296 := by omega
  have e2 : ((l.c.iss + 1) % 4294967296 - (l.c.iss - l.s.irs) % 4294967296) % 4294967296 = (l.s.irs + 1) % 4294967296 := by omega
  rw [e1, e2]
theorem rst_c {l : Lg} (h : l.ok) : rstG l.sp false = ⟨l.cs.lo, l.cs.re, (l.c.iss + 1) % 4294967296, (l.c.irs + 1 + l.n) % 4294967296, 20, 0, 0, [], []⟩ := by
  have h1 : rstG l.sp false = ⟨l.cs.lo, l.cs.re, (l.c.iss + 1) % 4294967296, ((l.s.iss + 1 + l.n) % 4294967296 - (l.s.iss - l.c.irs) % 4294967296) % 4294967296, 20, 0, 0, [], []⟩ := rfl
  rw [h1]
  have e2 : ((l.s.iss + 1 + l.n) % 4294967296 - (l.s.iss - l.c.irs) % 4294967296) % 4294967296 = (l.c.irs + 1 + l.n) % 4294967296 := by omega
  rw [e2]
theorem rst_s {l : Lg} (h : l.ok) : rstG l.sp true = ⟨l.ss.lo, l.ss.re, (l.s.iss + 1 + l.n) % 4294967296, (l.s.irs + 1) % 4294967296, 20, 0, 0, [], []⟩ := by
  have h1 : rstG l.sp true = ⟨l.ss.lo, l.ss.re, (l.s.iss + 1 + l.n) % 4294967296, ((l.c.iss + 1) % 4294967296 - (l.c.iss - l.s.irs) % 4294967296) % 4294967296, 20, 0, 0, [], []⟩ := rfl
  rw [h1]
  have e2 : ((l.c.iss + 1) % 4294967296 - (l.c.iss - l.s.irs) % 4294967296) % 4294967296 = (l.s.irs + 1) % 4294967296 := by omega
  rw [e2]
theorem state_new {l : Lg} : l.sp.state = 0 := by
  have h : l.sp.clo false = false := rfl
  unfold Sp.state
  rw [h]
  rfl
/-- The window that is told, doubled by the scale, is not more than the other leg's; it is that, where it can be said. -/
theorem lgW_le {a o : Fa} {sc : Int} (ho : o.ok) : lgW a o sc * 2 ^ (if a.sc = -1 then 0 else sc).toNat ≤ o.win ∧ 0 ≤ lgW a o sc ∧ lgW a o sc ≤ 65535 := by
  unfold lgW
  generalize (if a.sc = -1 then 0 else sc).toNat = t
  have ht : (0 : Int) < 2 ^ t := Int.pow_pos (by decide)
  have h1 : o.win / 2 ^ t * 2 ^ t ≤ o.win := Int.ediv_mul_le _ (by omega)
  have h0 : 0 ≤ o.win / 2 ^ t := Int.ediv_nonneg ho.win.1 (by omega)
  split
  · exact ⟨Int.le_trans (Int.mul_le_mul_of_nonneg_right (by omega) (by omega)) h1, by omega, by omega⟩
  · exact ⟨h1, by omega, by omega⟩
theorem lgW_one {a o : Fa} {sc : Int} (ho : o.ok) (h : a.sc = -1) : 65535 < o.win ∨ lgW a o sc = o.win := by
  unfold lgW
  rw [if_pos h]
  simp only [Int.toNat_zero, Int.pow_zero, Int.ediv_one]
  split
  · exact .inl (by assumption)
  · exact .inr rfl
/-- The scales of legs that can be joined. -/
theorem err_sc {l : Lg} (h : l.ok) (he : l.err = false) : (l.c.sc = -1 ∨ (0 ≤ l.c.sc ∧ 0 ≤ l.cs.sc ∧ l.cs.sc ≤ 14)) ∧ (l.s.sc = -1 ∨ (0 ≤ l.s.sc ∧ 0 ≤ l.ss.sc ∧ l.ss.sc ≤ 14)) ∧ (0 ≤ l.n ∧ l.n ≤ 16384) := by
  have h1 : nwE l.c l.s l.cs l.ss l.n = false := he
  unfold nwE at h1
  simp only [Bool.or_eq_false_iff, Bool.not_eq_false', decide_eq_false_iff_not] at h1
  obtain ⟨⟨⟨h2, h3⟩, h4⟩, h5⟩ := h1
  unfold Shf.may nwSh at h4 h5
  simp only [Bool.and_eq_true, decide_eq_true_eq] at h4 h5
  obtain ⟨⟨⟨⟨a1, a2⟩, a3, a4⟩, -⟩, -⟩ := h4
  obtain ⟨⟨⟨⟨b1, b2⟩, b3, b4⟩, -⟩, -⟩ := h5
  refine ⟨?_, ?_, by omega⟩
  · by_cases hc : l.c.sc = -1
    · exact .inl hc
    · rw [if_neg hc] at a1 b3 b4
      exact .inr ⟨a1, b3, b4⟩
  · by_cases hc : l.s.sc = -1
    · exact .inl hc
    · rw [if_neg hc] at b1 a3 a4
      exact .inr ⟨b1, a3, a4⟩
end Go.Proofs.Ytgbbpibcmpeneaa
namespace Go.Proofs.Ytgbbpibcmpeneaa
set_option maxRecDepth 200000
open Go Go.Cul
set_option linter.unusedVariables false

theorem overL_rst {x : Shf} (hm : x.may = true) (q : Int) : overL x (wg q 0 4) = ([⟨0, 0, (q + x.sq) % 4294967296, 0, 4, x.win 0, 0, [], []⟩], 0) := by
  have h1 : (oput []).2 = 0 := by decide
  have h2 : fl 4 2 = false := by decide
  have h3 : fl 4 16 = false := by decide
  have hs : sov x [] = [] := rfl
  have ho : owo [] 0 = [] := rfl
  unfold overL wg
  dsimp only
  rw [if_neg (by rw [h1, hm]; simp), h2]
  simp only [Bool.false_eq_true, if_false, List.length_nil]
  have hc : ∀ n, cnt 0 n = 1 := fun n => by unfold cnt; simp
  rw [hc]
  have e : overS x ⟨0, 0, q, 0, 4, 0, 0, [], []⟩ = ⟨0, 0, (q + x.sq) % 4294967296, 0, 4, x.win 0, 0, [], []⟩ := by
    unfold overS
    dsimp only
    rw [h3, hs]
    rfl
  rw [e]
  show ([pieceAt _ _ 0], (0 : Int)) = _
  unfold pieceAt pieceS pieceF pieceU
  dsimp only
  rw [ho]
  simp

/-- The number that a new splice's end stands at, and the other one's window. -/
def Lg.nx (l : Lg) (k : Bool) : Int := if k then l.s.irs + 1 else l.c.irs + 1 + l.n
def Lg.wn (l : Lg) (k : Bool) : Int := if k then l.c.win else l.s.win
theorem rst_bad {l : Lg} (h : l.ok) (k : Bool) {off : Int} (ho : 0 ≤ off ∧ off ≤ 4294967295) : frBad l.sp k (wg ((l.nx k + off) % 4294967296) 0 4) = (!(off == 0) && !decide (off < l.wn k)) := by
  have h4 : fl 4 4 = true := by decide
  cases k
  · have e : frNu l.sp false (wg ((l.nx false + off) % 4294967296) 0 4) = ((l.c.irs + 1 + l.n + off) % 4294967296 + (l.s.iss - l.c.irs) % 4294967296) % 4294967296 := rfl
    have e2 : (l.sp.at (!false)).ac = (l.s.iss + 1 + l.n) % 4294967296 := rfl
    have e3 : (l.sp.at (!false)).wi = l.s.win := rfl
    unfold frBad
    rw [show (wg ((l.nx false + off) % 4294967296) 0 4).f = 4 from rfl, h4, if_pos rfl, e, e2, e3]
    have e4 : ((l.c.irs + 1 + l.n + off) % 4294967296 + (l.s.iss - l.c.irs) % 4294967296) % 4294967296 = (l.s.iss + 1 + l.n + off) % 4294967296 := by omega
    rw [e4]
    unfold sWithin
    have e5 : ((l.s.iss + 1 + l.n + off) % 4294967296 - (l.s.iss + 1 + l.n) % 4294967296) % 4294967296 = off := by omega
    rw [e5]
    have e6 : ((l.s.iss + 1 + l.n + off) % 4294967296 == (l.s.iss + 1 + l.n) % 4294967296) = (off == 0) := by
      rw [Bool.eq_iff_iff, beq_iff_eq, beq_iff_eq]; omega
    rw [e6]
    rfl
  · have e : frNu l.sp true (wg ((l.nx true + off) % 4294967296) 0 4) = ((l.s.irs + 1 + off) % 4294967296 + (l.c.iss - l.s.irs) % 4294967296) % 4294967296 := rfl
    have e2 : (l.sp.at (!true)).ac = (l.c.iss + 1) % 4294967296 := rfl
    have e3 : (l.sp.at (!true)).wi = l.c.win := rfl
    unfold frBad
    rw [show (wg ((l.nx true + off) % 4294967296) 0 4).f = 4 from rfl, h4, if_pos rfl, e, e2, e3]
    have e4 : ((l.s.irs + 1 + off) % 4294967296 + (l.c.iss - l.s.irs) % 4294967296) % 4294967296 = (l.c.iss + 1 + off) % 4294967296 := by omega
    rw [e4]
    unfold sWithin
    have e5 : ((l.c.iss + 1 + off) % 4294967296 - (l.c.iss + 1) % 4294967296) % 4294967296 = off := by omega
    rw [e5]
    have e6 : ((l.c.iss + 1 + off) % 4294967296 == (l.c.iss + 1) % 4294967296) = (off == 0) := by
      rw [Bool.eq_iff_iff, beq_iff_eq, beq_iff_eq]; omega
    rw [e6]
    rfl
/-- What an RST does to a new splice. -/
theorem rst_frM {l : Lg} (h : l.ok) (he : l.err = false) (k : Bool) {off : Int} (ho : 0 ≤ off ∧ off ≤ 4294967295) :
    frM l.sp k (wg ((l.nx k + off) % 4294967296) 0 4) = if (!(off == 0) && !decide (off < l.wn k)) then (l.sp, [], [], 1) else ({ l.sp with rs := true }, [⟨(l.sp.at (!k)).lo, (l.sp.at (!k)).re, ((l.nx k + off) % 4294967296 + (l.sp.at k).ov.sq) % 4294967296, 0, 4, (l.sp.at k).ov.win 0, 0, [], []⟩], [], 0) := by
  have h4 : fl 4 4 = true := by decide
  have h2 : fl 4 2 = false := by decide
  have hm := ((Lg.sp_ok h he).at k).may
  unfold frM
  rw [show (wg ((l.nx k + off) % 4294967296) 0 4).f = 4 from rfl, h2, h4, rst_bad h k ho, overL_rst hm]
  simp only [Bool.false_eq_true, if_false, ne_eq, not_true, if_true]
  rfl
end Go.Proofs.Ytgbbpibcmpeneaa
namespace Go.Proofs.Ytgbbpibcmpeneaa
set_option maxRecDepth 200000
open Go Go.Cul
set_option linter.unusedVariables false

theorem toldG_ok {x : Sp} (h : x.ok) (k : Bool) {n f wn : Int} (hn : 0 ≤ n ∧ n ≤ 4294967295) (hf : 0 ≤ f ∧ f ≤ 255) (hw : 0 ≤ wn ∧ wn ≤ 65535) : (toldG x k n f wn).ok := by
  have h1 := (h.at k).lo
  have h2 := (h.at k).re
  unfold toldG
  refine ⟨h1, h2, hn, ?_, hf, hw, (by show (0 : Int) ≤ 0 ∧ (0 : Int) ≤ 65535; decide), (fun o h => by cases h), (fun o h => by cases h)⟩
  show 0 ≤ ((x.at (!k)).ac - (x.at k).ov.sq) % 4294967296 ∧ ((x.at (!k)).ac - (x.at k).ov.sq) % 4294967296 ≤ 4294967295
  omega
theorem updG_ok {x : Sp} (h : x.ok) (k : Bool) : (updG x k).ok := by
  unfold updG
  exact toldG_ok h k (by omega) (by decide) (wndE_bd (h.at _))
theorem rstG_ok {x : Sp} (h : x.ok) (k : Bool) : (rstG x k).ok := by
  unfold rstG
  exact toldG_ok h k (h.at k).ac (by decide) (by decide)
theorem OkL.two {a b : Sg} (ha : a.ok) (hb : b.ok) : OkL [a, b] := by
  intro g hg
  rcases List.mem_cons.1 hg with rfl | hg
  · exact ha
  rcases List.mem_cons.1 hg with rfl | hg
  · exact hb
  cases hg
theorem OkL.nil : OkL [] := fun g h => by cases h

def Sp.mir (x : Sp) : Sp := ⟨x.s, x.c, x.rs, x.md⟩
theorem mir_mir (x : Sp) : x.mir.mir = x := rfl
theorem mir_at (x : Sp) (k : Bool) : x.mir.at (!k) = x.at k := by cases k <;> rfl
theorem mir_at' (x : Sp) (k : Bool) : x.mir.at k = x.at (!k) := by cases k <;> rfl
theorem mir_ok {x : Sp} (h : x.ok) : x.mir.ok := ⟨h.s, h.c, h.md⟩
theorem mir_put (x : Sp) (k : Bool) (e : En) : x.mir.put (!k) e = (x.put k e).mir := by cases k <;> rfl
theorem mir_told (x : Sp) (k : Bool) (n f wn : Int) : toldG x.mir (!k) n f wn = toldG x k n f wn := by cases k <;> rfl
theorem mir_wnd (x : Sp) (k : Bool) : x.mir.wnd (!k) = x.wnd k := by cases k <;> rfl
theorem mir_upd (x : Sp) (k : Bool) : updG x.mir (!k) = updG x k := by cases k <;> rfl
theorem mir_rst (x : Sp) (k : Bool) : rstG x.mir (!k) = rstG x k := by cases k <;> rfl
theorem mir_clo (x : Sp) (k : Bool) : x.mir.clo (!k) = x.clo k := by cases k <;> rfl
theorem mir_state (x : Sp) : x.mir.state = x.state := by
  have h1 : x.mir.clo true = x.clo false := mir_clo x false
  have h2 : x.mir.clo false = x.clo true := mir_clo x true
  unfold Sp.state
  rw [h1, h2, Bool.and_comm]
  rfl
theorem mir_bad (x : Sp) (k : Bool) (g : Sg) : frBad x.mir (!k) g = frBad x k g := by cases k <;> rfl
theorem frM_mir (x : Sp) (k : Bool) (g : Sg) : frM x.mir (!k) g = ((frM x k g).1.mir, (frM x k g).2.1, (frM x k g).2.2.1, (frM x k g).2.2.2) := by
  unfold frM
  rw [mir_bad, mir_at, mir_wnd, mir_told, mir_put, show x.mir.at (!(!k)) = x.at (!k) from mir_at x (!k)]
  split
  · rfl
  · split
    · rfl
    · split
      · rfl
      · split <;> rfl

/-- The legs the other way round, of which nothing was taken. -/
def Lg.none (l : Lg) : Lg := { l with n := 0 }
def Lg.mir (l : Lg) : Lg := ⟨l.s, l.c, l.ss, l.cs, 0⟩
theorem Lg.none_ok {l : Lg} (h : l.ok) : l.none.ok := ⟨h.c, h.s, h.cs, h.ss, by show (-9223372036854775808 : Int) ≤ 0 ∧ (0 : Int) ≤ 9223372036854775807; decide⟩
theorem Lg.mir_ok {l : Lg} (h : l.ok) : l.mir.ok := ⟨h.s, h.c, h.ss, h.cs, by show (-9223372036854775808 : Int) ≤ 0 ∧ (0 : Int) ≤ 9223372036854775807; decide⟩
theorem Lg.mir_err (l : Lg) : l.mir.err = l.none.err := by
  unfold Lg.err nwE Lg.mir Lg.none
  dsimp only
  rw [Bool.and_comm l.s.sack l.c.sack]
  cases (nwSh l.c l.s l.ss.sc (l.c.sack && l.s.sack)).may <;> cases (nwSh l.s l.c l.cs.sc (l.c.sack && l.s.sack)).may <;> rfl
theorem Lg.mir_sp (l : Lg) : l.mir.sp = l.none.sp.mir := by
  unfold Lg.sp nwSp Lg.mir Lg.none Sp.mir
  dsimp only
  rw [Bool.and_comm l.s.sack l.c.sack, Int.add_zero, Int.add_zero]
  simp only [Int.add_zero]
theorem pieceF_bd {s : Sg} (hf : 0 ≤ s.f ∧ s.f ≤ 255) (fr n : Nat) : 0 ≤ pieceF s fr n ∧ pieceF s fr n ≤ 255 := by
  unfold pieceF clr32 clr9
  split <;> split <;> omega
theorem pieceAt_ok {s : Sg} (h : s.ok) (size i : Nat) : (pieceAt s size i).ok := by
  have hu := h.urg
  unfold pieceAt pieceS
  refine ⟨h.sp, h.dp, ?_, h.ack, pieceF_bd h.f _ _, h.win, ?_, (fun o ho => h.os o (List.mem_filter.1 ho).1), (fun y hy => h.data y (List.mem_of_mem_drop (List.mem_of_mem_take hy)))⟩
  · dsimp only; omega
  · dsimp only; unfold pieceU; split <;> omega
theorem overL_ok {x : Shf} {g : Sg} (h : g.ok) : OkL (overL x g).1 := by
  unfold overL
  split
  · exact OkL.nil
  · split
    · exact OkL.nil
    · intro y hy
      obtain ⟨i, -, rfl⟩ := List.mem_map.1 hy
      exact pieceAt_ok (overS_ok h) _ _
theorem port_ok {e : En} (he : e.ok) {g : Sg} (h : g.ok) : (port e g).ok := ⟨he.lo, he.re, h.seq, h.ack, h.f, h.win, h.urg, h.os, h.data⟩
theorem portL_ok {e : En} (he : e.ok) {L : List Sg} (h : OkL L) : OkL (L.map (port e)) := fun y hy => by
  obtain ⟨g, hg, rfl⟩ := List.mem_map.1 hy
  exact port_ok he (h g hg)
theorem frM_okL {x : Sp} (h : x.ok) (k : Bool) {g : Sg} (hg : g.ok) : OkL (frM x k g).2.1 ∧ OkL (frM x k g).2.2.1 ∧ (frM x k g).2.1.length ≤ g.data.length + 1 ∧ (frM x k g).2.2.1.length ≤ 1 := by
  have h1 := portL_ok (h.at (!k)) (overL_ok (x := (x.at k).ov) hg)
  have h2 := overL_len (x.at k).ov g
  have h3 : OkL [toldG x k (x.at k).ac 16 (x.wnd k)] := fun y hy => by
    rcases List.mem_cons.1 hy with rfl | hy
    · exact toldG_ok h k (h.at k).ac (by decide) (wndE_bd (h.at _))
    · cases hy
  unfold frM
  split
  · exact ⟨OkL.nil, h3, Nat.zero_le _, Nat.le_refl _⟩
  · split
    · exact ⟨OkL.nil, OkL.nil, Nat.zero_le _, Nat.zero_le _⟩
    · split
      · exact ⟨OkL.nil, OkL.nil, Nat.zero_le _, Nat.zero_le _⟩
      · split
        · exact ⟨h1, OkL.nil, by simpa using h2, Nat.zero_le _⟩
        · exact ⟨h1, OkL.nil, by simpa using h2, Nat.zero_le _⟩
theorem flat_few : ∀ {os : List Op1}, os.any badO = false → os.length ≤ (flat os).length ∧ ∀ o ∈ os, o.2.length ≤ 38
  | [], _ => ⟨Nat.zero_le _, fun o h => by cases h⟩
  | o :: os, h => by
    simp only [List.any_cons, Bool.or_eq_false_iff] at h
    have ih := flat_few h.2
    have h38 : o.2.length ≤ 38 := by have := h.1; unfold badO at this; simp at this; omega
    refine ⟨?_, fun y hy => ?_⟩
    · rw [flat_cons, List.length_append, ob_len, List.length_cons]; omega
    · rcases List.mem_cons.1 hy with rfl | hy
      · exact h38
      · exact ih.2 y hy
theorem tmay_few {g : Sg} (h : tmay g = true) : g.os.length ≤ 50000 ∧ (∀ o ∈ g.os, o.2.length ≤ 1000000) ∧ g.data.length ≤ 1000000 := by
  unfold tmay at h
  simp only [Bool.and_eq_true, decide_eq_true_eq] at h
  obtain ⟨h1, h2⟩ := h
  unfold oput at h1
  split at h1
  · cases h1
  · rename_i hb
    split at h1
    · cases h1
    · have hf := flat_few (by simpa using hb : g.os.any badO = false)
      exact ⟨by omega, fun o ho => Nat.le_trans (hf.2 o ho) (by decide), by omega⟩
end Go.Proofs.Ytgbbpibcmpeneaa
namespace Go.Proofs.Ytgbbpibcmpeneaa
set_option maxRecDepth 200000
open Go.ChangeShapes Go.WideShapes Go.ChangeAt Go.RowKit Go.Cul Go.Loose
set_option linter.unusedVariables false

/-- The number of the function that an end's segments are handed to. -/
def sendF (k : Bool) : FuncId := if k then 12 else 11
theorem send_enter (k : Bool) : ∀ (args : Array Value) (w : World), (callFunc (sendF k) args).run Try.prog w = .ok (.enter (sendF k) args) w := by
  cases k
  · exact fun args w => (show (callFunc 11 args).run Try.prog w = .ok (.enter 11 args) w by simp [go_sem])
  · exact fun args w => (show (callFunc 12 args).run Try.prog w = .ok (.enter 12 args) w by simp [go_sem])
theorem send_any {x y : Sp} {g : Sg} {U V : List Sg} {E : Int} (k : Bool) (he : frM x k g = (y, U, V, E)) (b : Nat) (vo vd : Value) (w : World) (hx : x.ok) (hg : g.ok) (h : SpAt w b x) (hvo : RdO w vo g.os) (hvd : Rd .u8 w vd g.data) (hf : g.os.length ≤ 50000 ∧ (∀ o ∈ g.os, o.2.length ≤ 1000000) ∧ g.data.length ≤ 1000000) :
    Calls Try.prog (sendF k) #[spp b, .agg (g.cells vo vd)] w fun e w' => ∃ a1 c1 a2 c2, e = .returned (.tuple #[.slice a1 U.length c1, .slice a2 V.length c2, .int .i64 E]) ∧ FrS w' w.heap.size (.slice a1 U.length c1) U ∧ FrS w' w.heap.size (.slice a2 V.length c2) V ∧ SpAt w' b y ∧ Mvs (fun j => j = b) w w' := by
  have key : Calls Try.prog (sendF k) #[spp b, .agg (g.cells vo vd)] w fun e w' => ∃ u v, e = .returned (.tuple #[u, v, .int .i64 (frM x k g).2.2.2]) ∧ FrS w' w.heap.size u (frM x k g).2.1 ∧ FrS w' w.heap.size v (frM x k g).2.2.1 ∧ SpAt w' b (frM x k g).1 ∧ Mvs (fun j => j = b) w w' := by
    cases k
    · exact fromc_any b x g vo vd w hx hg h hvo hvd hf.1 hf.2.1 hf.2.2
    · exact froms_any b x g vo vd w hx hg h hvo hvd hf.1 hf.2.1 hf.2.2
  rw [he] at key
  refine key.mono ?_
  rintro e w' ⟨u, v, rfl, h1, h2, h3, h4⟩
  obtain ⟨a1, c1, rfl, -⟩ := h1.shape
  obtain ⟨a2, c2, rfl, -⟩ := h2.shape
  exact ⟨a1, c1, a2, c2, rfl, h1, h2, h3, h4⟩
end Go.Proofs.Ytgbbpibcmpeneaa
