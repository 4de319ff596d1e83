/-
  Proved here: what splice's FromClient and FromServer compute. Conditions: as from's.
  Proved here: what the document's Same of two rows of segments, and the law's, compute. Conditions: segments whose numbers are within their kinds.
  Proved here: what the law's joined and legs compute. Conditions: numbers within their kinds.
  Proved here: culvertlaw26's wakes returns true. Also: what from leaves of a splice is within its kinds.
  Proved here: two legs among the arguments are opened; what Updates and Rsts tell of a new splice, in plain terms. Proved here: what a new splice does with an RST, in plain terms: the plain law of SpliceResets. No walk. Proved here: a splice with its ends the other way round, in plain terms: the plain law of SpliceMirror; what is told is within its kinds; what may be is short. No walk. Proved here: FromClient or FromServer, whichever an end's is, called over a function value.
  Proved here: what a splice does with the pieces of two streams, in plain terms: the plain law of SpliceStream. No walk.
-/
import Derived.Test.YtgbbpibcmpeneaaSpg
import Derived.Test.YtgbbpibcmpeneaaRef6S
import Derived.Test.YtgbbpibcmpeneaaSpn
import Derived.Test.YtgbbpibcmpeneaaShape
namespace Go.Proofs.Ytgbbpibcmpeneaa
set_option maxRecDepth 200000
open Go.ChangeShapes Go.WideShapes Go.ChangeAt Go.RowKit Go.Cul Go.Loose
set_option linter.unusedVariables false

theorem gcells_one {w : World} {g : Sg} {vo vd : Value} (hvo : RdO w vo g.os) (hvd : Rd .u8 w vd g.data) : (g.cells vo vd).all (·.oneCell') = true := by
  obtain ⟨a, c, rfl⟩ := hvo.shape
  obtain ⟨a2, n2, c2, rfl⟩ := hvd.shape
  simp [Value.oneCell']

set_option maxHeartbeats 2000000 in
theorem fromc_any (b : Nat) (x : Sp) (g : Sg) (vo vd : Value) (w : World) (hx : x.ok) (hg : g.ok) (h : SpAt w b x) (hvo : RdO w vo g.os) (hvd : Rd .u8 w vd g.data) (hn : g.os.length ≤ 50000) (hdl : ∀ o ∈ g.os, o.2.length ≤ 1000000) (hl : g.data.length ≤ 1000000) :
    Calls Try.prog 11 #[spp b, .agg (g.cells vo vd)] w fun e w' => ∃ u v, e = .returned (.tuple #[u, v, .int .i64 (frM x false g).2.2.2]) ∧ FrS w' w.heap.size u (frM x false g).2.1 ∧ FrS w' w.heap.size v (frM x false g).2.2.1 ∧ SpAt w' b (frM x false g).1 ∧ Mvs (fun j => j = b) w w' := by
  have hF := Lib.hid (fun (W : World) (hW : Ext w W) => from_any b x false g vo vd W hx hg (hW.block h) (hvo.ext hW) (hvd.ext hW) hn hdl hl)
  obtain ⟨ao, co, rfl⟩ := hvo.shape
  obtain ⟨ad, nd, cd, rfl⟩ := hvd.shape
  generalize frM x false g = FM at *
  clear h hvo hvd hx hg hn hdl hl
  go_enter Try.func11, Try.ntmps11
  go_upto_region 1 with (fail)
  generalize hW : w.alloc _ = W
  have hxW : Ext w W := by rw [← hW]; exact Ext.new _ _
  have kN : W.heap[w.heap.size]? = some (.cells (g.cells (.slice ao g.os.length co) (.slice ad nd cd)) 51) := by rw [← hW]; exact heap_alloc_new w _
  clear hW
  go_wp2_with (refine wpList_load_bigG 51 w.heap.size _ _ _ rfl kN rfl Try.underlying51 rfl (by kernel_rfl) ?_)
  refine (hF.out W hxW).mono ?_
  rintro e w1 ⟨u, v, rfl, h1, h2, h3, h4⟩
  have H1 := Lib.hid (h1.lowS (base' := w.heap.size) hxW.size)
  have H2 := Lib.hid (h2.lowS (base' := w.heap.size) hxW.size)
  have H3 := Lib.hid h3
  have H4 := Lib.hid ((Mvs.ofExt hxW).tr h4)
  obtain ⟨a1, c1, rfl, -⟩ := h1.shape
  obtain ⟨a2, c2, rfl, -⟩ := h2.shape
  clear h1 h2 h3 h4 kN hF
  go_wp2_with fail
  refine bodyPost_ret (v := .tuple #[.slice a1 FM.2.1.length c1, .slice a2 FM.2.2.1.length c2, .int .i64 FM.2.2.2]) (by simp [results, Try.results11, go_sem]) rfl ?_
  exact ⟨_, _, rfl, H1.out, H2.out, H3.out, H4.out⟩

set_option maxHeartbeats 2000000 in
theorem froms_any (b : Nat) (x : Sp) (g : Sg) (vo vd : Value) (w : World) (hx : x.ok) (hg : g.ok) (h : SpAt w b x) (hvo : RdO w vo g.os) (hvd : Rd .u8 w vd g.data) (hn : g.os.length ≤ 50000) (hdl : ∀ o ∈ g.os, o.2.length ≤ 1000000) (hl : g.data.length ≤ 1000000) :
    Calls Try.prog 12 #[spp b, .agg (g.cells vo vd)] w fun e w' => ∃ u v, e = .returned (.tuple #[u, v, .int .i64 (frM x true g).2.2.2]) ∧ FrS w' w.heap.size u (frM x true g).2.1 ∧ FrS w' w.heap.size v (frM x true g).2.2.1 ∧ SpAt w' b (frM x true g).1 ∧ Mvs (fun j => j = b) w w' := by
  have hF := Lib.hid (fun (W : World) (hW : Ext w W) => from_any b x true g vo vd W hx hg (hW.block h) (hvo.ext hW) (hvd.ext hW) hn hdl hl)
  obtain ⟨ao, co, rfl⟩ := hvo.shape
  obtain ⟨ad, nd, cd, rfl⟩ := hvd.shape
  generalize frM x true g = FM at *
  clear h hvo hvd hx hg hn hdl hl
  go_enter Try.func12, Try.ntmps12
  go_upto_region 1 with (fail)
  generalize hW : w.alloc _ = W
  have hxW : Ext w W := by rw [← hW]; exact Ext.new _ _
  have kN : W.heap[w.heap.size]? = some (.cells (g.cells (.slice ao g.os.length co) (.slice ad nd cd)) 51) := by rw [← hW]; exact heap_alloc_new w _
  clear hW
  go_wp2_with (refine wpList_load_bigG 51 w.heap.size _ _ _ rfl kN rfl Try.underlying51 rfl (by kernel_rfl) ?_)
  refine (hF.out W hxW).mono ?_
  rintro e w1 ⟨u, v, rfl, h1, h2, h3, h4⟩
  have H1 := Lib.hid (h1.lowS (base' := w.heap.size) hxW.size)
  have H2 := Lib.hid (h2.lowS (base' := w.heap.size) hxW.size)
  have H3 := Lib.hid h3
  have H4 := Lib.hid ((Mvs.ofExt hxW).tr h4)
  obtain ⟨a1, c1, rfl, -⟩ := h1.shape
  obtain ⟨a2, c2, rfl, -⟩ := h2.shape
  clear h1 h2 h3 h4 kN hF
  go_wp2_with fail
  refine bodyPost_ret (v := .tuple #[.slice a1 FM.2.1.length c1, .slice a2 FM.2.2.1.length c2, .int .i64 FM.2.2.2]) (by simp [results, Try.results12, go_sem]) rfl ?_
  exact ⟨_, _, rfl, H1.out, H2.out, H3.out, H4.out⟩
end Go.Proofs.Ytgbbpibcmpeneaa
namespace Go.Proofs.Ytgbbpibcmpeneaa
set_option maxRecDepth 200000
open Go.ChangeShapes Go.WideShapes Go.ChangeAt Go.RowKit Go.Cul Go.Loose
set_option linter.unusedVariables false
attribute [local go_sem] Loose.Still Loose.Upon Loose.vUpon First.pUpon

/-- A row of segments, as it reads. -/
def RdS (w : World) (v : Value) (L : List Sg) : Prop := ∃ a cap, v = .slice a L.length cap ∧ L.length ≤ cap ∧ cap ≤ maxLen ∧
  (L = [] ∨ ∃ b o, a = some ⟨b, o, none⟩ ∧ ∀ i, i < L.length → ∃ vo vd, w.rangeAt b (o + i * 9) ((L.getD i Sg.none).cells vo vd).toList ∧ RdO w vo (L.getD i Sg.none).os ∧ Rd .u8 w vd (L.getD i Sg.none).data)
theorem RdS.ext {w w' : World} {v : Value} {L : List Sg} (h : RdS w v L) (hx : Ext w w') : RdS w' v L := by
  obtain ⟨a, cap, rfl, h1, h2, h3⟩ := h
  refine ⟨a, cap, rfl, h1, h2, ?_⟩
  rcases h3 with h3 | ⟨b, o, rfl, h3⟩
  · exact .inl h3
  · exact .inr ⟨b, o, rfl, fun i hi => let ⟨vo, vd, q1, q2, q3⟩ := h3 i hi; ⟨vo, vd, range_ext q1 hx, q2.ext hx, q3.ext hx⟩⟩
theorem FrS.rds {w : World} {base : Nat} {v : Value} {L : List Sg} (h : FrS w base v L) : RdS w v L := by
  obtain ⟨a, c, rfl, h1, h2⟩ := h.shape
  refine ⟨a, c, rfl, h1, h2, ?_⟩
  rcases Nat.eq_zero_or_pos L.length with h0 | h0
  · exact .inl (List.eq_nil_of_length_eq_zero h0)
  obtain ⟨g, cap, vo, vd, he, -, -⟩ := h.at (i := 0) h0
  cases he
  refine .inr ⟨g, 0, rfl, fun i hi => ?_⟩
  obtain ⟨g', cap', vo, vd, he, -, h3, h4, h5⟩ := h.at hi
  cases he
  refine ⟨vo, vd, fun j v hv => ?_, h4.rdo, h5.rd⟩
  have hj : j < 9 := (List.getElem?_eq_some_iff.1 hv).1
  rw [Nat.zero_add, h3 j hj]
  exact hv
/-- Two segments without options and data, just built. -/
theorem rds_pair {w : World} {g h : Sg} {B : Nat} (hg : g.os = [] ∧ g.data = []) (hh : h.os = [] ∧ h.data = []) (hB : w.heap.size = B) :
    RdS (w.alloc (.cells #[.int .u16 g.sp, .int .u16 g.dp, .int .u32 g.seq, .int .u32 g.ack, .int .u8 g.f, .int .u16 g.win, .int .u16 g.urg, nos, nos, .int .u16 h.sp, .int .u16 h.dp, .int .u32 h.seq, .int .u32 h.ack, .int .u8 h.f, .int .u16 h.win, .int .u16 h.urg, nos, nos] 51)) (.slice (some ⟨B, 0, none⟩) 2 2) [g, h] := by
  subst hB
  refine ⟨_, _, rfl, Nat.le_refl _, by decide, .inr ⟨w.heap.size, 0, rfl, fun i hi => ?_⟩⟩
  have hi : i < 2 := hi
  rcases (by omega : i = 0 ∨ i = 1) with rfl | rfl
  · refine ⟨nos, nos, fun j v hv => ?_, by show RdO _ _ g.os; rw [hg.1]; exact RdO.nil _, by show Rd _ _ _ g.data; rw [hg.2]; exact Rd.nil _ _⟩
    rw [cell_new, ← hv]
    have hj : j < 9 := (List.getElem?_eq_some_iff.1 hv).1
    rcases (by omega : j = 0 ∨ j = 1 ∨ j = 2 ∨ j = 3 ∨ j = 4 ∨ j = 5 ∨ j = 6 ∨ j = 7 ∨ j = 8) with rfl | rfl | rfl | rfl | rfl | rfl | rfl | rfl | rfl <;> rfl
  · refine ⟨nos, nos, fun j v hv => ?_, by show RdO _ _ h.os; rw [hh.1]; exact RdO.nil _, by show Rd _ _ _ h.data; rw [hh.2]; exact Rd.nil _ _⟩
    rw [cell_new, ← hv]
    have hj : j < 9 := (List.getElem?_eq_some_iff.1 hv).1
    rcases (by omega : j = 0 ∨ j = 1 ∨ j = 2 ∨ j = 3 ∨ j = 4 ∨ j = 5 ∨ j = 6 ∨ j = 7 ∨ j = 8) with rfl | rfl | rfl | rfl | rfl | rfl | rfl | rfl | rfl <;> rfl

/-- Are two rows of segments the same? -/
def sameL (A B : List Sg) : Bool := decide (A.length = B.length) && (List.range A.length).all fun i => tsame (A.getD i Sg.none) (B.getD i Sg.none)
theorem sameL_eq (A : List Sg) : sameL A A = true := by
  unfold sameL
  simp only [decide_true, Bool.true_and, List.all_eq_true]
  intro i _
  exact (tsame_iff _ _).2 rfl
theorem sameL_no {A B : List Sg} {i : Nat} (hl : A.length = B.length) (hi : i < A.length) (h : tsame (A.getD i Sg.none) (B.getD i Sg.none) = false) : sameL A B = false := by
  unfold sameL
  rw [Bool.and_eq_false_iff]
  right
  rw [List.all_eq_false]
  exact ⟨i, List.mem_range.2 hi, by rw [h]; decide⟩
theorem sameL_yes {A B : List Sg} (hl : A.length = B.length) (h : ∀ i, i < A.length → tsame (A.getD i Sg.none) (B.getD i Sg.none) = true) : sameL A B = true := by
  unfold sameL
  rw [Bool.and_eq_true, decide_eq_true_eq, List.all_eq_true]
  exact ⟨hl, fun i hi => h i (List.mem_range.1 hi)⟩
def OkL (A : List Sg) : Prop := ∀ g ∈ A, g.ok
theorem OkL.at {A : List Sg} (h : OkL A) {i : Nat} (hi : i < A.length) : (A.getD i Sg.none).ok := h _ (by simp [List.getD, hi])

set_option maxHeartbeats 4000000 in
set_option maxRecDepth 200000 in
theorem same20_any (A B : List Sg) (va vb : Value) (w : World) (ha : RdS w va A) (hb : RdS w vb B) (hA : OkL A) (hB : OkL B) (hn : A.length ≤ 1000000) :
    Calls Try.prog 30 #[va, vb] w fun e w' => e = .returned (.bool (sameL A B)) ∧ Ext w w' := by
  have hno := Lib.hid (fun (i : Nat) (hl : A.length = B.length) (hi : i < A.length) (h : tsame (A.getD i Sg.none) (B.getD i Sg.none) = false) => sameL_no hl hi h)
  have hyes := Lib.hid (fun (hl : A.length = B.length) (h : ∀ i, i < A.length → tsame (A.getD i Sg.none) (B.getD i Sg.none) = true) => sameL_yes hl h)
  have hlen : Hid (A.length ≠ B.length → sameL A B = false) := fun h => by unfold sameL; simp [h]
  generalize sameL A B = S at *
  obtain ⟨aa, ca, rfl, ha1, ha2, ha3⟩ := ha
  obtain ⟨ab, cb, rfl, hb1, hb2, hb3⟩ := hb
  by_cases hl : A.length = B.length
  rotate_left
  · have hS := Lib.hid (hlen.out hl)
    have hlI : ((A.length : Int) != (B.length : Int)) = true := by simp; omega
    have hlI2 : ¬ ((A.length : Int) = (B.length : Int)) := by omega
    clear hno hyes hlen ha3 hb3
    go_enter Try.func30, Try.ntmps30
    go_wp2_with fail
    go_ret
    exact ⟨by rw [hS.out]; rfl, Ext.rfl' _⟩
  have HL := Lib.hid hl
  rw [← hl] at hb1 ⊢
  have HB3 : Hid (B = [] ∨ ∃ b o, ab = some ⟨b, o, none⟩ ∧ ∀ i, i < A.length → ∃ vo vd, w.rangeAt b (o + i * 9) ((B.getD i Sg.none).cells vo vd).toList ∧ RdO w vo (B.getD i Sg.none).os ∧ Rd .u8 w vd (B.getD i Sg.none).data) := by rw [hl]; exact hb3
  have HA3 := Lib.hid ha3
  have HN := Lib.hid hn
  clear hl ha3 hb3 hlen hn
  go_enter Try.func30, Try.ntmps30
  go_wp2_with fail
  go_loopw [5] (fun iv wr => ∃ i : Nat, i ≤ A.length ∧ iv = .int .i64 i ∧ Ext w wr ∧ ∀ j, j < i → tsame (A.getD j Sg.none) (B.getD j Sg.none) = true) (fun iv _ => A.length - (intOf iv).toNat)
  case atStart => exact ⟨0, Nat.zero_le _, rfl, Ext.rfl' _, fun j hj => by omega⟩
  case round =>
    obtain ⟨i, hi, rfl, hx, ht⟩ := hrel
    by_cases hlt2 : i < A.length
    · have hltI : (i : Int) < (A.length : Int) := by omega
      rcases HA3.out with h0 | ⟨b, o, rfl, hq⟩
      · rw [h0] at hlt2; simp at hlt2
      rcases HB3.out with h0 | ⟨b2, o2, rfl, hq2⟩
      · have := HL.out; rw [h0] at this; simp at this; rw [this] at hlt2; simp at hlt2
      obtain ⟨vo, vd, q1, q2, q3⟩ := hq i hlt2
      obtain ⟨vo2, vd2, r1, r2, r3⟩ := hq2 i hlt2
      have q1 := range_ext q1 hx
      have r1 := range_ext r1 hx
      have hcall := Lib.hid (fun (W : World) (hW : Ext wr W) => r6same_any _ _ vo vd vo2 vd2 W (hA.at hlt2) (hB.at (HL.out ▸ hlt2)) (q2.ext (hx.tr hW)) (q3.ext (hx.tr hW)) (r2.ext (hx.tr hW)) (r3.ext (hx.tr hW)))
      have hno2 := Lib.hid (fun h => hno.out i HL.out hlt2 h)
      clear hq hq2 q2 q3 r2 r3
      generalize hg1 : A.getD i Sg.none = g1 at *
      generalize hg2 : B.getD i Sg.none = g2 at *
      generalize hT : tsame g1 g2 = T at *
      have HT := Lib.hid ht
      have HG1 := Lib.hid hg1
      have HG2 := Lib.hid hg2
      have HTT := Lib.hid hT
      clear ht hg1 hg2 hT hno
      go_upto_region 6 with (fail)
      refine wp_region_grow [(8, Loose.is (.bool T))] (lasts_is lasts_nil) (by kernel_rfl) (by kernel_rfl) ?_
      iterate 3
        apply wpL_none rfl rfl
        · intro w' hw' hn'; go_simp; exact rfl
        intro K hK; go_simp; refine hK _ _ ?_; clear hK K
      apply wpL_none rfl rfl
      · intro w' hw' hn'
        exact still_load 51 _ rfl b _ rfl (g1.cells vo vd) _ (range_ext q1 hw') Try.underlying51 rfl (by kernel_rfl)
      intro K hK; go_simp; refine hK _ _ ?_; clear hK K
      iterate 3
        apply wpL_none rfl rfl
        · intro w' hw' hn'; go_simp; exact rfl
        intro K hK; go_simp; refine hK _ _ ?_; clear hK K
      apply wpL_none rfl rfl
      · intro w' hw' hn'
        exact still_load 51 _ rfl b2 _ rfl (g2.cells vo2 vd2) _ (range_ext r1 hw') Try.underlying51 rfl (by kernel_rfl)
      intro K hK; go_simp; refine hK _ _ ?_; clear hK K
      apply wpL_some rfl rfl
      · intro w' hw' hn'
        go_simp
        refine ⟨Ext.rfl' _, ?_⟩
        refine (hcall.out _ hw').mono ?_
        rintro e w2 ⟨rfl, hx⟩
        exact ⟨_, rfl, hx, rfl⟩
      intro v w' hw' hD' hv
      obtain rfl : v = _ := hv
      clear hw' hD' w'
      intro K hK; go_simp; refine hK _ _ ?_; clear hK K
      iterate 1
        apply wpL_none rfl rfl
        · intro w' hw' hn'; go_simp; exact rfl
        intro K hK; go_simp; refine hK _ _ ?_; clear hK K
      refine wpL_nil ?_
      intro w2 hx2 _
      have hx2 := hx.tr hx2
      cases T
      · go_wp2_with fail
        go_ret
        exact ⟨by rw [hno2.out (by first | rfl | trivial)]; rfl, hx2⟩
      · go_wp2_with fail
        go_roundw
        case rel => exact ⟨i + 1, hlt2, congrArg _ (wrap64_nat hlt2 (Nat.le_succ_of_le HN.out)), hx2, fun j hj => by
          rcases (by omega : j < i ∨ j = i) with h | rfl
          · exact HT.out j h
          · rw [HG1.out, HG2.out]; exact HTT.out⟩
        case measure => exact meas_nat hlt2 (Nat.le_succ_of_le HN.out)
    · obtain rfl : i = A.length := by omega
      have hS := Lib.hid (hyes.out HL.out ht)
      clear ht hno hyes
      go_wp2_with fail
      go_ret
      exact ⟨by rw [hS.out]; rfl, hx⟩

theorem same26_any (A B : List Sg) (va vb : Value) (w : World) (ha : RdS w va A) (hb : RdS w vb B) (hA : OkL A) (hB : OkL B) (hn : A.length ≤ 1000000) :
    Calls Try.prog 17 #[va, vb] w fun e w' => e = .returned (.bool (sameL A B)) ∧ Ext w w' := by
  have hF := Lib.hid (same20_any A B va vb w ha hb hA hB hn)
  obtain ⟨a, c, rfl, -⟩ := id ha
  obtain ⟨a2, c2, rfl, -⟩ := id hb
  generalize sameL A B = S at *
  clear ha hb hA hB hn
  go_enter Try.func17, Try.ntmps17
  go_wp2_with fail
  refine hF.out.mono ?_
  rintro e w1 ⟨rfl, hx⟩
  go_wp2_with fail
  go_ret
  exact ⟨rfl, hx⟩
end Go.Proofs.Ytgbbpibcmpeneaa
namespace Go.Proofs.Ytgbbpibcmpeneaa
set_option maxRecDepth 200000
open Go.ChangeShapes Go.WideShapes Go.ChangeAt Go.RowKit Go.Cul Go.Loose
set_option linter.unusedVariables false

/-- Two legs, and how many bytes were taken. -/
structure Lg where
  c : Fa
  s : Fa
  cs : Su
  ss : Su
  n : Int
structure Lg.ok (l : Lg) : Prop where
  c : l.c.ok
  s : l.s.ok
  cs : l.cs.ok
  ss : l.ss.ok
  n : -9223372036854775808 ≤ l.n ∧ l.n ≤ 9223372036854775807
abbrev Lg.cells (l : Lg) : Array Value := #[.int .u32 l.c.iss, .int .u32 l.c.irs, .int .u16 l.c.mss, .int .i64 l.c.sc, .bool l.c.sack, .int .u32 l.c.win,
  .int .u32 l.s.iss, .int .u32 l.s.irs, .int .u16 l.s.mss, .int .i64 l.s.sc, .bool l.s.sack, .int .u32 l.s.win,
  .int .u16 l.cs.lo, .int .u16 l.cs.re, .int .u32 l.cs.iss, .int .u16 l.cs.mss, .int .i64 l.cs.sc, .bool l.cs.sack, .int .i64 l.cs.room, .int .u64 l.cs.rto, .int .i64 l.cs.tries,
  .int .u16 l.ss.lo, .int .u16 l.ss.re, .int .u32 l.ss.iss, .int .u16 l.ss.mss, .int .i64 l.ss.sc, .bool l.ss.sack, .int .i64 l.ss.room, .int .u64 l.ss.rto, .int .i64 l.ss.tries, .int .i64 l.n]
def Lg.err (l : Lg) : Bool := nwE l.c l.s l.cs l.ss l.n
def Lg.sp (l : Lg) : Sp := nwSp l.c l.s l.cs l.ss l.n
theorem Lg.sp_ok {l : Lg} (h : l.ok) (he : l.err = false) : l.sp.ok := nwSp_ok h.c h.s h.cs h.ss he
theorem legs_at {w : World} {b : Nat} {l : Lg} (h : w.heap[b]? = some (.cells l.cells 30)) : w.rangeAt b 0 l.c.cells.toList ∧ w.rangeAt b 6 l.s.cells.toList ∧ w.rangeAt b 12 l.cs.cells.toList ∧ w.rangeAt b 21 l.ss.cells.toList := by
  refine ⟨fun j v hv => ?_, fun j v hv => ?_, fun j v hv => ?_, fun j v hv => ?_⟩
  · have hj : j < 6 := (List.getElem?_eq_some_iff.1 hv).1
    rw [cell_blk h, ← hv]
    rcases (by omega : j = 0 ∨ j = 1 ∨ j = 2 ∨ j = 3 ∨ j = 4 ∨ j = 5) with rfl | rfl | rfl | rfl | rfl | rfl <;> rfl
  · have hj : j < 6 := (List.getElem?_eq_some_iff.1 hv).1
    rw [cell_blk h, ← hv]
    rcases (by omega : j = 0 ∨ j = 1 ∨ j = 2 ∨ j = 3 ∨ j = 4 ∨ j = 5) with rfl | rfl | rfl | rfl | rfl | rfl <;> rfl
  · have hj : j < 9 := (List.getElem?_eq_some_iff.1 hv).1
    rw [cell_blk h, ← hv]
    rcases (by omega : j = 0 ∨ j = 1 ∨ j = 2 ∨ j = 3 ∨ j = 4 ∨ j = 5 ∨ j = 6 ∨ j = 7 ∨ j = 8) with rfl | rfl | rfl | rfl | rfl | rfl | rfl | rfl | rfl <;> rfl
  · have hj : j < 9 := (List.getElem?_eq_some_iff.1 hv).1
    rw [cell_blk h, ← hv]
    rcases (by omega : j = 0 ∨ j = 1 ∨ j = 2 ∨ j = 3 ∨ j = 4 ∨ j = 5 ∨ j = 6 ∨ j = 7 ∨ j = 8) with rfl | rfl | rfl | rfl | rfl | rfl | rfl | rfl | rfl <;> rfl

set_option maxHeartbeats 2000000 in
set_option maxRecDepth 200000 in
theorem joined_any (l : Lg) (w : World) (hl : l.ok) :
    Calls Try.prog 8 #[.agg l.cells] w fun e w' => Ext w w' ∧ ((l.err = true ∧ e = .returned (.tuple #[.pointer none, .int .i64 1])) ∨ (l.err = false ∧ ∃ bb, e = .returned (.tuple #[spp bb, .int .i64 0]) ∧ w.heap.size ≤ bb ∧ SpAt w' bb l.sp)) := by
  have hN := Lib.hid (fun (W : World) => new_any l.c l.s l.cs l.ss l.n W hl.c hl.s hl.cs hl.ss)
  have hE : Hid (l.err = nwE l.c l.s l.cs l.ss l.n) := rfl
  have hS : Hid (l.sp = nwSp l.c l.s l.cs l.ss l.n) := rfl
  clear hl
  generalize l.err = EE at *
  generalize l.sp = SS at *
  generalize hF : (fun (W : World) (k : Nat) => W.heap[k]? = some (.cells l.cells 30)) = F at *
  have HF : Hid (∀ W k, F W k → W.heap[k]? = some (.cells l.cells 30)) := fun W k h => by rw [← hF] at h; exact h
  clear hF
  go_enter Try.func8, Try.ntmps8
  go_upto_region 1 with (fail)
  generalize hW : w.alloc _ = W
  have hxW : Ext w W := by rw [← hW]; exact Ext.new _ _
  have kN : W.heap[w.heap.size]? = some (.cells l.cells 30) := by rw [← hW]; exact heap_alloc_new w _
  clear hW
  obtain ⟨r0, r1, r2, r3⟩ := legs_at kN
  have e30 := cell_blk kN 30
  simp at e30
  clear kN HF
  go_wp2_with (first | (refine wpList_load_mid rfl 25 _ rfl w.heap.size 0 rfl l.c.cells.toList _ r0 Try.underlying25 rfl (by kernel_rfl) ?_) | (refine wpList_load_mid rfl 25 _ rfl w.heap.size 6 rfl l.s.cells.toList _ r1 Try.underlying25 rfl (by kernel_rfl) ?_) | (refine wpList_load_mid rfl 28 _ rfl w.heap.size 12 rfl l.cs.cells.toList _ r2 Try.underlying28 rfl (by kernel_rfl) ?_) | (refine wpList_load_mid rfl 28 _ rfl w.heap.size 21 rfl l.ss.cells.toList _ r3 Try.underlying28 rfl (by kernel_rfl) ?_))
  refine (hN.out W).mono ?_
  rintro e w1 ⟨hx1, h | h⟩
  · obtain ⟨h1, rfl⟩ := h
    have H1 := Lib.hid h1
    clear h1
    go_wp2_with fail
    refine bodyPost_ret (v := .tuple #[.pointer none, .int .i64 1]) (by simp [results, Try.results8, go_sem]) rfl ?_
    exact ⟨hxW.tr hx1, .inl ⟨by rw [hE.out]; exact H1.out, rfl⟩⟩
  · obtain ⟨h1, bb, rfl, h2, h3⟩ := h
    have H1 := Lib.hid h1
    have H3 := Lib.hid h3
    clear h1 h3
    go_wp2_with fail
    refine bodyPost_ret (v := .tuple #[spp bb, .int .i64 0]) (by simp [results, Try.results8, go_sem]) rfl ?_
    exact ⟨hxW.tr hx1, .inr ⟨by rw [hE.out]; exact H1.out, bb, rfl, Nat.le_trans hxW.size h2, by rw [hS.out]; exact H3.out⟩⟩

/-- The chapter's legs. -/
def lgK : Lg := ⟨⟨100, 500, 1000, -1, false, 300⟩, ⟨900, 700, 1000, -1, false, 400⟩, ⟨443, 5, 0, 0, -1, false, 0, 0, 0⟩, ⟨6, 7, 0, 0, -1, false, 0, 0, 0⟩, 10⟩
theorem lgK_ok : lgK.ok := ⟨⟨by decide, by decide, by decide, by decide, by decide⟩, ⟨by decide, by decide, by decide, by decide, by decide⟩, ⟨by decide, by decide, by decide⟩, ⟨by decide, by decide, by decide⟩, by decide⟩
theorem lgK_err : lgK.err = false := by decide +kernel

set_option maxHeartbeats 2000000 in
set_option maxRecDepth 200000 in
theorem legs_any (w : World) : Calls Try.prog 19 #[] w fun e w' => e = .returned (.agg lgK.cells) ∧ Ext w w' := by
  have hone : lgK.cells.all (·.oneCell') = true := by simp [Value.oneCell']
  go_enter Try.func19, Try.ntmps19
  go_wp2_with (first | (refine wpList_build_big 30 lgK.cells _ rfl (by kernel_rfl) ?_) | (refine wpList_store_big 30 lgK.cells rfl rfl (by kernel_rfl) rfl hone ?_))
  refine bodyPost_ret (results_cell Try.results19 _ rfl (load_blk (heap_alloc_new _ _) 30 _ Try.underlying30 rfl (by kernel_rfl))) rfl ?_
  exact ⟨rfl, Ext.new _ _⟩
end Go.Proofs.Ytgbbpibcmpeneaa
namespace Go.Proofs.Ytgbbpibcmpeneaa
set_option maxRecDepth 200000
open Go.ChangeShapes Go.WideShapes Go.ChangeAt Go.RowKit Go.Cul Go.Loose
set_option linter.unusedVariables false

theorem put_ok {x : Sp} (h : x.ok) (k : Bool) {e : En} (he : e.ok) : (x.put k e).ok := by
  cases k
  · exact ⟨he, h.s, h.md⟩
  · exact ⟨h.c, he, h.md⟩
theorem frM_ok {x : Sp} (h : x.ok) (k : Bool) {g : Sg} (hg : g.ok) : (frM x k g).1.ok := by
  unfold frM
  split
  · exact h
  · split
    · exact h
    · split
      · exact h
      · split
        · exact ⟨h.c, h.s, h.md⟩
        · exact put_ok h k (knows_ok (h.at k) hg (by unfold frBh; omega))

def wg (q a f : Int) : Sg := ⟨0, 0, q, a, f, 0, 0, [], []⟩
theorem wg_ok {q a f : Int} (hq : 0 ≤ q ∧ q ≤ 4294967295) (ha : 0 ≤ a ∧ a ≤ 4294967295) (hf : 0 ≤ f ∧ f ≤ 255) : (wg q a f).ok := ⟨(show (0 : Int) ≤ 0 ∧ (0 : Int) ≤ 65535 by decide), (show (0 : Int) ≤ 0 ∧ (0 : Int) ≤ 65535 by decide), hq, ha, hf, (show (0 : Int) ≤ 0 ∧ (0 : Int) ≤ 65535 by decide), (show (0 : Int) ≤ 0 ∧ (0 : Int) ≤ 65535 by decide), (fun o h => by cases h), (fun o h => by cases h)⟩
def wS0 : Sp := lgK.sp
def wS1 : Sp := (frM wS0 false (wg 511 101 16)).1
def wS2 : Sp := (frM wS1 true (wg 701 911 16)).1
def wS3 : Sp := (frM wS2 false (wg 500 0 2)).1
def wS4 : Sp := (frM wS3 false (wg 300 0 4)).1
def wS5 : Sp := (frM wS4 false (wg 511 0 4)).1
theorem w1 : frM wS0 false (wg 511 101 16) = (wS1, [⟨6, 7, 911, 701, 16, 0, 0, [], []⟩], [], 0) := by kernel_rfl
theorem w2 : frM wS1 true (wg 701 911 16) = (wS2, [⟨443, 5, 101, 511, 16, 0, 0, [], []⟩], [], 0) := by kernel_rfl
theorem w3 : frM wS2 false (wg 500 0 2) = (wS3, [], [⟨443, 5, 101, 511, 16, 0, 0, [], []⟩], 0) := by kernel_rfl
theorem w4 : frM wS3 false (wg 300 0 4) = (wS4, [], [], 1) := by kernel_rfl
theorem w5 : frM wS4 false (wg 511 0 4) = (wS5, [⟨6, 7, 911, 0, 4, 0, 0, [], []⟩], [], 0) := by kernel_rfl
theorem wS0_ok : wS0.ok := Lg.sp_ok lgK_ok lgK_err
theorem wS1_ok : wS1.ok := frM_ok wS0_ok _ (wg_ok (by decide) (by decide) (by decide))
theorem wS2_ok : wS2.ok := frM_ok wS1_ok _ (wg_ok (by decide) (by decide) (by decide))
theorem wS3_ok : wS3.ok := frM_ok wS2_ok _ (wg_ok (by decide) (by decide) (by decide))
theorem wS4_ok : wS4.ok := frM_ok wS3_ok _ (wg_ok (by decide) (by decide) (by decide))
theorem wS5_ok : wS5.ok := frM_ok wS4_ok _ (wg_ok (by decide) (by decide) (by decide))
theorem wS5_state : wS5.state = 2 := by kernel_rfl

/-- A call from an end of a segment without options and data. -/
theorem fromc_lit {x y : Sp} {g : Sg} {U V : List Sg} {E : Int} (he : frM x false g = (y, U, V, E)) (b : Nat) (w : World) (hx : x.ok) (hg : g.ok) (h : SpAt w b x) (ho : g.os = []) (hd : g.data = []) :
    Calls Try.prog 11 #[spp b, .agg (g.cells nos nos)] w fun e w' => ∃ a1 c1 a2 c2, e = .returned (.tuple #[.slice a1 U.length c1, .slice a2 V.length c2, .int .i64 E]) ∧ FrS w' w.heap.size (.slice a1 U.length c1) U ∧ FrS w' w.heap.size (.slice a2 V.length c2) V ∧ SpAt w' b y ∧ Mvs (fun j => j = b) w w' := by
  have := fromc_any b x g nos nos w hx hg h (by rw [ho]; exact RdO.nil _) (by rw [hd]; exact Rd.nil _ _) (by rw [ho]; simp) (by rw [ho]; intro o h; cases h) (by rw [hd]; simp)
  rw [he] at this
  refine this.mono ?_
  rintro e w' ⟨u, v, rfl, h1, h2, h3, h4⟩
  obtain ⟨a1, c1, rfl, -⟩ := h1.shape
  obtain ⟨a2, c2, rfl, -⟩ := h2.shape
  exact ⟨a1, c1, a2, c2, rfl, h1, h2, h3, h4⟩
theorem froms_lit {x y : Sp} {g : Sg} {U V : List Sg} {E : Int} (he : frM x true g = (y, U, V, E)) (b : Nat) (w : World) (hx : x.ok) (hg : g.ok) (h : SpAt w b x) (ho : g.os = []) (hd : g.data = []) :
    Calls Try.prog 12 #[spp b, .agg (g.cells nos nos)] w fun e w' => ∃ a1 c1 a2 c2, e = .returned (.tuple #[.slice a1 U.length c1, .slice a2 V.length c2, .int .i64 E]) ∧ FrS w' w.heap.size (.slice a1 U.length c1) U ∧ FrS w' w.heap.size (.slice a2 V.length c2) V ∧ SpAt w' b y ∧ Mvs (fun j => j = b) w w' := by
  have := froms_any b x g nos nos w hx hg h (by rw [ho]; exact RdO.nil _) (by rw [hd]; exact Rd.nil _ _) (by rw [ho]; simp) (by rw [ho]; intro o h; cases h) (by rw [hd]; simp)
  rw [he] at this
  refine this.mono ?_
  rintro e w' ⟨u, v, rfl, h1, h2, h3, h4⟩
  obtain ⟨a1, c1, rfl, -⟩ := h1.shape
  obtain ⟨a2, c2, rfl, -⟩ := h2.shape
  exact ⟨a1, c1, a2, c2, rfl, h1, h2, h3, h4⟩

set_option maxHeartbeats 4000000 in
set_option maxRecDepth 200000 in
theorem wakes26_any (w : World) : Calls Try.prog 9 #[] w fun e w' => e = .returned (.bool true) ∧ Ext w w' := by
  go_enter Try.func9, Try.ntmps9
  go_wp2_with fail
  refine (legs_any _).mono ?_
  rintro e v0 ⟨rfl, hx0⟩
  go_wp2_with fail
  refine (joined_any lgK _ lgK_ok).mono ?_
  rintro e v1 ⟨hx1, h | h⟩
  · exact absurd h.1 (by rw [lgK_err]; decide)
  obtain ⟨-, bb, rfl, hbb, hB⟩ := h
  have hwb : w.heap.size ≤ bb := Nat.le_trans hx0.size hbb
  have hx : Ext w v1 := hx0.tr hx1
  have hB1 : SpAt v1 bb wS0 := hB
  have hlb1 := lt_of_block hB1
  clear hx0 hx1 hbb hB
  go_wp2_with fail
  refine (fromc_lit w1 bb v1 wS0_ok (wg_ok (by decide) (by decide) (by decide)) hB1 rfl rfl).mono ?_
  rintro e v2 ⟨a1, c1, d1, k1, rfl, f1, t1, hB2, m1⟩
  have hx := m1.ext hx (fun k hk => by omega)
  have hlb2 := lt_of_block hB2
  simp only [List.length_cons, List.length_nil, Nat.zero_add] at f1 t1 ⊢
  clear hB1 m1
  go_wp2_with fail
  refine (froms_lit w2 bb v2 wS1_ok (wg_ok (by decide) (by decide) (by decide)) hB2 rfl rfl).mono ?_
  rintro e v3 ⟨a2, c2, d2, k2, rfl, f2, t2, hB3, m2⟩
  have hx := m2.ext hx (fun k hk => by omega)
  have hlb3 := lt_of_block hB3
  simp only [List.length_cons, List.length_nil, Nat.zero_add] at f2 t2 ⊢
  have f1 := f1.keep (Keep.ofMvs m2 (fun k hk => by omega))
  have t1 := t1.keep (Keep.ofMvs m2 (fun k hk => by omega))
  clear hB2 m2
  go_wp2_with fail
  refine (fromc_lit w3 bb v3 wS2_ok (wg_ok (by decide) (by decide) (by decide)) hB3 rfl rfl).mono ?_
  rintro e v4 ⟨a3, c3, d3, k3, rfl, f3, t3, hB4, m3⟩
  have hx := m3.ext hx (fun k hk => by omega)
  have hlb4 := lt_of_block hB4
  simp only [List.length_cons, List.length_nil, Nat.zero_add] at f3 t3 ⊢
  have f1 := f1.keep (Keep.ofMvs m3 (fun k hk => by omega))
  have t1 := t1.keep (Keep.ofMvs m3 (fun k hk => by omega))
  have f2 := f2.keep (Keep.ofMvs m3 (fun k hk => by omega))
  have t2 := t2.keep (Keep.ofMvs m3 (fun k hk => by omega))
  clear hB3 m3
  go_wp2_with fail
  refine (fromc_lit w4 bb v4 wS3_ok (wg_ok (by decide) (by decide) (by decide)) hB4 rfl rfl).mono ?_
  rintro e v5 ⟨a4, c4, d4, k4, rfl, f4, t4, hB5, m4⟩
  have hx := m4.ext hx (fun k hk => by omega)
  have hlb5 := lt_of_block hB5
  simp only [List.length_nil] at f4 t4 ⊢
  have f1 := f1.keep (Keep.ofMvs m4 (fun k hk => by omega))
  have t1 := t1.keep (Keep.ofMvs m4 (fun k hk => by omega))
  have f2 := f2.keep (Keep.ofMvs m4 (fun k hk => by omega))
  have t2 := t2.keep (Keep.ofMvs m4 (fun k hk => by omega))
  have f3 := f3.keep (Keep.ofMvs m4 (fun k hk => by omega))
  have t3 := t3.keep (Keep.ofMvs m4 (fun k hk => by omega))
  clear hB4 m4
  go_wp2_with fail
  refine (fromc_lit w5 bb v5 wS4_ok (wg_ok (by decide) (by decide) (by decide)) hB5 rfl rfl).mono ?_
  rintro e v6 ⟨a5, c5, d5, k5, rfl, f5, t5, hB6, m5⟩
  have hx := m5.ext hx (fun k hk => by omega)
  have hlb6 := lt_of_block hB6
  simp only [List.length_cons, List.length_nil, Nat.zero_add] at f5 t5 ⊢
  have f1 := f1.keep (Keep.ofMvs m5 (fun k hk => by omega))
  have t1 := t1.keep (Keep.ofMvs m5 (fun k hk => by omega))
  have f2 := f2.keep (Keep.ofMvs m5 (fun k hk => by omega))
  have t2 := t2.keep (Keep.ofMvs m5 (fun k hk => by omega))
  have f3 := f3.keep (Keep.ofMvs m5 (fun k hk => by omega))
  have t3 := t3.keep (Keep.ofMvs m5 (fun k hk => by omega))
  have f4 := f4.keep (Keep.ofMvs m5 (fun k hk => by omega))
  have t4 := t4.keep (Keep.ofMvs m5 (fun k hk => by omega))
  clear hB5 m5
  obtain ⟨g1, _, _, _, he1, -, q1, -, -⟩ := f1.at (i := 0) (by decide)
  obtain ⟨g2, _, _, _, he2, -, q2, -, -⟩ := f2.at (i := 0) (by decide)
  obtain ⟨g3, _, _, _, he3, -, q3, -, -⟩ := t3.at (i := 0) (by decide)
  obtain ⟨g5, _, _, _, he5, -, q5, -, -⟩ := f5.at (i := 0) (by decide)
  cases he1
  cases he2
  cases he3
  cases he5
  have y12 := q1 2 (by decide)
  have y13 := q1 3 (by decide)
  have y22 := q2 2 (by decide)
  have y23 := q2 3 (by decide)
  have y32 := q3 2 (by decide)
  have y33 := q3 3 (by decide)
  have y52 := q5 2 (by decide)
  simp at y12 y13 y22 y23 y32 y33 y52
  have hst := Lib.hid (sstate_any bb wS5 v6 hB6 wS5_ok)
  rw [wS5_state] at hst
  have HX := Lib.hid hx
  clear f1 f2 f3 f4 f5 t1 t2 t3 t4 t5 q1 q2 q3 q5 hB6 hx
  go_wp2_with fail
  refine hst.out.mono ?_
  rintro e v7 ⟨rfl, hx7⟩
  go_wp2_with fail
  go_ret
  exact ⟨rfl, HX.out.tr hx7⟩
end Go.Proofs.Ytgbbpibcmpeneaa
namespace Go.Proofs.Ytgbbpibcmpeneaa
set_option maxRecDepth 200000
open Go.ChangeShapes Go.WideShapes Go.ChangeAt Go.RowKit Go.Cul Go.Loose
set_option linter.unusedVariables false

abbrev faSh : Sh := .agg 6 (.more 1 (.int .u32) (.more 1 (.int .u32) (.more 1 (.int .u16) (.more 1 (.int .i64) (.more 1 .bool (.more 1 (.int .u32) .done))))))
abbrev suSh : Sh := .agg 9 (.more 1 (.int .u16) (.more 1 (.int .u16) (.more 1 (.int .u32) (.more 1 (.int .u16) (.more 1 (.int .i64) (.more 1 .bool (.more 1 (.int .i64) (.more 1 (.int .u64) (.more 1 (.int .i64) .done)))))))))
abbrev legSh : Sh := .agg 31 (.more 6 faSh (.more 6 faSh (.more 9 suSh (.more 9 suSh (.more 1 (.int .i64) .done)))))
theorem open_fa {w : World} {cs : List Value} (h : Reads w faSh cs) : ∃ a : Fa, cs = a.cells.toList ∧ a.ok := by
  simp only [Reads] at h
  obtain ⟨_, _, rfl, ⟨s0, rfl, ws0⟩, _, _, rfl, ⟨s1, rfl, ws1⟩, _, _, rfl, ⟨s2, rfl, ws2⟩, _, _, rfl, ⟨s3, rfl, ws3⟩, _, _, rfl, ⟨s4, rfl⟩, _, _, rfl, ⟨s5, rfl, ws5⟩, rfl⟩ := h
  exact ⟨⟨s0, s1, s2, s3, s4, s5⟩, rfl, ⟨wf_u32 ws0, wf_u32 ws1, wf_u16 ws2, wf_i64 ws3, wf_u32 ws5⟩⟩
theorem open_su {w : World} {cs : List Value} (h : Reads w suSh cs) : ∃ a : Su, cs = a.cells.toList ∧ a.ok := by
  simp only [Reads] at h
  obtain ⟨_, _, rfl, ⟨s0, rfl, ws0⟩, _, _, rfl, ⟨s1, rfl, ws1⟩, _, _, rfl, ⟨s2, rfl, ws2⟩, _, _, rfl, ⟨s3, rfl, ws3⟩, _, _, rfl, ⟨s4, rfl, ws4⟩, _, _, rfl, ⟨s5, rfl⟩, _, _, rfl, ⟨s6, rfl, ws6⟩, _, _, rfl, ⟨s7, rfl, ws7⟩, _, _, rfl, ⟨s8, rfl, ws8⟩, rfl⟩ := h
  exact ⟨⟨s0, s1, s2, s3, s4, s5, s6, s7, s8⟩, rfl, ⟨wf_u16 ws0, wf_u16 ws1, wf_i64 ws4⟩⟩
theorem open_legs {w : World} {cs : Array Value} (h : Reads w legSh cs.toList) : ∃ l : Lg, cs = l.cells ∧ l.ok := by
  obtain ⟨c1, c2, h1, hc, d1, d2, rfl, hs, e1, e2, rfl, hcs, f1, f2, rfl, hss, g1, g2, rfl, ⟨n, rfl, wn⟩, rfl⟩ := h
  obtain ⟨c, rfl, oc⟩ := open_fa hc
  obtain ⟨s, rfl, os⟩ := open_fa hs
  obtain ⟨cs', rfl, ocs⟩ := open_su hcs
  obtain ⟨ss, rfl, oss⟩ := open_su hss
  exact ⟨⟨c, s, cs', ss, n⟩, by rw [← Array.toList_inj]; simpa using h1, ⟨oc, os, ocs, oss, wf_i64 wn⟩⟩

/-- A leg's window as it is told to its end: the other leg's, by this leg's scale. -/
def lgW (a o : Fa) (sc : Int) : Int := if 65535 < o.win / 2 ^ (if a.sc = -1 then 0 else sc).toNat then 65535 else o.win / 2 ^ (if a.sc = -1 then 0 else sc).toNat
theorem upd_c {l : Lg} (h : l.ok) : updG l.sp false = ⟨l.cs.lo, l.cs.re, (l.c.iss + 1) % 4294967296, (l.c.irs + 1 + l.n) % 4294967296, 16, lgW l.c l.s l.cs.sc, 0, [], []⟩ := by
  have h1 : updG l.sp false = ⟨l.cs.lo, l.cs.re, ((l.s.irs + 1) % 4294967296 + (l.c.iss - l.s.irs) % 4294967296) % 4294967296, ((l.s.iss + 1 + l.n) % 4294967296 - (l.s.iss - l.c.irs) % 4294967296) % 4294967296, 16, lgW l.c l.s l.cs.sc, 0, [], []⟩ := rfl
  rw [h1]
  have e1 : ((l.s.irs + 1) % 4294967296 + (l.c.iss - l.s.irs) % 4294967296) % 4294967296 = (l.c.iss + 1) % 4294967296 := by omega
  have e2 : ((l.s.iss + 1 + l.n) % 4294967296 - (l.s.iss - l.c.irs) % 4294967296) % 4294967296 = (l.c.irs + 1 + l.n) % 4294967296 := by omega
  rw [e1, e2]
theorem upd_s {l : Lg} (h : l.ok) : updG l.sp true = ⟨l.ss.lo, l.ss.re, (l.s.iss + 1 + l.n) % 4294967296, (l.s.irs + 1) % 4294967296, 16, lgW l.s l.c l.ss.sc, 0, [], []⟩ := by
  have h1 : updG l.sp true = ⟨l.ss.lo, l.ss.re, ((l.c.irs + 1 + l.n) % 4294967296 + (l.s.iss - l.c.irs) % 4294967296) % 4294967296, ((l.c.iss + 1) % 4294967296 - (l.c.iss - l.s.irs) % 4294967296) % 4294967296, 16, lgW l.s l.c l.ss.sc, 0, [], []⟩ := rfl
  rw [h1]
  have e1 : ((l.c.irs + 1 + l.n) % 4294967296 + (l.s.iss - l.c.irs) % 4294967296) % 4294967296 = (l.s.iss + 1 + l.n) % 4294967296 := by omega
  have e2 : ((l.c.iss + 1) % 4294967296 - (l.c.iss - l.s.irs) % 4294967296) % 4294967296 = (l.s.irs + 1) % 4294967296 := by omega
  rw [e1, e2]
theorem rst_c {l : Lg} (h : l.ok) : rstG l.sp false = ⟨l.cs.lo, l.cs.re, (l.c.iss + 1) % 4294967296, (l.c.irs + 1 + l.n) % 4294967296, 20, 0, 0, [], []⟩ := by
  have h1 : rstG l.sp false = ⟨l.cs.lo, l.cs.re, (l.c.iss + 1) % 4294967296, ((l.s.iss + 1 + l.n) % 4294967296 - (l.s.iss - l.c.irs) % 4294967296) % 4294967296, 20, 0, 0, [], []⟩ := rfl
  rw [h1]
  have e2 : ((l.s.iss + 1 + l.n) % 4294967296 - (l.s.iss - l.c.irs) % 4294967296) % 4294967296 = (l.c.irs + 1 + l.n) % 4294967296 := by omega
  rw [e2]
theorem rst_s {l : Lg} (h : l.ok) : rstG l.sp true = ⟨l.ss.lo, l.ss.re, (l.s.iss + 1 + l.n) % 4294967296, (l.s.irs + 1) % 4294967296, 20, 0, 0, [], []⟩ := by
  have h1 : rstG l.sp true = ⟨l.ss.lo, l.ss.re, (l.s.iss + 1 + l.n) % 4294967296, ((l.c.iss + 1) % 4294967296 - (l.c.iss - l.s.irs) % 4294967296) % 4294967296, 20, 0, 0, [], []⟩ := rfl
  rw [h1]
  have e2 : ((l.c.iss + 1) % 4294967296 - (l.c.iss - l.s.irs) % 4294967296) % 4294967296 = (l.s.irs + 1) % 4294967296 := by omega
  rw [e2]
theorem state_new {l : Lg} : l.sp.state = 0 := by
  have h : l.sp.clo false = false := rfl
  unfold Sp.state
  rw [h]
  rfl
/-- The window that is told, doubled by the scale, is not more than the other leg's; it is that, where it can be said. -/
theorem lgW_le {a o : Fa} {sc : Int} (ho : o.ok) : lgW a o sc * 2 ^ (if a.sc = -1 then 0 else sc).toNat ≤ o.win ∧ 0 ≤ lgW a o sc ∧ lgW a o sc ≤ 65535 := by
  unfold lgW
  generalize (if a.sc = -1 then 0 else sc).toNat = t
  have ht : (0 : Int) < 2 ^ t := Int.pow_pos (by decide)
  have h1 : o.win / 2 ^ t * 2 ^ t ≤ o.win := Int.ediv_mul_le _ (by omega)
  have h0 : 0 ≤ o.win / 2 ^ t := Int.ediv_nonneg ho.win.1 (by omega)
  split
  · exact ⟨Int.le_trans (Int.mul_le_mul_of_nonneg_right (by omega) (by omega)) h1, by omega, by omega⟩
  · exact ⟨h1, by omega, by omega⟩
theorem lgW_one {a o : Fa} {sc : Int} (ho : o.ok) (h : a.sc = -1) : 65535 < o.win ∨ lgW a o sc = o.win := by
  unfold lgW
  rw [if_pos h]
  simp only [Int.toNat_zero, Int.pow_zero, Int.ediv_one]
  split
  · exact .inl (by assumption)
  · exact .inr rfl
/-- The scales of legs that can be joined. -/
theorem err_sc {l : Lg} (h : l.ok) (he : l.err = false) : (l.c.sc = -1 ∨ (0 ≤ l.c.sc ∧ 0 ≤ l.cs.sc ∧ l.cs.sc ≤ 14)) ∧ (l.s.sc = -1 ∨ (0 ≤ l.s.sc ∧ 0 ≤ l.ss.sc ∧ l.ss.sc ≤ 14)) ∧ (0 ≤ l.n ∧ l.n ≤ 16384) := by
  have h1 : nwE l.c l.s l.cs l.ss l.n = false := he
  unfold nwE at h1
  simp only [Bool.or_eq_false_iff, Bool.not_eq_false', decide_eq_false_iff_not] at h1
  obtain ⟨⟨⟨h2, h3⟩, h4⟩, h5⟩ := h1
  unfold Shf.may nwSh at h4 h5
  simp only [Bool.and_eq_true, decide_eq_true_eq] at h4 h5
  obtain ⟨⟨⟨⟨a1, a2⟩, a3, a4⟩, -⟩, -⟩ := h4
  obtain ⟨⟨⟨⟨b1, b2⟩, b3, b4⟩, -⟩, -⟩ := h5
  refine ⟨?_, ?_, by omega⟩
  · by_cases hc : l.c.sc = -1
    · exact .inl hc
    · rw [if_neg hc] at a1 b3 b4
      exact .inr ⟨a1, b3, b4⟩
  · by_cases hc : l.s.sc = -1
    · exact .inl hc
    · rw [if_neg hc] at b1 a3 a4
      exact .inr ⟨b1, a3, a4⟩
end Go.Proofs.Ytgbbpibcmpeneaa
namespace Go.Proofs.Ytgbbpibcmpeneaa
set_option maxRecDepth 200000
open Go Go.Cul
set_option linter.unusedVariables false

theorem overL_rst {x : Shf} (hm : x.may = true) (q : Int) : overL x (wg q 0 4) = ([⟨0, 0, (q + x.sq) % 4294967296, 0, 4, x.win 0, 0, [], []⟩], 0) := by
  have h1 : (oput []).2 = 0 := by decide
  have h2 : fl 4 2 = false := by decide
  have h3 : fl 4 16 = false := by decide
  have hs : sov x [] = [] := rfl
  have ho : owo [] 0 = [] := rfl
  unfold overL wg
  dsimp only
  rw [if_neg (by rw [h1, hm]; simp), h2]
  simp only [Bool.false_eq_true, if_false, List.length_nil]
  have hc : ∀ n, cnt 0 n = 1 := fun n => by unfold cnt; simp
  rw [hc]
  have e : overS x ⟨0, 0, q, 0, 4, 0, 0, [], []⟩ = ⟨0, 0, (q + x.sq) % 4294967296, 0, 4, x.win 0, 0, [], []⟩ := by
    unfold overS
    dsimp only
    rw [h3, hs]
    rfl
  rw [e]
  show ([pieceAt _ _ 0], (0 : Int)) = _
  unfold pieceAt pieceS pieceF pieceU
  dsimp only
  rw [ho]
  simp

/-- The number that a new splice's end stands at, and the other one's window. -/
def Lg.nx (l : Lg) (k : Bool) : Int := if k then l.s.irs + 1 else l.c.irs + 1 + l.n
def Lg.wn (l : Lg) (k : Bool) : Int := if k then l.c.win else l.s.win
theorem rst_bad {l : Lg} (h : l.ok) (k : Bool) {off : Int} (ho : 0 ≤ off ∧ off ≤ 4294967295) : frBad l.sp k (wg ((l.nx k + off) % 4294967296) 0 4) = (!(off == 0) && !decide (off < l.wn k)) := by
  have h4 : fl 4 4 = true := by decide
  cases k
  · have e : frNu l.sp false (wg ((l.nx false + off) % 4294967296) 0 4) = ((l.c.irs + 1 + l.n + off) % 4294967296 + (l.s.iss - l.c.irs) % 4294967296) % 4294967296 := rfl
    have e2 : (l.sp.at (!false)).ac = (l.s.iss + 1 + l.n) % 4294967296 := rfl
    have e3 : (l.sp.at (!false)).wi = l.s.win := rfl
    unfold frBad
    rw [show (wg ((l.nx false + off) % 4294967296) 0 4).f = 4 from rfl, h4, if_pos rfl, e, e2, e3]
    have e4 : ((l.c.irs + 1 + l.n + off) % 4294967296 + (l.s.iss - l.c.irs) % 4294967296) % 4294967296 = (l.s.iss + 1 + l.n + off) % 4294967296 := by omega
    rw [e4]
    unfold sWithin
    have e5 : ((l.s.iss + 1 + l.n + off) % 4294967296 - (l.s.iss + 1 + l.n) % 4294967296) % 4294967296 = off := by omega
    rw [e5]
    have e6 : ((l.s.iss + 1 + l.n + off) % 4294967296 == (l.s.iss + 1 + l.n) % 4294967296) = (off == 0) := by
      rw [Bool.eq_iff_iff, beq_iff_eq, beq_iff_eq]; omega
    rw [e6]
    rfl
  · have e : frNu l.sp true (wg ((l.nx true + off) % 4294967296) 0 4) = ((l.s.irs + 1 + off) % 4294967296 + (l.c.iss - l.s.irs) % 4294967296) % 4294967296 := rfl
    have e2 : (l.sp.at (!true)).ac = (l.c.iss + 1) % 4294967296 := rfl
    have e3 : (l.sp.at (!true)).wi = l.c.win := rfl
    unfold frBad
    rw [show (wg ((l.nx true + off) % 4294967296) 0 4).f = 4 from rfl, h4, if_pos rfl, e, e2, e3]
    have e4 : ((l.s.irs + 1 + off) % 4294967296 + (l.c.iss - l.s.irs) % 4294967296) % 4294967296 = (l.c.iss + 1 + off) % 4294967296 := by omega
    rw [e4]
    unfold sWithin
    have e5 : ((l.c.iss + 1 + off) % 4294967296 - (l.c.iss + 1) % 4294967296) % 4294967296 = off := by omega
    rw [e5]
    have e6 : ((l.c.iss + 1 + off) % 4294967296 == (l.c.iss + 1) % 4294967296) = (off == 0) := by
      rw [Bool.eq_iff_iff, beq_iff_eq, beq_iff_eq]; omega
    rw [e6]
    rfl
/-- What an RST does to a new splice. -/
theorem rst_frM {l : Lg} (h : l.ok) (he : l.err = false) (k : Bool) {off : Int} (ho : 0 ≤ off ∧ off ≤ 4294967295) :
    frM l.sp k (wg ((l.nx k + off) % 4294967296) 0 4) = if (!(off == 0) && !decide (off < l.wn k)) then (l.sp, [], [], 1) else ({ l.sp with rs := true }, [⟨(l.sp.at (!k)).lo, (l.sp.at (!k)).re, ((l.nx k + off) % 4294967296 + (l.sp.at k).ov.sq) % 4294967296, 0, 4, (l.sp.at k).ov.win 0, 0, [], []⟩], [], 0) := by
  have h4 : fl 4 4 = true := by decide
  have h2 : fl 4 2 = false := by decide
  have hm := ((Lg.sp_ok h he).at k).may
  unfold frM
  rw [show (wg ((l.nx k + off) % 4294967296) 0 4).f = 4 from rfl, h2, h4, rst_bad h k ho, overL_rst hm]
  simp only [Bool.false_eq_true, if_false, ne_eq, not_true, if_true]
  rfl
end Go.Proofs.Ytgbbpibcmpeneaa
namespace Go.Proofs.Ytgbbpibcmpeneaa
set_option maxRecDepth 200000
open Go Go.Cul
set_option linter.unusedVariables false

theorem toldG_ok {x : Sp} (h : x.ok) (k : Bool) {n f wn : Int} (hn : 0 ≤ n ∧ n ≤ 4294967295) (hf : 0 ≤ f ∧ f ≤ 255) (hw : 0 ≤ wn ∧ wn ≤ 65535) : (toldG x k n f wn).ok := by
  have h1 := (h.at k).lo
  have h2 := (h.at k).re
  unfold toldG
  refine ⟨h1, h2, hn, ?_, hf, hw, (by show (0 : Int) ≤ 0 ∧ (0 : Int) ≤ 65535; decide), (fun o h => by cases h), (fun o h => by cases h)⟩
  show 0 ≤ ((x.at (!k)).ac - (x.at k).ov.sq) % 4294967296 ∧ ((x.at (!k)).ac - (x.at k).ov.sq) % 4294967296 ≤ 4294967295
  omega
theorem updG_ok {x : Sp} (h : x.ok) (k : Bool) : (updG x k).ok := by
  unfold updG
  exact toldG_ok h k (by omega) (by decide) (wndE_bd (h.at _))
theorem rstG_ok {x : Sp} (h : x.ok) (k : Bool) : (rstG x k).ok := by
  unfold rstG
  exact toldG_ok h k (h.at k).ac (by decide) (by decide)
theorem OkL.two {a b : Sg} (ha : a.ok) (hb : b.ok) : OkL [a, b] := by
  intro g hg
  rcases List.mem_cons.1 hg with rfl | hg
  · exact ha
  rcases List.mem_cons.1 hg with rfl | hg
  · exact hb
  cases hg
theorem OkL.nil : OkL [] := fun g h => by cases h

def Sp.mir (x : Sp) : Sp := ⟨x.s, x.c, x.rs, x.md⟩
theorem mir_mir (x : Sp) : x.mir.mir = x := rfl
theorem mir_at (x : Sp) (k : Bool) : x.mir.at (!k) = x.at k := by cases k <;> rfl
theorem mir_at' (x : Sp) (k : Bool) : x.mir.at k = x.at (!k) := by cases k <;> rfl
theorem mir_ok {x : Sp} (h : x.ok) : x.mir.ok := ⟨h.s, h.c, h.md⟩
theorem mir_put (x : Sp) (k : Bool) (e : En) : x.mir.put (!k) e = (x.put k e).mir := by cases k <;> rfl
theorem mir_told (x : Sp) (k : Bool) (n f wn : Int) : toldG x.mir (!k) n f wn = toldG x k n f wn := by cases k <;> rfl
theorem mir_wnd (x : Sp) (k : Bool) : x.mir.wnd (!k) = x.wnd k := by cases k <;> rfl
theorem mir_upd (x : Sp) (k : Bool) : updG x.mir (!k) = updG x k := by cases k <;> rfl
theorem mir_rst (x : Sp) (k : Bool) : rstG x.mir (!k) = rstG x k := by cases k <;> rfl
theorem mir_clo (x : Sp) (k : Bool) : x.mir.clo (!k) = x.clo k := by cases k <;> rfl
theorem mir_state (x : Sp) : x.mir.state = x.state := by
  have h1 : x.mir.clo true = x.clo false := mir_clo x false
  have h2 : x.mir.clo false = x.clo true := mir_clo x true
  unfold Sp.state
  rw [h1, h2, Bool.and_comm]
  rfl
theorem mir_bad (x : Sp) (k : Bool) (g : Sg) : frBad x.mir (!k) g = frBad x k g := by cases k <;> rfl
theorem frM_mir (x : Sp) (k : Bool) (g : Sg) : frM x.mir (!k) g = ((frM x k g).1.mir, (frM x k g).2.1, (frM x k g).2.2.1, (frM x k g).2.2.2) := by
  unfold frM
  rw [mir_bad, mir_at, mir_wnd, mir_told, mir_put, show x.mir.at (!(!k)) = x.at (!k) from mir_at x (!k)]
  split
  · rfl
  · split
    · rfl
    · split
      · rfl
      · split <;> rfl

/-- The legs the other way round, of which nothing was taken. -/
def Lg.none (l : Lg) : Lg := { l with n := 0 }
def Lg.mir (l : Lg) : Lg := ⟨l.s, l.c, l.ss, l.cs, 0⟩
theorem Lg.none_ok {l : Lg} (h : l.ok) : l.none.ok := ⟨h.c, h.s, h.cs, h.ss, by show (-9223372036854775808 : Int) ≤ 0 ∧ (0 : Int) ≤ 9223372036854775807; decide⟩
theorem Lg.mir_ok {l : Lg} (h : l.ok) : l.mir.ok := ⟨h.s, h.c, h.ss, h.cs, by show (-9223372036854775808 : Int) ≤ 0 ∧ (0 : Int) ≤ 9223372036854775807; decide⟩
theorem Lg.mir_err (l : Lg) : l.mir.err = l.none.err := by
  unfold Lg.err nwE Lg.mir Lg.none
  dsimp only
  rw [Bool.and_comm l.s.sack l.c.sack]
  cases (nwSh l.c l.s l.ss.sc (l.c.sack && l.s.sack)).may <;> cases (nwSh l.s l.c l.cs.sc (l.c.sack && l.s.sack)).may <;> rfl
theorem Lg.mir_sp (l : Lg) : l.mir.sp = l.none.sp.mir := by
  unfold Lg.sp nwSp Lg.mir Lg.none Sp.mir
  dsimp only
  rw [Bool.and_comm l.s.sack l.c.sack, Int.add_zero, Int.add_zero]
  simp only [Int.add_zero]
theorem pieceF_bd {s : Sg} (hf : 0 ≤ s.f ∧ s.f ≤ 255) (fr n : Nat) : 0 ≤ pieceF s fr n ∧ pieceF s fr n ≤ 255 := by
  unfold pieceF clr32 clr9
  split <;> split <;> omega
theorem pieceAt_ok {s : Sg} (h : s.ok) (size i : Nat) : (pieceAt s size i).ok := by
  have hu := h.urg
  unfold pieceAt pieceS
  refine ⟨h.sp, h.dp, ?_, h.ack, pieceF_bd h.f _ _, h.win, ?_, (fun o ho => h.os o (List.mem_filter.1 ho).1), (fun y hy => h.data y (List.mem_of_mem_drop (List.mem_of_mem_take hy)))⟩
  · dsimp only; omega
  · dsimp only; unfold pieceU; split <;> omega
theorem overL_ok {x : Shf} {g : Sg} (h : g.ok) : OkL (overL x g).1 := by
  unfold overL
  split
  · exact OkL.nil
  · split
    · exact OkL.nil
    · intro y hy
      obtain ⟨i, -, rfl⟩ := List.mem_map.1 hy
      exact pieceAt_ok (overS_ok h) _ _
theorem port_ok {e : En} (he : e.ok) {g : Sg} (h : g.ok) : (port e g).ok := ⟨he.lo, he.re, h.seq, h.ack, h.f, h.win, h.urg, h.os, h.data⟩
theorem portL_ok {e : En} (he : e.ok) {L : List Sg} (h : OkL L) : OkL (L.map (port e)) := fun y hy => by
  obtain ⟨g, hg, rfl⟩ := List.mem_map.1 hy
  exact port_ok he (h g hg)
theorem frM_okL {x : Sp} (h : x.ok) (k : Bool) {g : Sg} (hg : g.ok) : OkL (frM x k g).2.1 ∧ OkL (frM x k g).2.2.1 ∧ (frM x k g).2.1.length ≤ g.data.length + 1 ∧ (frM x k g).2.2.1.length ≤ 1 := by
  have h1 := portL_ok (h.at (!k)) (overL_ok (x := (x.at k).ov) hg)
  have h2 := overL_len (x.at k).ov g
  have h3 : OkL [toldG x k (x.at k).ac 16 (x.wnd k)] := fun y hy => by
    rcases List.mem_cons.1 hy with rfl | hy
    · exact toldG_ok h k (h.at k).ac (by decide) (wndE_bd (h.at _))
    · cases hy
  unfold frM
  split
  · exact ⟨OkL.nil, h3, Nat.zero_le _, Nat.le_refl _⟩
  · split
    · exact ⟨OkL.nil, OkL.nil, Nat.zero_le _, Nat.zero_le _⟩
    · split
      · exact ⟨OkL.nil, OkL.nil, Nat.zero_le _, Nat.zero_le _⟩
      · split
        · exact ⟨h1, OkL.nil, by simpa using h2, Nat.zero_le _⟩
        · exact ⟨h1, OkL.nil, by simpa using h2, Nat.zero_le _⟩
theorem flat_few : ∀ {os : List Op1}, os.any badO = false → os.length ≤ (flat os).length ∧ ∀ o ∈ os, o.2.length ≤ 38
  | [], _ => ⟨Nat.zero_le _, fun o h => by cases h⟩
  | o :: os, h => by
    simp only [List.any_cons, Bool.or_eq_false_iff] at h
    have ih := flat_few h.2
    have h38 : o.2.length ≤ 38 := by have := h.1; unfold badO at this; simp at this; omega
    refine ⟨?_, fun y hy => ?_⟩
    · rw [flat_cons, List.length_append, ob_len, List.length_cons]; omega
    · rcases List.mem_cons.1 hy with rfl | hy
      · exact h38
      · exact ih.2 y hy
theorem tmay_few {g : Sg} (h : tmay g = true) : g.os.length ≤ 50000 ∧ (∀ o ∈ g.os, o.2.length ≤ 1000000) ∧ g.data.length ≤ 1000000 := by
  unfold tmay at h
  simp only [Bool.and_eq_true, decide_eq_true_eq] at h
  obtain ⟨h1, h2⟩ := h
  unfold oput at h1
  split at h1
  · cases h1
  · rename_i hb
    split at h1
    · cases h1
    · have hf := flat_few (by simpa using hb : g.os.any badO = false)
      exact ⟨by omega, fun o ho => Nat.le_trans (hf.2 o ho) (by decide), by omega⟩
end Go.Proofs.Ytgbbpibcmpeneaa
namespace Go.Proofs.Ytgbbpibcmpeneaa
set_option maxRecDepth 200000
open Go.ChangeShapes Go.WideShapes Go.ChangeAt Go.RowKit Go.Cul Go.Loose
set_option linter.unusedVariables false

/-- The number of the function that an end's segments are handed to. -/
def sendF (k : Bool) : FuncId := if k then 12 else 11
theorem send_enter (k : Bool) : ∀ (args : Array Value) (w : World), (callFunc (sendF k) args).run Try.prog w = .ok (.enter (sendF k) args) w := by
  cases k
  · exact fun args w => (show (callFunc 11 args).run Try.prog w = .ok (.enter 11 args) w by simp [go_sem])
  · exact fun args w => (show (callFunc 12 args).run Try.prog w = .ok (.enter 12 args) w by simp [go_sem])
theorem send_any {x y : Sp} {g : Sg} {U V : List Sg} {E : Int} (k : Bool) (he : frM x k g = (y, U, V, E)) (b : Nat) (vo vd : Value) (w : World) (hx : x.ok) (hg : g.ok) (h : SpAt w b x) (hvo : RdO w vo g.os) (hvd : Rd .u8 w vd g.data) (hf : g.os.length ≤ 50000 ∧ (∀ o ∈ g.os, o.2.length ≤ 1000000) ∧ g.data.length ≤ 1000000) :
    Calls Try.prog (sendF k) #[spp b, .agg (g.cells vo vd)] w fun e w' => ∃ a1 c1 a2 c2, e = .returned (.tuple #[.slice a1 U.length c1, .slice a2 V.length c2, .int .i64 E]) ∧ FrS w' w.heap.size (.slice a1 U.length c1) U ∧ FrS w' w.heap.size (.slice a2 V.length c2) V ∧ SpAt w' b y ∧ Mvs (fun j => j = b) w w' := by
  have key : Calls Try.prog (sendF k) #[spp b, .agg (g.cells vo vd)] w fun e w' => ∃ u v, e = .returned (.tuple #[u, v, .int .i64 (frM x k g).2.2.2]) ∧ FrS w' w.heap.size u (frM x k g).2.1 ∧ FrS w' w.heap.size v (frM x k g).2.2.1 ∧ SpAt w' b (frM x k g).1 ∧ Mvs (fun j => j = b) w w' := by
    cases k
    · exact fromc_any b x g vo vd w hx hg h hvo hvd hf.1 hf.2.1 hf.2.2
    · exact froms_any b x g vo vd w hx hg h hvo hvd hf.1 hf.2.1 hf.2.2
  rw [he] at key
  refine key.mono ?_
  rintro e w' ⟨u, v, rfl, h1, h2, h3, h4⟩
  obtain ⟨a1, c1, rfl, -⟩ := h1.shape
  obtain ⟨a2, c2, rfl, -⟩ := h2.shape
  exact ⟨a1, c1, a2, c2, rfl, h1, h2, h3, h4⟩
end Go.Proofs.Ytgbbpibcmpeneaa
namespace Go.Proofs.Ytgbbpibcmpeneaa
set_option maxRecDepth 200000
open Go Go.Cul
set_option linter.unusedVariables false

def stG (q a f wn : Int) (d : List Int) : Sg := ⟨1, 2, q, a, f, wn, 0, [], d⟩
def upd {α : Type} (f : Bool → α) (k : Bool) (v : α) : Bool → α := fun j => if j = k then v else f j
theorem upd_at {α : Type} (f : Bool → α) (k : Bool) (v : α) : upd f k v k = v := by unfold upd; rw [if_pos rfl]
theorem upd_not {α : Type} (f : Bool → α) (k : Bool) (v : α) : upd f k v (!k) = f (!k) := by unfold upd; rw [if_neg (by cases k <;> decide)]
theorem upd_not' {α : Type} (f : Bool → α) (k : Bool) (v : α) : upd f (!k) v k = f k := by unfold upd; rw [if_neg (by cases k <;> decide)]

theorem sLess_off (F : Int) {a b : Int} (ha : 0 ≤ a ∧ a ≤ 100000) (hb : 0 ≤ b ∧ b ≤ 100000) : sLess ((F + a) % 4294967296) ((F + b) % 4294967296) = decide (a < b) := by
  unfold sLess
  have e : ((F + b) % 4294967296 - (F + a) % 4294967296) % 4294967296 = (b - a) % 4294967296 := by omega
  rw [e]
  rw [decide_eq_decide]
  omega

/-- Where the streams over a splice stand: S the streams, go how much of each was acknowledged, hi how much was sent, fi is it ended. -/
structure Stm (l : Lg) (S : Bool → List Int) (go hi : Bool → Nat) (fi : Bool → Bool) (x : Sp) : Prop where
  ok : x.ok
  rs : x.rs = false
  ov : ∀ k, (x.at k).ov = (l.sp.at k).ov
  se : ∀ k, (x.at k).se = (l.nx k + hi k) % 4294967296
  ac : ∀ k, (x.at k).ac = (l.nx (!k) + (l.sp.at (!k)).ov.sq + go (!k)) % 4294967296
  en : ∀ k, (x.at k).en = fi k
  fn : ∀ k, fi k = true → (x.at k).fi = (l.nx k + (S k).length) % 4294967296
  hb : ∀ k, hi k ≤ (S k).length + 1
  gb : ∀ k, go k ≤ 301
  hl : ∀ k, (S k).length ≤ 300

theorem stm_new {l : Lg} (h : l.ok) (he : l.err = false) {S : Bool → List Int} (hS : ∀ k, (S k).length ≤ 300) : Stm l S (fun _ => 0) (fun _ => 0) (fun _ => false) l.sp := by
  refine ⟨Lg.sp_ok h he, rfl, fun k => rfl, fun k => ?_, fun k => ?_, fun k => ?_, (fun k hk => by cases hk), (fun k => Nat.zero_le _), (fun k => Nat.zero_le _), hS⟩
  · cases k
    · show (l.c.irs + 1 + l.n) % 4294967296 = (l.c.irs + 1 + l.n + 0) % 4294967296; omega
    · show (l.s.irs + 1) % 4294967296 = (l.s.irs + 1 + 0) % 4294967296; omega
  · cases k
    · show (l.c.iss + 1) % 4294967296 = (l.s.irs + 1 + (l.c.iss - l.s.irs) % 4294967296 + 0) % 4294967296; omega
    · show (l.s.iss + 1 + l.n) % 4294967296 = (l.c.irs + 1 + l.n + (l.s.iss - l.c.irs) % 4294967296 + 0) % 4294967296; omega
  · cases k <;> rfl
theorem sq_ak (l : Lg) (k : Bool) : ((l.sp.at k).ov.sq + (l.sp.at (!k)).ov.ak) % 4294967296 = 0 := by
  cases k
  · show ((l.s.iss - l.c.irs) % 4294967296 + (l.c.irs - l.s.iss) % 4294967296) % 4294967296 = 0; omega
  · show ((l.c.iss - l.s.irs) % 4294967296 + (l.s.irs - l.c.iss) % 4294967296) % 4294967296 = 0; omega

/-- What State tells of it. -/
theorem stm_state {l : Lg} {S : Bool → List Int} {go hi : Bool → Nat} {fi : Bool → Bool} {x : Sp} (h : Stm l S go hi fi x) :
    x.state = if fi false && fi true && decide ((S false).length + 1 ≤ go false) && decide ((S true).length + 1 ≤ go true) then 1 else 0 := by
  have key : ∀ k, x.clo k = (fi k && decide ((S k).length + 1 ≤ go k)) := fun k => by
    unfold Sp.clo
    rw [h.en k]
    cases hf : fi k
    · rfl
    · have e1 : (x.at (!k)).ac = (l.nx k + (l.sp.at k).ov.sq + go k) % 4294967296 := by have := h.ac (!k); rwa [Bool.not_not] at this
      have e2 := h.fn k hf
      have h1 := h.gb k
      have h2 := h.hl k
      rw [e1, e2, h.ov k]
      have e3 : ((l.nx k + ((S k).length : Int)) % 4294967296 + 1 + (l.sp.at k).ov.sq) % 4294967296 = (l.nx k + (l.sp.at k).ov.sq + ((S k).length + 1 : Int)) % 4294967296 := by omega
      rw [e3, sLess_off _ (by omega) (by omega)]
      rw [Bool.true_and, Bool.true_and, Bool.eq_iff_iff]
      simp only [Bool.not_eq_true', decide_eq_false_iff_not, decide_eq_true_eq]
      omega
  unfold Sp.state
  rw [h.ok.md, h.rs, key, key]
  cases fi false <;> cases fi true <;> cases decide ((S false).length + 1 ≤ go false) <;> cases decide ((S true).length + 1 ≤ go true) <;> rfl

def strF (b : Bool) : Int := if b then 17 else 16
theorem strF_bd (b : Bool) : 0 ≤ strF b ∧ strF b ≤ 255 := by cases b <;> decide
/-- What goes over. -/
def strL (l : Lg) (x : Sp) (k : Bool) (g : Sg) : List Sg := (overL (l.sp.at k).ov g).1.map (port (x.at (!k)))
theorem str_over {v : Shf} (hm : v.may = true) (q a wn : Int) (b : Bool) (d : List Int) : (overL v (stG q a (strF b) wn d)).2 = 0 := by
  have h1 : (oput []).2 = 0 := by decide
  have h2 : fl (strF b) 2 = false := by cases b <;> decide
  unfold overL stG
  dsimp only
  rw [if_neg (by rw [h1, hm]; simp), h2]
  rfl

/-- A piece of a stream, from an end. -/
theorem stm_round {l : Lg} {S : Bool → List Int} {go hi : Bool → Nat} {fi : Bool → Bool} {x : Sp} (h : Stm l S go hi fi x) (k : Bool) {fr te ak : Nat} {b : Bool} {wn : Int} (h1 : fr ≤ te) (h2 : te ≤ (S k).length) (ha : ak ≤ hi (!k))
    (hb : b = true → te = (S k).length) (hw : 0 ≤ wn ∧ wn ≤ 65535) (hS : Byt (S k)) {g : Sg} (hg : g = stG ((l.nx k + fr) % 4294967296) ((l.nx (!k) + ak + (l.sp.at (!k)).ov.sq) % 4294967296) (strF b) wn (((S k).drop fr).take (te - fr))) :
    ∃ y, frM x k g = (y, strL l x k g, [], 0) ∧ g.ok ∧ Stm l S (upd go (!k) (max (go (!k)) ak)) (upd hi k (if b then (S k).length + 1 else max (hi k) te)) (upd fi k (fi k || b)) y := by
  have hl := h.hl k
  have hb1 := h.hb k
  have hb2 := h.hb (!k)
  have hl2 := h.hl (!k)
  have hgb := h.gb (!k)
  have hdl : (((S k).drop fr).take (te - fr)).length = te - fr := by rw [List.length_take, List.length_drop]; omega
  have hgo : g.ok := by
    rw [hg]
    refine ⟨(by decide : (0 : Int) ≤ 1 ∧ (1 : Int) ≤ 65535), (by decide : (0 : Int) ≤ 2 ∧ (2 : Int) ≤ 65535), ?_, ?_, strF_bd b, hw, (by decide : (0 : Int) ≤ 0 ∧ (0 : Int) ≤ 65535), (fun o ho => by cases ho), ?_⟩
    · show 0 ≤ (l.nx k + fr) % 4294967296 ∧ (l.nx k + fr) % 4294967296 ≤ 4294967295; omega
    · show 0 ≤ (l.nx (!k) + ak + (l.sp.at (!k)).ov.sq) % 4294967296 ∧ (l.nx (!k) + ak + (l.sp.at (!k)).ov.sq) % 4294967296 ≤ 4294967295; omega
    · exact fun y hy => hS y (List.mem_of_mem_drop (List.mem_of_mem_take hy))
  have f2 : fl (strF b) 2 = false := by cases b <;> decide
  have f4 : fl (strF b) 4 = false := by cases b <;> decide
  have f16 : fl (strF b) 16 = true := by cases b <;> decide
  have f1 : fl (strF b) 1 = b := by cases b <;> decide
  have gf : g.f = strF b := by rw [hg]; rfl
  have gs : g.seq = (l.nx k + fr) % 4294967296 := by rw [hg]; rfl
  have ga : g.ack = (l.nx (!k) + ak + (l.sp.at (!k)).ov.sq) % 4294967296 := by rw [hg]; rfl
  have gd : g.data.length = te - fr := by rw [hg]; exact hdl
  -- what is behind it
  obtain ⟨be, hbe⟩ : ∃ be : Nat, be = if b then te + 1 else te := ⟨_, rfl⟩
  have hbeb : be ≤ (S k).length + 1 := by rw [hbe]; split <;> omega
  have hbh : frBh g = (l.nx k + (be : Int)) % 4294967296 := by
    unfold frBh sLen
    rw [gd, gf, gs, f2, f1, hbe]
    cases b <;> simp <;> omega
  have hbad : frBad x k g = false := by
    unfold frBad
    rw [gf, f4, f16]
    simp only [Bool.false_eq_true, if_false, Bool.not_true, Bool.false_or]
    have e1 : frAk x k g = (l.nx (!k) + (ak : Int)) % 4294967296 := by
      unfold frAk
      have := sq_ak l (!k)
      rw [Bool.not_not] at this
      rw [ga, h.ov k]
      omega
    rw [e1, h.se (!k), sLess_off _ (by omega) (by omega), hbh]
    rw [Bool.or_eq_false_iff]
    refine ⟨decide_eq_false (by omega), ?_⟩
    rw [h.en k]
    cases hf : fi k
    · rfl
    · rw [h.fn k hf, show ((l.nx k + ((S k).length : Int)) % 4294967296 + 1) % 4294967296 = (l.nx k + ((S k).length + 1 : Int)) % 4294967296 from by omega, sLess_off _ (by omega) (by omega), Bool.true_and]
      exact decide_eq_false (by omega)
  have hov : (overL (x.at k).ov g).2 = 0 := by
    rw [hg]
    exact str_over (h.ok.at k).may _ _ _ _ _
  have hM : frM x k g = (x.put k (knows (x.at k) g (frBh g)), strL l x k g, [], 0) := by
    unfold frM
    rw [gf, f2, hbad, hov, f4]
    simp only [Bool.false_eq_true, if_false, ne_eq, not_true]
    unfold strL
    rw [h.ov k]
  refine ⟨_, hM, hgo, ?_⟩
  have hyo : (x.put k (knows (x.at k) g (frBh g))).ok := by have := frM_ok h.ok k hgo; rw [hM] at this; exact this
  -- the end's new values
  have hA : ∃ wi, knA (x.at k) g = { x.at k with ac := (l.nx (!k) + (l.sp.at (!k)).ov.sq + ((max (go (!k)) ak : Nat) : Int)) % 4294967296, wi := wi } := by
    have e0 := h.ac k
    unfold knA
    have e1 : g.ack = (l.nx (!k) + (l.sp.at (!k)).ov.sq + (ak : Int)) % 4294967296 := by rw [ga]; omega
    rw [e1, e0, sLess_off _ (by omega) (by omega)]
    by_cases hq : (ak : Int) < (go (!k) : Int)
    · rw [if_pos (by simpa using hq)]
      refine ⟨(x.at k).wi, ?_⟩
      rw [Nat.max_eq_left (by omega), ← e0]
    · rw [if_neg (by simpa using hq)]
      refine ⟨g.win * 2 ^ (x.at k).ov.fr.toNat, ?_⟩
      rw [Nat.max_eq_right (by omega)]
  obtain ⟨wi, hA⟩ := hA
  have hK : ∃ wi f, knows (x.at k) g (frBh g) = { x.at k with ac := (l.nx (!k) + (l.sp.at (!k)).ov.sq + ((max (go (!k)) ak : Nat) : Int)) % 4294967296, wi := wi, se := (l.nx k + ((max (hi k) be : Nat) : Int)) % 4294967296, en := fi k || b, fi := f } ∧ ((fi k || b) = true → f = (l.nx k + (S k).length) % 4294967296) := by
    unfold knows
    rw [hA]
    unfold knB
    dsimp only
    rw [h.se k, hbh, sLess_off _ (by omega) (by omega)]
    have hse : (if decide ((hi k : Int) < (be : Int)) = true then (l.nx k + (be : Int)) % 4294967296 else (l.nx k + (hi k : Int)) % 4294967296) = (l.nx k + ((max (hi k) be : Nat) : Int)) % 4294967296 := by
      by_cases hq : (hi k : Int) < (be : Int)
      · rw [if_pos (by simpa using hq), Nat.max_eq_right (by omega)]
      · rw [if_neg (by simpa using hq), Nat.max_eq_left (by omega)]
    rw [hse]
    unfold knC
    rw [gf, f1, gs, gd]
    cases hbb : b
    · rw [if_neg (by decide), Bool.or_false]
      refine ⟨wi, (x.at k).fi, ?_, fun hf => h.fn k hf⟩
      rw [← h.en k]
    · rw [if_pos rfl, Bool.or_true]
      refine ⟨wi, _, rfl, fun _ => ?_⟩
      have := hb hbb
      omega
  obtain ⟨wi', f, hK, hf⟩ := hK
  rw [hK] at hyo ⊢
  have hmax : (if b then (S k).length + 1 else max (hi k) te) = max (hi k) be := by
    cases hbb : b
    · rw [hbe, hbb]; rfl
    · have := hb hbb
      rw [hbe, hbb, if_pos rfl, if_pos rfl]
      omega
  rw [hmax]
  have split : ∀ (p : Bool → Prop), p k → p (!k) → ∀ j, p j := fun p h1 h2 j => by
    cases k <;> cases j <;> assumption
  refine ⟨hyo, by cases k <;> exact h.rs, ?_, ?_, ?_, ?_, ?_, ?_, ?_, h.hl⟩
  · refine split _ ?_ ?_
    · rw [Sp.at_put]; exact h.ov k
    · rw [Sp.at_put_not]; exact h.ov _
  · refine split _ ?_ ?_
    · rw [Sp.at_put, upd_at]
    · rw [Sp.at_put_not, upd_not]; exact h.se _
  · refine split _ ?_ ?_
    · rw [Sp.at_put, upd_at]
    · rw [Sp.at_put_not, Bool.not_not, upd_not']
      have := h.ac (!k)
      rwa [Bool.not_not] at this
  · refine split _ ?_ ?_
    · rw [Sp.at_put, upd_at]
    · rw [Sp.at_put_not, upd_not]; exact h.en _
  · refine split _ ?_ ?_
    · rw [Sp.at_put, upd_at]; exact hf
    · rw [Sp.at_put_not, upd_not]; exact h.fn _
  · refine split _ ?_ ?_
    · rw [upd_at]; omega
    · rw [upd_not]; exact h.hb _
  · refine split _ ?_ ?_
    · rw [upd_not']; exact h.gb _
    · rw [upd_at]; omega

/-- The size of pieces. -/
def Shf.nN (v : Shf) : Nat := v.mss.toNat
theorem nN_bd {v : Shf} (hm : v.may = true) : 1 ≤ v.nN ∧ v.nN ≤ 1460 ∧ v.mss = (v.nN : Int) := by
  unfold Shf.may at hm
  simp only [Bool.and_eq_true, decide_eq_true_eq] at hm
  unfold Shf.nN
  omega
/-- One piece of a stream's segment. -/
def stP (v : Shf) (q a : Int) (b : Bool) (wn : Int) (d : List Int) (i : Nat) : Sg :=
  ⟨1, 2, (q + v.sq + ((i * v.nN : Nat) : Int)) % 4294967296, (a + v.ak) % 4294967296, if i * v.nN + min v.nN (d.length - i * v.nN) < d.length then 16 else strF b, v.win wn, 0, [], (d.drop (i * v.nN)).take (min v.nN (d.length - i * v.nN))⟩
theorem str_pieces {v : Shf} (hm : v.may = true) (q a wn : Int) (b : Bool) (d : List Int) : (overL v (stG q a (strF b) wn d)).1 = (List.range (cnt d.length v.nN)).map (stP v q a b wn d) := by
  have h1 : (oput []).2 = 0 := by decide
  have h0 : (oput []).1.length = 0 := by decide
  have h2 : fl (strF b) 2 = false := by cases b <;> decide
  have h16 : fl (strF b) 16 = true := by cases b <;> decide
  have hs : sov v [] = [] := rfl
  obtain ⟨n1, n2, n3⟩ := nN_bd hm
  have hN : overN v (stG q a (strF b) wn d) = v.nN := by
    unfold overN stG
    dsimp only
    rw [hs, h0, if_neg (by omega)]
    unfold Shf.nN
    congr 1
    omega
  unfold overL
  rw [hN]
  unfold stG
  dsimp only
  rw [if_neg (by rw [h1, hm]; simp), h2]
  simp only [Bool.false_eq_true, if_false]
  apply List.map_congr_left
  intro i _
  have eS : overS v ⟨1, 2, q, a, strF b, wn, 0, [], d⟩ = ⟨1, 2, (q + v.sq) % 4294967296, (a + v.ak) % 4294967296, strF b, v.win wn, 0, [], d⟩ := by
    unfold overS
    dsimp only
    rw [h16, hs, if_pos rfl]
  rw [eS]
  have hu : ∀ fr : Nat, pieceU 0 fr = 0 := fun fr => by unfold pieceU; split <;> omega
  have hF : ∀ fr n : Nat, pieceF ⟨1, 2, (q + v.sq) % 4294967296, (a + v.ak) % 4294967296, strF b, v.win wn, 0, [], d⟩ fr n = if fr + n < d.length then 16 else strF b := fun fr n => by
    unfold pieceF
    dsimp only
    rw [hu]
    cases b <;> (split <;> split <;> rfl)
  unfold pieceAt pieceS stP
  rw [hF]
  dsimp only
  rw [hu]
  have e3 : ((q + v.sq) % 4294967296 + ((i * v.nN : Nat) : Int)) % 4294967296 = (q + v.sq + ((i * v.nN : Nat) : Int)) % 4294967296 := by omega
  rw [e3]
  rfl
theorem cnt_end {len N : Nat} (hN : 1 ≤ N) : len ≤ cnt len N * N := by
  unfold cnt
  split
  · omega
  · have h := Nat.lt_div_mul_add (a := len + N - 1) (b := N) (by omega)
    omega
theorem str_len (l : Lg) {x : Sp} (k : Bool) (hm : (l.sp.at k).ov.may = true) (q a wn : Int) (b : Bool) (d : List Int) : (strL l x k (stG q a (strF b) wn d)).length = cnt d.length (l.sp.at k).ov.nN := by
  unfold strL
  rw [str_pieces hm]
  simp
theorem str_at (l : Lg) {x : Sp} (k : Bool) (hm : (l.sp.at k).ov.may = true) (q a wn : Int) (b : Bool) (d : List Int) {i : Nat} (hi : i < cnt d.length (l.sp.at k).ov.nN) :
    (strL l x k (stG q a (strF b) wn d)).getD i Sg.none = port (x.at (!k)) (stP (l.sp.at k).ov q a b wn d i) := by
  unfold strL
  rw [str_pieces hm]
  simp [List.getD, hi]
theorem stP_may {v : Shf} (hm : v.may = true) {e : En} {q a wn : Int} {b : Bool} {d : List Int} {i : Nat} : tmay (port e (stP v q a b wn d i)) = true := by
  have h1 : (oput []).2 = 0 := by decide
  have h0 : (oput []).1.length = 0 := by decide
  obtain ⟨n1, n2, n3⟩ := nN_bd hm
  unfold tmay port stP
  dsimp only
  rw [h1, h0, List.length_take]
  simp only [decide_true, Bool.true_and, decide_eq_true_eq]
  omega
/-- With SYN nothing changes. -/
theorem str_syn {l : Lg} {S : Bool → List Int} {go hi : Bool → Nat} {fi : Bool → Bool} {x : Sp} (h : Stm l S go hi fi x) (k : Bool) {g : Sg} (hf : fl g.f 2 = true) : frM x k g = (x, [], [toldG x k (x.at k).ac 16 (x.wnd k)], 0) ∧ (toldG x k (x.at k).ac 16 (x.wnd k)).ack = (l.nx k + go k) % 4294967296 := by
  constructor
  · unfold frM
    rw [hf, if_pos rfl]
  · show ((x.at (!k)).ac - (x.at k).ov.sq) % 4294967296 = _
    rw [h.ov k]
    have e := h.ac (!k)
    rw [Bool.not_not] at e
    rw [e]
    omega
end Go.Proofs.Ytgbbpibcmpeneaa
