/-
  Proved here: what the document's Same of two rows of segments, and the law's, compute. Conditions: segments whose numbers are within their kinds.
-/
import Derived.Test.YtgbbpibcmpeneaaSpc
import Derived.Test.YtgbbpibcmpeneaaRef6S
namespace Go.Proofs.Ytgbbpibcmpeneaa
set_option maxRecDepth 200000
open Go.ChangeShapes Go.WideShapes Go.ChangeAt Go.RowKit Go.Cul Go.Loose
set_option linter.unusedVariables false
attribute [local go_sem] Loose.Still Loose.Upon Loose.vUpon First.pUpon

/-- A row of segments, as it reads. -/
def RdS (w : World) (v : Value) (L : List Sg) : Prop := ∃ a cap, v = .slice a L.length cap ∧ L.length ≤ cap ∧ cap ≤ maxLen ∧
  (L = [] ∨ ∃ b o, a = some ⟨b, o, none⟩ ∧ ∀ i, i < L.length → ∃ vo vd, w.rangeAt b (o + i * 9) ((L.getD i Sg.none).cells vo vd).toList ∧ RdO w vo (L.getD i Sg.none).os ∧ Rd .u8 w vd (L.getD i Sg.none).data)
theorem RdS.ext {w w' : World} {v : Value} {L : List Sg} (h : RdS w v L) (hx : Ext w w') : RdS w' v L := by
  obtain ⟨a, cap, rfl, h1, h2, h3⟩ := h
  refine ⟨a, cap, rfl, h1, h2, ?_⟩
  rcases h3 with h3 | ⟨b, o, rfl, h3⟩
  · exact .inl h3
  · exact .inr ⟨b, o, rfl, fun i hi => let ⟨vo, vd, q1, q2, q3⟩ := h3 i hi; ⟨vo, vd, range_ext q1 hx, q2.ext hx, q3.ext hx⟩⟩
theorem FrS.rds {w : World} {base : Nat} {v : Value} {L : List Sg} (h : FrS w base v L) : RdS w v L := by
  obtain ⟨a, c, rfl, h1, h2⟩ := h.shape
  refine ⟨a, c, rfl, h1, h2, ?_⟩
  rcases Nat.eq_zero_or_pos L.length with h0 | h0
  · exact .inl (List.eq_nil_of_length_eq_zero h0)
  obtain ⟨g, cap, vo, vd, he, -, -⟩ := h.at (i := 0) h0
  cases he
  refine .inr ⟨g, 0, rfl, fun i hi => ?_⟩
  obtain ⟨g', cap', vo, vd, he, -, h3, h4, h5⟩ := h.at hi
  cases he
  refine ⟨vo, vd, fun j v hv => ?_, h4.rdo, h5.rd⟩
  have hj : j < 9 := (List.getElem?_eq_some_iff.1 hv).1
  rw [Nat.zero_add, h3 j hj]
  exact hv
/-- Two segments without options and data, just built. -/
theorem rds_pair {w : World} {g h : Sg} {B : Nat} (hg : g.os = [] ∧ g.data = []) (hh : h.os = [] ∧ h.data = []) (hB : w.heap.size = B) :
    RdS (w.alloc (.cells #[.int .u16 g.sp, .int .u16 g.dp, .int .u32 g.seq, .int .u32 g.ack, .int .u8 g.f, .int .u16 g.win, .int .u16 g.urg, nos, nos, .int .u16 h.sp, .int .u16 h.dp, .int .u32 h.seq, .int .u32 h.ack, .int .u8 h.f, .int .u16 h.win, .int .u16 h.urg, nos, nos] 51)) (.slice (some ⟨B, 0, none⟩) 2 2) [g, h] := by
  subst hB
  refine ⟨_, _, rfl, Nat.le_refl _, by decide, .inr ⟨w.heap.size, 0, rfl, fun i hi => ?_⟩⟩
  have hi : i < 2 := hi
  rcases (by omega : i = 0 ∨ i = 1) with rfl | rfl
  · refine ⟨nos, nos, fun j v hv => ?_, by show RdO _ _ g.os; rw [hg.1]; exact RdO.nil _, by show Rd _ _ _ g.data; rw [hg.2]; exact Rd.nil _ _⟩
    rw [cell_new, ← hv]
    have hj : j < 9 := (List.getElem?_eq_some_iff.1 hv).1
    rcases (by omega : j = 0 ∨ j = 1 ∨ j = 2 ∨ j = 3 ∨ j = 4 ∨ j = 5 ∨ j = 6 ∨ j = 7 ∨ j = 8) with rfl | rfl | rfl | rfl | rfl | rfl | rfl | rfl | rfl <;> rfl
  · refine ⟨nos, nos, fun j v hv => ?_, by show RdO _ _ h.os; rw [hh.1]; exact RdO.nil _, by show Rd _ _ _ h.data; rw [hh.2]; exact Rd.nil _ _⟩
    rw [cell_new, ← hv]
    have hj : j < 9 := (List.getElem?_eq_some_iff.1 hv).1
    rcases (by omega : j = 0 ∨ j = 1 ∨ j = 2 ∨ j = 3 ∨ j = 4 ∨ j = 5 ∨ j = 6 ∨ j = 7 ∨ j = 8) with rfl | rfl | rfl | rfl | rfl | rfl | rfl | rfl | rfl <;> rfl

/-- Are two rows of segments the same? -/
def sameL (A B : List Sg) : Bool := decide (A.length = B.length) && (List.range A.length).all fun i => tsame (A.getD i Sg.none) (B.getD i Sg.none)
theorem sameL_eq (A : List Sg) : sameL A A = true := by
  unfold sameL
  simp only [decide_true, Bool.true_and, List.all_eq_true]
  intro i _
  exact (tsame_iff _ _).2 rfl
theorem sameL_no {A B : List Sg} {i : Nat} (hl : A.length = B.length) (hi : i < A.length) (h : tsame (A.getD i Sg.none) (B.getD i Sg.none) = false) : sameL A B = false := by
  unfold sameL
  rw [Bool.and_eq_false_iff]
  right
  rw [List.all_eq_false]
  exact ⟨i, List.mem_range.2 hi, by rw [h]; decide⟩
theorem sameL_yes {A B : List Sg} (hl : A.length = B.length) (h : ∀ i, i < A.length → tsame (A.getD i Sg.none) (B.getD i Sg.none) = true) : sameL A B = true := by
  unfold sameL
  rw [Bool.and_eq_true, decide_eq_true_eq, List.all_eq_true]
  exact ⟨hl, fun i hi => h i (List.mem_range.1 hi)⟩
def OkL (A : List Sg) : Prop := ∀ g ∈ A, g.ok
theorem OkL.at {A : List Sg} (h : OkL A) {i : Nat} (hi : i < A.length) : (A.getD i Sg.none).ok := h _ (by simp [List.getD, hi])

set_option maxHeartbeats 4000000 in
set_option maxRecDepth 200000 in
theorem same20_any (A B : List Sg) (va vb : Value) (w : World) (ha : RdS w va A) (hb : RdS w vb B) (hA : OkL A) (hB : OkL B) (hn : A.length ≤ 1000000) :
    Calls Try.prog 30 #[va, vb] w fun e w' => e = .returned (.bool (sameL A B)) ∧ Ext w w' := by
  have hno := Lib.hid (fun (i : Nat) (hl : A.length = B.length) (hi : i < A.length) (h : tsame (A.getD i Sg.none) (B.getD i Sg.none) = false) => sameL_no hl hi h)
  have hyes := Lib.hid (fun (hl : A.length = B.length) (h : ∀ i, i < A.length → tsame (A.getD i Sg.none) (B.getD i Sg.none) = true) => sameL_yes hl h)
  have hlen : Hid (A.length ≠ B.length → sameL A B = false) := fun h => by unfold sameL; simp [h]
  generalize sameL A B = S at *
  obtain ⟨aa, ca, rfl, ha1, ha2, ha3⟩ := ha
  obtain ⟨ab, cb, rfl, hb1, hb2, hb3⟩ := hb
  by_cases hl : A.length = B.length
  rotate_left
  · have hS := Lib.hid (hlen.out hl)
    have hlI : ((A.length : Int) != (B.length : Int)) = true := by simp; omega
    have hlI2 : ¬ ((A.length : Int) = (B.length : Int)) := by omega
    clear hno hyes hlen ha3 hb3
    go_enter Try.func30, Try.ntmps30
    go_wp2_with fail
    go_ret
    exact ⟨by rw [hS.out]; rfl, Ext.rfl' _⟩
  have HL := Lib.hid hl
  rw [← hl] at hb1 ⊢
  have HB3 : Hid (B = [] ∨ ∃ b o, ab = some ⟨b, o, none⟩ ∧ ∀ i, i < A.length → ∃ vo vd, w.rangeAt b (o + i * 9) ((B.getD i Sg.none).cells vo vd).toList ∧ RdO w vo (B.getD i Sg.none).os ∧ Rd .u8 w vd (B.getD i Sg.none).data) := by rw [hl]; exact hb3
  have HA3 := Lib.hid ha3
  have HN := Lib.hid hn
  clear hl ha3 hb3 hlen hn
  go_enter Try.func30, Try.ntmps30
  go_wp2_with fail
  go_loopw [5] (fun iv wr => ∃ i : Nat, i ≤ A.length ∧ iv = .int .i64 i ∧ Ext w wr ∧ ∀ j, j < i → tsame (A.getD j Sg.none) (B.getD j Sg.none) = true) (fun iv _ => A.length - (intOf iv).toNat)
  case atStart => exact ⟨0, Nat.zero_le _, rfl, Ext.rfl' _, fun j hj => by omega⟩
  case round =>
    obtain ⟨i, hi, rfl, hx, ht⟩ := hrel
    by_cases hlt2 : i < A.length
    · have hltI : (i : Int) < (A.length : Int) := by omega
      rcases HA3.out with h0 | ⟨b, o, rfl, hq⟩
      · rw [h0] at hlt2; simp at hlt2
      rcases HB3.out with h0 | ⟨b2, o2, rfl, hq2⟩
      · have := HL.out; rw [h0] at this; simp at this; rw [this] at hlt2; simp at hlt2
      obtain ⟨vo, vd, q1, q2, q3⟩ := hq i hlt2
      obtain ⟨vo2, vd2, r1, r2, r3⟩ := hq2 i hlt2
      have q1 := range_ext q1 hx
      have r1 := range_ext r1 hx
      have hcall := Lib.hid (fun (W : World) (hW : Ext wr W) => r6same_any _ _ vo vd vo2 vd2 W (hA.at hlt2) (hB.at (HL.out ▸ hlt2)) (q2.ext (hx.tr hW)) (q3.ext (hx.tr hW)) (r2.ext (hx.tr hW)) (r3.ext (hx.tr hW)))
      have hno2 := Lib.hid (fun h => hno.out i HL.out hlt2 h)
      clear hq hq2 q2 q3 r2 r3
      generalize hg1 : A.getD i Sg.none = g1 at *
      generalize hg2 : B.getD i Sg.none = g2 at *
      generalize hT : tsame g1 g2 = T at *
      have HT := Lib.hid ht
      have HG1 := Lib.hid hg1
      have HG2 := Lib.hid hg2
      have HTT := Lib.hid hT
      clear ht hg1 hg2 hT hno
      go_upto_region 6 with (fail)
      refine wp_region_grow [(8, Loose.is (.bool T))] (lasts_is lasts_nil) (by kernel_rfl) (by kernel_rfl) ?_
      iterate 3
        apply wpL_none rfl rfl
        · intro w' hw' hn'; go_simp; exact rfl
        intro K hK; go_simp; refine hK _ _ ?_; clear hK K
      apply wpL_none rfl rfl
      · intro w' hw' hn'
        exact still_load 51 _ rfl b _ rfl (g1.cells vo vd) _ (range_ext q1 hw') Try.underlying51 rfl (by kernel_rfl)
      intro K hK; go_simp; refine hK _ _ ?_; clear hK K
      iterate 3
        apply wpL_none rfl rfl
        · intro w' hw' hn'; go_simp; exact rfl
        intro K hK; go_simp; refine hK _ _ ?_; clear hK K
      apply wpL_none rfl rfl
      · intro w' hw' hn'
        exact still_load 51 _ rfl b2 _ rfl (g2.cells vo2 vd2) _ (range_ext r1 hw') Try.underlying51 rfl (by kernel_rfl)
      intro K hK; go_simp; refine hK _ _ ?_; clear hK K
      apply wpL_some rfl rfl
      · intro w' hw' hn'
        go_simp
        refine ⟨Ext.rfl' _, ?_⟩
        refine (hcall.out _ hw').mono ?_
        rintro e w2 ⟨rfl, hx⟩
        exact ⟨_, rfl, hx, rfl⟩
      intro v w' hw' hD' hv
      obtain rfl : v = _ := hv
      clear hw' hD' w'
      intro K hK; go_simp; refine hK _ _ ?_; clear hK K
      iterate 1
        apply wpL_none rfl rfl
        · intro w' hw' hn'; go_simp; exact rfl
        intro K hK; go_simp; refine hK _ _ ?_; clear hK K
      refine wpL_nil ?_
      intro w2 hx2 _
      have hx2 := hx.tr hx2
      cases T
      · go_wp2_with fail
        go_ret
        exact ⟨by rw [hno2.out (by first | rfl | trivial)]; rfl, hx2⟩
      · go_wp2_with fail
        go_roundw
        case rel => exact ⟨i + 1, hlt2, congrArg _ (wrap64_nat hlt2 (Nat.le_succ_of_le HN.out)), hx2, fun j hj => by
          rcases (by omega : j < i ∨ j = i) with h | rfl
          · exact HT.out j h
          · rw [HG1.out, HG2.out]; exact HTT.out⟩
        case measure => exact meas_nat hlt2 (Nat.le_succ_of_le HN.out)
    · obtain rfl : i = A.length := by omega
      have hS := Lib.hid (hyes.out HL.out ht)
      clear ht hno hyes
      go_wp2_with fail
      go_ret
      exact ⟨by rw [hS.out]; rfl, hx⟩

theorem same26_any (A B : List Sg) (va vb : Value) (w : World) (ha : RdS w va A) (hb : RdS w vb B) (hA : OkL A) (hB : OkL B) (hn : A.length ≤ 1000000) :
    Calls Try.prog 17 #[va, vb] w fun e w' => e = .returned (.bool (sameL A B)) ∧ Ext w w' := by
  have hF := Lib.hid (same20_any A B va vb w ha hb hA hB hn)
  obtain ⟨a, c, rfl, -⟩ := id ha
  obtain ⟨a2, c2, rfl, -⟩ := id hb
  generalize sameL A B = S at *
  clear ha hb hA hB hn
  go_enter Try.func17, Try.ntmps17
  go_wp2_with fail
  refine hF.out.mono ?_
  rintro e w1 ⟨rfl, hx⟩
  go_wp2_with fail
  go_ret
  exact ⟨rfl, hx⟩
end Go.Proofs.Ytgbbpibcmpeneaa
