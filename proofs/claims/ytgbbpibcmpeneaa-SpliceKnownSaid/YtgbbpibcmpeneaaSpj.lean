/-
  Proved here: what the law's joined and legs compute. Conditions: numbers within their kinds.
-/
import Derived.Test.YtgbbpibcmpeneaaSpn
namespace Go.Proofs.Ytgbbpibcmpeneaa
set_option maxRecDepth 200000
open Go.ChangeShapes Go.WideShapes Go.ChangeAt Go.RowKit Go.Cul Go.Loose
set_option linter.unusedVariables false

/-- Two legs, and how many bytes were taken. -/
structure Lg where
  c : Fa
  s : Fa
  cs : Su
  ss : Su
  n : Int
structure Lg.ok (l : Lg) : Prop where
  c : l.c.ok
  s : l.s.ok
  cs : l.cs.ok
  ss : l.ss.ok
  n : -9223372036854775808 ≤ l.n ∧ l.n ≤ 9223372036854775807
abbrev Lg.cells (l : Lg) : Array Value := #[.int .u32 l.c.iss, .int .u32 l.c.irs, .int .u16 l.c.mss, .int .i64 l.c.sc, .bool l.c.sack, .int .u32 l.c.win,
  .int .u32 l.s.iss, .int .u32 l.s.irs, .int .u16 l.s.mss, .int .i64 l.s.sc, .bool l.s.sack, .int .u32 l.s.win,
  .int .u16 l.cs.lo, .int .u16 l.cs.re, .int .u32 l.cs.iss, .int .u16 l.cs.mss, .int .i64 l.cs.sc, .bool l.cs.sack, .int .i64 l.cs.room, .int .u64 l.cs.rto, .int .i64 l.cs.tries,
  .int .u16 l.ss.lo, .int .u16 l.ss.re, .int .u32 l.ss.iss, .int .u16 l.ss.mss, .int .i64 l.ss.sc, .bool l.ss.sack, .int .i64 l.ss.room, .int .u64 l.ss.rto, .int .i64 l.ss.tries, .int .i64 l.n]
def Lg.err (l : Lg) : Bool := nwE l.c l.s l.cs l.ss l.n
def Lg.sp (l : Lg) : Sp := nwSp l.c l.s l.cs l.ss l.n
theorem Lg.sp_ok {l : Lg} (h : l.ok) (he : l.err = false) : l.sp.ok := nwSp_ok h.c h.s h.cs h.ss he
theorem legs_at {w : World} {b : Nat} {l : Lg} (h : w.heap[b]? = some (.cells l.cells 30)) : w.rangeAt b 0 l.c.cells.toList ∧ w.rangeAt b 6 l.s.cells.toList ∧ w.rangeAt b 12 l.cs.cells.toList ∧ w.rangeAt b 21 l.ss.cells.toList := by
  refine ⟨fun j v hv => ?_, fun j v hv => ?_, fun j v hv => ?_, fun j v hv => ?_⟩
  · have hj : j < 6 := (List.getElem?_eq_some_iff.1 hv).1
    rw [cell_blk h, ← hv]
    rcases (by omega : j = 0 ∨ j = 1 ∨ j = 2 ∨ j = 3 ∨ j = 4 ∨ j = 5) with rfl | rfl | rfl | rfl | rfl | rfl <;> rfl
  · have hj : j < 6 := (List.getElem?_eq_some_iff.1 hv).1
    rw [cell_blk h, ← hv]
    rcases (by omega : j = 0 ∨ j = 1 ∨ j = 2 ∨ j = 3 ∨ j = 4 ∨ j = 5) with rfl | rfl | rfl | rfl | rfl | rfl <;> rfl
  · have hj : j < 9 := (List.getElem?_eq_some_iff.1 hv).1
    rw [cell_blk h, ← hv]
    rcases (by omega : j = 0 ∨ j = 1 ∨ j = 2 ∨ j = 3 ∨ j = 4 ∨ j = 5 ∨ j = 6 ∨ j = 7 ∨ j = 8) with rfl | rfl | rfl | rfl | rfl | rfl | rfl | rfl | rfl <;> rfl
  · have hj : j < 9 := (List.getElem?_eq_some_iff.1 hv).1
    rw [cell_blk h, ← hv]
    rcases (by omega : j = 0 ∨ j = 1 ∨ j = 2 ∨ j = 3 ∨ j = 4 ∨ j = 5 ∨ j = 6 ∨ j = 7 ∨ j = 8) with rfl | rfl | rfl | rfl | rfl | rfl | rfl | rfl | rfl <;> rfl

set_option maxHeartbeats 2000000 in
set_option maxRecDepth 200000 in
theorem joined_any (l : Lg) (w : World) (hl : l.ok) :
    Calls Try.prog 8 #[.agg l.cells] w fun e w' => Ext w w' ∧ ((l.err = true ∧ e = .returned (.tuple #[.pointer none, .int .i64 1])) ∨ (l.err = false ∧ ∃ bb, e = .returned (.tuple #[spp bb, .int .i64 0]) ∧ w.heap.size ≤ bb ∧ SpAt w' bb l.sp)) := by
  have hN := Lib.hid (fun (W : World) => new_any l.c l.s l.cs l.ss l.n W hl.c hl.s hl.cs hl.ss)
  have hE : Hid (l.err = nwE l.c l.s l.cs l.ss l.n) := rfl
  have hS : Hid (l.sp = nwSp l.c l.s l.cs l.ss l.n) := rfl
  clear hl
  generalize l.err = EE at *
  generalize l.sp = SS at *
  generalize hF : (fun (W : World) (k : Nat) => W.heap[k]? = some (.cells l.cells 30)) = F at *
  have HF : Hid (∀ W k, F W k → W.heap[k]? = some (.cells l.cells 30)) := fun W k h => by rw [← hF] at h; exact h
  clear hF
  go_enter Try.func8, Try.ntmps8
  go_upto_region 1 with (fail)
  generalize hW : w.alloc _ = W
  have hxW : Ext w W := by rw [← hW]; exact Ext.new _ _
  have kN : W.heap[w.heap.size]? = some (.cells l.cells 30) := by rw [← hW]; exact heap_alloc_new w _
  clear hW
  obtain ⟨r0, r1, r2, r3⟩ := legs_at kN
  have e30 := cell_blk kN 30
  simp at e30
  clear kN HF
  go_wp2_with (first | (refine wpList_load_mid rfl 25 _ rfl w.heap.size 0 rfl l.c.cells.toList _ r0 Try.underlying25 rfl (by kernel_rfl) ?_) | (refine wpList_load_mid rfl 25 _ rfl w.heap.size 6 rfl l.s.cells.toList _ r1 Try.underlying25 rfl (by kernel_rfl) ?_) | (refine wpList_load_mid rfl 28 _ rfl w.heap.size 12 rfl l.cs.cells.toList _ r2 Try.underlying28 rfl (by kernel_rfl) ?_) | (refine wpList_load_mid rfl 28 _ rfl w.heap.size 21 rfl l.ss.cells.toList _ r3 Try.underlying28 rfl (by kernel_rfl) ?_))
  refine (hN.out W).mono ?_
  rintro e w1 ⟨hx1, h | h⟩
  · obtain ⟨h1, rfl⟩ := h
    have H1 := Lib.hid h1
    clear h1
    go_wp2_with fail
    refine bodyPost_ret (v := .tuple #[.pointer none, .int .i64 1]) (by simp [results, Try.results8, go_sem]) rfl ?_
    exact ⟨hxW.tr hx1, .inl ⟨by rw [hE.out]; exact H1.out, rfl⟩⟩
  · obtain ⟨h1, bb, rfl, h2, h3⟩ := h
    have H1 := Lib.hid h1
    have H3 := Lib.hid h3
    clear h1 h3
    go_wp2_with fail
    refine bodyPost_ret (v := .tuple #[spp bb, .int .i64 0]) (by simp [results, Try.results8, go_sem]) rfl ?_
    exact ⟨hxW.tr hx1, .inr ⟨by rw [hE.out]; exact H1.out, bb, rfl, Nat.le_trans hxW.size h2, by rw [hS.out]; exact H3.out⟩⟩

/-- The chapter's legs. -/
def lgK : Lg := ⟨⟨100, 500, 1000, -1, false, 300⟩, ⟨900, 700, 1000, -1, false, 400⟩, ⟨443, 5, 0, 0, -1, false, 0, 0, 0⟩, ⟨6, 7, 0, 0, -1, false, 0, 0, 0⟩, 10⟩
theorem lgK_ok : lgK.ok := ⟨⟨by decide, by decide, by decide, by decide, by decide⟩, ⟨by decide, by decide, by decide, by decide, by decide⟩, ⟨by decide, by decide, by decide⟩, ⟨by decide, by decide, by decide⟩, by decide⟩
theorem lgK_err : lgK.err = false := by decide +kernel

set_option maxHeartbeats 2000000 in
set_option maxRecDepth 200000 in
theorem legs_any (w : World) : Calls Try.prog 19 #[] w fun e w' => e = .returned (.agg lgK.cells) ∧ Ext w w' := by
  have hone : lgK.cells.all (·.oneCell') = true := by simp [Value.oneCell']
  go_enter Try.func19, Try.ntmps19
  go_wp2_with (first | (refine wpList_build_big 30 lgK.cells _ rfl (by kernel_rfl) ?_) | (refine wpList_store_big 30 lgK.cells rfl rfl (by kernel_rfl) rfl hone ?_))
  refine bodyPost_ret (results_cell Try.results19 _ rfl (load_blk (heap_alloc_new _ _) 30 _ Try.underlying30 rfl (by kernel_rfl))) rfl ?_
  exact ⟨rfl, Ext.new _ _⟩
end Go.Proofs.Ytgbbpibcmpeneaa
