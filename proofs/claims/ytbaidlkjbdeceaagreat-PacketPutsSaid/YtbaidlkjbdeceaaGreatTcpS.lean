/-
  Proved here: what tcp.Same and tcp.May compute. Condition: numbers within their kinds.
-/
import Derived.Test.YtbaidlkjbdeceaaGreatTcpW
import Derived.Test.YtbaidlkjbdeceaaGreatOptsS
import Derived.Deep.Cut
namespace Go.Proofs.YtbaidlkjbdeceaaGreat
set_option maxRecDepth 200000
open Go.ChangeShapes Go.WideShapes Go.ChangeAt Go.RowKit Go.Cul Go.Loose
set_option linter.unusedVariables false

def tsame (g h : Sg) : Bool := (g.sp == h.sp) && (g.dp == h.dp) && ((g.seq == h.seq) && (g.ack == h.ack) && (g.f == h.f) && (g.win == h.win) && (g.urg == h.urg)) && decide (g.os = h.os) && decide (g.data = h.data)
theorem tsame_iff (g h : Sg) : tsame g h = true ↔ g = h := by
  obtain ⟨a1, a2, a3, a4, a5, a6, a7, a8, a9⟩ := g
  obtain ⟨b1, b2, b3, b4, b5, b6, b7, b8, b9⟩ := h
  unfold tsame
  simp only [Bool.and_eq_true, beq_iff_eq, decide_eq_true_eq, Sg.mk.injEq]
  constructor
  · rintro ⟨⟨⟨⟨h1, h2⟩, ⟨⟨⟨h3, h4⟩, h5⟩, h6⟩, h7⟩, h8⟩, h9⟩; exact ⟨h1, h2, h3, h4, h5, h6, h7, h8, h9⟩
  · rintro ⟨h1, h2, h3, h4, h5, h6, h7, h8, h9⟩; exact ⟨⟨⟨⟨h1, h2⟩, ⟨⟨⟨h3, h4⟩, h5⟩, h6⟩, h7⟩, h8⟩, h9⟩

set_option maxHeartbeats 1000000 in
theorem tsame_any (g h : Sg) (vo vd vo' vd' : Value) (w : World) (hg : g.ok) (hh : h.ok) (hvo : RdO w vo g.os) (hvd : Rd .u8 w vd g.data) (hvo' : RdO w vo' h.os) (hvd' : Rd .u8 w vd' h.data) :
    Calls Tryz.prog 25 #[.agg (g.cells vo vd), .agg (h.cells vo' vd')] w fun e w' => e = .returned (.bool (tsame g h)) ∧ Ext w w' := by
  have hS : Hid (tsame g h = ((g.sp == h.sp) && (g.dp == h.dp) && ((g.seq == h.seq) && (g.ack == h.ack) && (g.f == h.f) && (g.win == h.win) && (g.urg == h.urg)) && decide (g.os = h.os) && decide (g.data = h.data))) := rfl
  have HO := fun (w : World) (h1 : RdO w vo g.os) (h2 : RdO w vo' h.os) => osame_any vo vo' g.os h.os w h1 h2 hg.os hh.os
  have HD := fun (w : World) (h1 : Rd .u8 w vd g.data) (h2 : Rd .u8 w vd' h.data) => beq_any vd vd' g.data h.data w h1 h2 hg.data hh.data
  obtain ⟨a1, a2, a3, a4, a5, a6, a7, a8, a9⟩ := g
  obtain ⟨b1, b2, b3, b4, b5, b6, b7, b8, b9⟩ := h
  simp only [Sg.cells] at *
  have hx0 : Ext w ((w.alloc (.cells #[.int .u16 a1, .int .u16 a2, .int .u32 a3, .int .u32 a4, .int .u8 a5, .int .u16 a6, .int .u16 a7, vo, vd] 29)).alloc (.cells #[.int .u16 b1, .int .u16 b2, .int .u32 b3, .int .u32 b4, .int .u8 b5, .int .u16 b6, .int .u16 b7, vo', vd'] 29)) := (Ext.new _ _).al _
  have H1 := HO _ (hvo.ext hx0) (hvo'.ext hx0)
  have H2 := fun w' (hx : Ext w w') => HD w' (hvd.ext hx) (hvd'.ext hx)
  obtain ⟨p1, c1, rfl⟩ := hvo.shape
  obtain ⟨p2, c2, rfl⟩ := hvo'.shape
  obtain ⟨p3, n3, c3, rfl⟩ := hvd.shape
  obtain ⟨p4, n4, c4, rfl⟩ := hvd'.shape
  clear hg hh HO HD hvo hvo' hvd hvd'
  generalize decide (a8 = b8) = q8 at *
  generalize decide (a9 = b9) = q9 at *
  have HX := Lib.hid hx0
  have K1 := Lib.hid H1
  have K2 := Lib.hid H2
  clear hx0 H1 H2
  go_enter Tryz.func25, Tryz.ntmps25
  go_upto_region 1 with (fail)
  generalize hW : (w.alloc _).alloc _ = W at *
  have k1 : W.heap[w.heap.size]? = some (.cells #[.int .u16 a1, .int .u16 a2, .int .u32 a3, .int .u32 a4, .int .u8 a5, .int .u16 a6, .int .u16 a7, .slice p1 a8.length c1, .slice p3 n3 c3] 29) := by rw [← hW]; simp only [heap_alloc_at, World.size_alloc]; repeat (first | rfl | rw [if_pos (by first | trivial | omega)] | rw [if_neg (by omega)])
  have k2 : W.heap[w.heap.size + 1]? = some (.cells #[.int .u16 b1, .int .u16 b2, .int .u32 b3, .int .u32 b4, .int .u8 b5, .int .u16 b6, .int .u16 b7, .slice p2 b8.length c2, .slice p4 n4 c4] 29) := by rw [← hW]; simp only [heap_alloc_at, World.size_alloc]; repeat (first | rfl | rw [if_pos (by first | trivial | omega)] | rw [if_neg (by omega)])
  clear hW
  have e0 := cell_blk k1 0
  have e1 := cell_blk k1 1
  have e2 := cell_blk k1 2
  have e3 := cell_blk k1 3
  have e4 := cell_blk k1 4
  have e5 := cell_blk k1 5
  have e6 := cell_blk k1 6
  have e7 := cell_blk k1 7
  have e8 := cell_blk k1 8
  simp at e0 e1 e2 e3 e4 e5 e6 e7 e8
  have y0 := cell_blk k2 0
  have y1 := cell_blk k2 1
  have y2 := cell_blk k2 2
  have y3 := cell_blk k2 3
  have y4 := cell_blk k2 4
  have y5 := cell_blk k2 5
  have y6 := cell_blk k2 6
  have y7 := cell_blk k2 7
  have y8 := cell_blk k2 8
  simp at y0 y1 y2 y3 y4 y5 y6 y7 y8
  go_cut [5] from 7 (fun v w' => v = .bool ((a1 == b1) && (a2 == b2)) ∧ w' = W)
  case first =>
    rcases hx1 : (a1 == b1) with _ | _ <;> rcases hx2 : (a2 == b2) with _ | _
    all_goals
      go_wp2_with fail
      go_meet
      case rel => exact ⟨by simp [hx1, hx2], rfl⟩
  obtain ⟨rfl, rfl⟩ := hcut
  obtain ⟨W1, rfl⟩ : ∃ W1 : World, W1 = wc := ⟨_, rfl⟩
  generalize hr1 : ((a1 == b1) && (a2 == b2)) = r1 at *
  go_upto_region 2 with (fail)
  go_cut [6] from 7 (fun v w' => v = .bool ((a3 == b3) && (a4 == b4) && (a5 == b5) && (a6 == b6) && (a7 == b7)) ∧ w' = W1)
  case first =>
    clear hr1
    rcases hx3 : (a3 == b3) with _ | _
    · go_wp2_with fail
      go_meet
      case rel => exact ⟨by simp [hx3], rfl⟩
    rcases hx4 : (a4 == b4) with _ | _
    · go_wp2_with fail
      go_meet
      case rel => exact ⟨by simp [hx3, hx4], rfl⟩
    rcases hx5 : (a5 == b5) with _ | _
    · go_wp2_with fail
      go_meet
      case rel => exact ⟨by simp [hx3, hx4, hx5], rfl⟩
    rcases hx6 : (a6 == b6) with _ | _
    · go_wp2_with fail
      go_meet
      case rel => exact ⟨by simp [hx3, hx4, hx5, hx6], rfl⟩
    go_wp2_with fail
    go_meet
    case rel => exact ⟨by simp [hx3, hx4, hx5, hx6], rfl⟩
  obtain ⟨rfl, rfl⟩ := hcut
  obtain ⟨W2, rfl⟩ : ∃ W2 : World, W2 = wc := ⟨_, rfl⟩
  generalize hr2 : ((a3 == b3) && (a4 == b4) && (a5 == b5) && (a6 == b6) && (a7 == b7)) = r2 at *
  cases r1
  · go_wp2_with fail
    go_ret
    exact ⟨by rw [hS.out]; rfl, HX.out⟩
  cases r2
  · go_wp2_with fail
    go_ret
    exact ⟨by rw [hS.out]; rfl, HX.out⟩
  go_wp2_with fail
  refine K1.out.mono ?_
  rintro e w1 ⟨rfl, hx1⟩
  have e8 := hx1.cell e8
  have y8 := hx1.cell y8
  cases q8
  · go_wp2_with fail
    go_ret
    exact ⟨by rw [hS.out]; rfl, HX.out.tr hx1⟩
  go_wp2_with fail
  refine (K2.out _ (HX.out.tr hx1)).mono ?_
  rintro e w2 ⟨rfl, hx2⟩
  go_wp2_with fail
  go_ret
  exact ⟨by rw [hS.out]; rfl, HX.out.tr (hx1.tr hx2)⟩
def tmay (g : Sg) : Bool := decide ((oput g.os).2 = 0) && decide (20 + (oput g.os).1.length + g.data.length ≤ 1480)
theorem tmay_iff (g : Sg) (s d : Int) : tmay g = decide ((tput s d g).2 = 0) := by
  unfold tmay tput
  by_cases h : (oput g.os).2 = 0
  · rw [if_neg (by simp [h])]
    by_cases h2 : 1480 < 20 + (oput g.os).1.length + g.data.length
    · rw [if_pos h2]; simp [h]; omega
    · rw [if_neg h2]; simp [h]; omega
  · rw [if_pos h]; simp [h]

end Go.Proofs.YtbaidlkjbdeceaaGreat
