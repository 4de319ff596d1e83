/-
  Proved here: what culvertref06.Same and Length compute. Conditions: numbers within their kinds.
-/
import Derived.Test.YtbaidlkjbdeceaaGreatTcpS
import Derived.Test.YtbaidlkjbdeceaaGreatRef5
namespace Go.Proofs.YtbaidlkjbdeceaaGreat
set_option maxRecDepth 200000
open Go.ChangeShapes Go.WideShapes Go.ChangeAt Go.RowKit Go.Cul Go.Loose
set_option linter.unusedVariables false

set_option maxHeartbeats 2000000 in
theorem r6same_any (g h : Sg) (vo vd vo' vd' : Value) (w : World) (hg : g.ok) (hh : h.ok) (hvo : RdO w vo g.os) (hvd : Rd .u8 w vd g.data) (hvo' : RdO w vo' h.os) (hvd' : Rd .u8 w vd' h.data) :
    Calls Tryz.prog 29 #[.agg (g.cells vo vd), .agg (h.cells vo' vd')] w fun e w' => e = .returned (.bool (tsame g h)) ∧ Ext w w' := by
  have hS : Hid (tsame g h = ((g.sp == h.sp) && (g.dp == h.dp) && ((g.seq == h.seq) && (g.ack == h.ack) && (g.f == h.f) && (g.win == h.win) && (g.urg == h.urg)) && decide (g.os = h.os) && decide (g.data = h.data))) := rfl
  have HO := fun (w : World) (h1 : RdO w vo g.os) (h2 : RdO w vo' h.os) => r5same_any vo vo' g.os h.os w h1 h2 hg.os hh.os
  have hs := str_eq hg.data hh.data
  obtain ⟨a1, a2, a3, a4, a5, a6, a7, a8, a9⟩ := g
  obtain ⟨b1, b2, b3, b4, b5, b6, b7, b8, b9⟩ := h
  simp only [Sg.cells] at *
  have hx0 : Ext w ((w.alloc (.cells #[.int .u16 a1, .int .u16 a2, .int .u32 a3, .int .u32 a4, .int .u8 a5, .int .u16 a6, .int .u16 a7, vo, vd] 29)).alloc (.cells #[.int .u16 b1, .int .u16 b2, .int .u32 b3, .int .u32 b4, .int .u8 b5, .int .u16 b6, .int .u16 b7, vo', vd'] 29)) := (Ext.new _ _).al _
  have H1 := HO _ (hvo.ext hx0) (hvo'.ext hx0)
  have HC1 := fun (W : World) (hx : Ext w W) => run_conv_rd (P := Tryz.prog) (src := 24) (e := 5) (dst := 9) (by kernel_rfl) (by kernel_rfl) (by kernel_rfl) (hvd.ext hx)
  have HC2 := fun (W : World) (hx : Ext w W) => run_conv_rd (P := Tryz.prog) (src := 24) (e := 5) (dst := 9) (by kernel_rfl) (by kernel_rfl) (by kernel_rfl) (hvd'.ext hx)
  obtain ⟨p1, c1, rfl⟩ := hvo.shape
  obtain ⟨p2, c2, rfl⟩ := hvo'.shape
  obtain ⟨p3, n3, c3, rfl⟩ := hvd.shape
  obtain ⟨p4, n4, c4, rfl⟩ := hvd'.shape
  clear hg hh HO hvo hvo' hvd hvd'
  generalize decide (a8 = b8) = q8 at *
  generalize decide (a9 = b9) = q9 at *
  have HX := Lib.hid hx0
  have K1 := Lib.hid H1
  replace HC1 := Lib.hid HC1
  replace HC2 := Lib.hid HC2
  clear hx0 H1
  go_enter Tryz.func29, Tryz.ntmps29
  go_upto_region 1 with (fail)
  replace HX := Lib.hid HX.out
  generalize hW : (w.alloc _).alloc _ = W at *
  have k1 : W.heap[w.heap.size]? = some (.cells #[.int .u16 a1, .int .u16 a2, .int .u32 a3, .int .u32 a4, .int .u8 a5, .int .u16 a6, .int .u16 a7, .slice p1 a8.length c1, .slice p3 n3 c3] 29) := by rw [← hW]; simp only [heap_alloc_at, World.size_alloc]; repeat (first | rfl | rw [if_pos (by first | trivial | omega)] | rw [if_neg (by omega)])
  have k2 : W.heap[w.heap.size + 1]? = some (.cells #[.int .u16 b1, .int .u16 b2, .int .u32 b3, .int .u32 b4, .int .u8 b5, .int .u16 b6, .int .u16 b7, .slice p2 b8.length c2, .slice p4 n4 c4] 29) := by rw [← hW]; simp only [heap_alloc_at, World.size_alloc]; repeat (first | rfl | rw [if_pos (by first | trivial | omega)] | rw [if_neg (by omega)])
  clear hW
  have e0 := cell_blk k1 0
  have e1 := cell_blk k1 1
  have e2 := cell_blk k1 2
  have e3 := cell_blk k1 3
  have e4 := cell_blk k1 4
  have e5 := cell_blk k1 5
  have e6 := cell_blk k1 6
  have e7 := cell_blk k1 7
  have e8 := cell_blk k1 8
  simp at e0 e1 e2 e3 e4 e5 e6 e7 e8
  have y0 := cell_blk k2 0
  have y1 := cell_blk k2 1
  have y2 := cell_blk k2 2
  have y3 := cell_blk k2 3
  have y4 := cell_blk k2 4
  have y5 := cell_blk k2 5
  have y6 := cell_blk k2 6
  have y7 := cell_blk k2 7
  have y8 := cell_blk k2 8
  simp at y0 y1 y2 y3 y4 y5 y6 y7 y8
  rcases hx1 : (a1 == b1) with _ | _
  · have hD : Hid (tsame ⟨a1, a2, a3, a4, a5, a6, a7, a8, a9⟩ ⟨b1, b2, b3, b4, b5, b6, b7, b8, b9⟩ = false) := by unfold Hid; rw [hS.out, hx1]; rfl
    go_wp2_with fail
    go_ret
    exact ⟨by rw [hD.out]; rfl, HX.out⟩
  rcases hx2 : (a2 == b2) with _ | _
  · have hD : Hid (tsame ⟨a1, a2, a3, a4, a5, a6, a7, a8, a9⟩ ⟨b1, b2, b3, b4, b5, b6, b7, b8, b9⟩ = false) := by unfold Hid; rw [hS.out, hx1, hx2]; rfl
    go_wp2_with fail
    go_ret
    exact ⟨by rw [hD.out]; rfl, HX.out⟩
  rcases hx3 : (a3 == b3) with _ | _
  · have hD : Hid (tsame ⟨a1, a2, a3, a4, a5, a6, a7, a8, a9⟩ ⟨b1, b2, b3, b4, b5, b6, b7, b8, b9⟩ = false) := by unfold Hid; rw [hS.out, hx1, hx2, hx3]; rfl
    go_wp2_with fail
    go_ret
    exact ⟨by rw [hD.out]; rfl, HX.out⟩
  rcases hx4 : (a4 == b4) with _ | _
  · have hD : Hid (tsame ⟨a1, a2, a3, a4, a5, a6, a7, a8, a9⟩ ⟨b1, b2, b3, b4, b5, b6, b7, b8, b9⟩ = false) := by unfold Hid; rw [hS.out, hx1, hx2, hx3, hx4]; rfl
    go_wp2_with fail
    go_ret
    exact ⟨by rw [hD.out]; rfl, HX.out⟩
  rcases hx5 : (a5 == b5) with _ | _
  · have hD : Hid (tsame ⟨a1, a2, a3, a4, a5, a6, a7, a8, a9⟩ ⟨b1, b2, b3, b4, b5, b6, b7, b8, b9⟩ = false) := by unfold Hid; rw [hS.out, hx1, hx2, hx3, hx4, hx5]; rfl
    go_wp2_with fail
    go_ret
    exact ⟨by rw [hD.out]; rfl, HX.out⟩
  rcases hx6 : (a6 == b6) with _ | _
  · have hD : Hid (tsame ⟨a1, a2, a3, a4, a5, a6, a7, a8, a9⟩ ⟨b1, b2, b3, b4, b5, b6, b7, b8, b9⟩ = false) := by unfold Hid; rw [hS.out, hx1, hx2, hx3, hx4, hx5, hx6]; rfl
    go_wp2_with fail
    go_ret
    exact ⟨by rw [hD.out]; rfl, HX.out⟩
  rcases hx7 : (a7 == b7) with _ | _
  · have hD : Hid (tsame ⟨a1, a2, a3, a4, a5, a6, a7, a8, a9⟩ ⟨b1, b2, b3, b4, b5, b6, b7, b8, b9⟩ = false) := by unfold Hid; rw [hS.out, hx1, hx2, hx3, hx4, hx5, hx6, hx7]; rfl
    go_wp2_with fail
    go_ret
    exact ⟨by rw [hD.out]; rfl, HX.out⟩
  have hS2 : Hid (tsame ⟨a1, a2, a3, a4, a5, a6, a7, a8, a9⟩ ⟨b1, b2, b3, b4, b5, b6, b7, b8, b9⟩ = (q8 && q9)) := by unfold Hid; rw [hS.out, hx1, hx2, hx3, hx4, hx5, hx6, hx7]; cases q8 <;> rfl
  go_wp2_with fail
  refine K1.out.mono ?_
  rintro e w1 ⟨rfl, hx⟩
  have e8 := hx.cell e8
  have y8 := hx.cell y8
  have q1 := HC1.out w1 (HX.out.tr hx)
  have q2 := HC2.out w1 (HX.out.tr hx)
  cases q8
  · go_wp2_with fail
    go_ret
    exact ⟨by rw [hS2.out]; rfl, HX.out.tr hx⟩
  go_wp2_with fail
  go_ret
  exact ⟨by rw [hS2.out]; rfl, HX.out.tr hx⟩

end Go.Proofs.YtbaidlkjbdeceaaGreat
