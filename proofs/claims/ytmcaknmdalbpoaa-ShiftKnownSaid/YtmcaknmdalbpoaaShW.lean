/-
  Proved here: culvertlaw25's awake returns true.
-/
import Derived.Test.YtmcaknmdalbpoaaShV
import Derived.Lib.SlBytesConst
namespace Go.Proofs.Ytmcaknmdalbpoaa
set_option maxRecDepth 16000
open Go.ChangeShapes Go.WideShapes Go.ChangeAt Go.RowKit Go.Cul Go.Loose
set_option linter.unusedVariables false

theorem over_lit (x : Shf) (g : Sg) (L : List Sg) (E : Int) (he : overL x g = (L, E)) (hx : x.ok) (hg : g.ok) (vo vd : Value) (w : World) (hvo : RdO w vo g.os) (hvd : Rd .u8 w vd g.data) (hn : g.os = []) (hl : g.data.length ≤ 1000000) :
    Calls Try.prog 9 #[.agg x.cells, .agg (g.cells vo vd)] w fun e w' => ∃ u, e = .returned (.tuple #[u, .int .i64 E]) ∧ FrS w' w.heap.size u L ∧ Ext w w' := by
  have h := over_any x hx g hg vo vd w hvo hvd (by rw [hn]; simp) (by rw [hn]; simp) hl
  rw [he] at h
  exact h

theorem rd_newz (w : World) (t : TypeId) (fz : Nat × Nat) (l : List Int) {C : Array Value} {n : Nat} (hC : C = (l.map (Value.int .u8)).toArray) (hn : l.length = n) (hl : l.length ≤ maxLen) : Rd .u8 (w.alloc (.cells C t fz)) (.slice (some ⟨w.heap.size, 0, none⟩) n n) l := by
  subst hC hn
  refine ⟨_, _, rfl, Nat.le_refl _, hl, .inr ⟨w.heap.size, 0, rfl, fun i hi => ?_⟩⟩
  rw [Nat.zero_add, cell_of_row _ _ i _ _ fz (heap_alloc_new w _)]
  simp [List.getD, hi]

set_option maxHeartbeats 2000000 in
set_option maxRecDepth 100000 in
theorem wakes25_any (w : World) : Calls Try.prog 8 #[] w fun e w' => e = .returned (.bool true) ∧ Ext w w' := by
  go_enter Try.func8, Try.ntmps8
  go_wp2_with fail
  refine (over_lit ⟨10, 4294967292, false, 0, 0, 1460⟩ ⟨0, 0, 5, 9, 16, 0, 0, [], []⟩ [⟨0, 0, 15, 5, 16, 0, 0, [], []⟩] 0 (by kernel_rfl) ⟨by decide, by decide, by decide, by decide, by decide⟩ ⟨by decide, by decide, by decide, by decide, by decide, by decide, by decide, (fun o h => by cases h), (fun o h => by cases h)⟩ _ _ _ (RdO.nil _) (Rd.nil _ _) rfl (by decide)).mono ?_
  rintro e w1 ⟨u1, rfl, hf1, hx1⟩
  obtain ⟨g1, c1, vo1, vd1, rfl, -, hc1, -, -⟩ := hf1.at (i := 0) (by decide)
  have y2 := hc1 2 (by decide)
  have y3 := hc1 3 (by decide)
  simp at y2 y3
  clear hf1 hc1
  have hx01 : Ext w w1 := Ext.tr (Ext.new _ _) hx1
  clear hx1
  have hcv := Lib.run_convert_bytes_const (P := Try.prog) w1 27 5 #[.int .u8 97, .int .u8 98, .int .u8 99, .int .u8 100, .int .u8 101] 5 5 Try.underlying27 Try.underlying5
  go_wp2_with fail
  clear hcv
  refine (over_lit ⟨0, 0, false, 0, 0, 2⟩ ⟨0, 0, 1, 0, 1, 0, 0, [], [97, 98, 99, 100, 101]⟩ [⟨0, 0, 1, 0, 0, 0, 0, [], [97, 98]⟩, ⟨0, 0, 3, 0, 0, 0, 0, [], [99, 100]⟩, ⟨0, 0, 5, 0, 1, 0, 0, [], [101]⟩] 0 (by kernel_rfl) ⟨by decide, by decide, by decide, by decide, by decide⟩ ⟨by decide, by decide, by decide, by decide, by decide, by decide, by decide, (fun o h => by cases h), byt_of rfl⟩ _ _ _ (RdO.nil _) (rd_newz w1 _ _ [97, 98, 99, 100, 101] rfl rfl (by decide)) rfl (by decide)).mono ?_
  rintro e w2 ⟨u2, rfl, hf2, hx2⟩
  have hx12 : Ext w1 w2 := Ext.tr (Ext.new _ _) hx2
  clear hx2
  obtain ⟨g2, c2, vo2, vd2, rfl, -, hc1, -, hd2⟩ := hf2.at (i := 1) (by decide)
  obtain ⟨g2', c2', vo3, vd3, he, -, hc2, -, -⟩ := hf2.at (i := 2) (by decide)
  simp only [Value.slice.injEq, Option.some.injEq, Addr.mk.injEq, and_true, true_and] at he
  obtain ⟨rfl, rfl⟩ := he
  have z2 := hc1 2 (by decide)
  have z4 := hc1 4 (by decide)
  have z8 := hc1 8 (by decide)
  have x4 := hc2 4 (by decide)
  simp at z2 z4 z8 x4
  obtain ⟨a2, n2, k2, rfl⟩ := hd2.rd.shape
  have hd2r : Rd .u8 w2 (.slice a2 n2 k2) [99, 100] := hd2.rd
  have y2 := hx12.cell y2
  have y3 := hx12.cell y3
  clear hf2 hc1 hc2 hd2
  go_wp2_with fail
  refine (swin_any ⟨0, 0, false, 7, 3, 1⟩ 100 (by decide) w2).mono ?_
  rw [show (Shf.mk 0 0 false 7 3 1).win 100 = 1600 from by decide +kernel]
  rintro e w3 ⟨rfl, hx3⟩
  have z2 := hx3.cell z2
  have z4 := hx3.cell z4
  have z8 := hx3.cell z8
  have x4 := hx3.cell x4
  have hd3 := hd2r.ext hx3
  clear hd2r y2 y3
  go_wp2_with fail
  refine (swin_any ⟨0, 0, false, 7, 0, 1⟩ 60000 (by decide) w3).mono ?_
  rw [show (Shf.mk 0 0 false 7 0 1).win 60000 = 65535 from by decide +kernel]
  rintro e w4 ⟨rfl, hx4⟩
  have z2 := hx4.cell z2
  have z4 := hx4.cell z4
  have z8 := hx4.cell z8
  have x4 := hx4.cell x4
  have hconv := run_conv_rd (P := Try.prog) (src := 27) (e := 5) (dst := 9) (by kernel_rfl) (by kernel_rfl) (by kernel_rfl) (hd3.ext hx4)
  rw [show strOfNums [99, 100] = ⟨#[99, 100]⟩ from by decide] at hconv
  clear hd3
  go_wp2_with fail
  go_ret
  exact ⟨rfl, hx01.tr (hx12.tr (hx3.tr hx4))⟩
end Go.Proofs.Ytmcaknmdalbpoaa
