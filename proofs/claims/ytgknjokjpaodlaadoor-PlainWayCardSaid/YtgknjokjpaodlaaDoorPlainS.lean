/-
  Proved here: what the methods of plain.Flow that only look compute: none, State, Ready, Alarm, Tick, Copy. No condition but the numbers' own bounds.
-/
import Derived.Test.YtgknjokjpaodlaaDoorPlain
import Derived.BigRegion
namespace Go.Proofs.YtgknjokjpaodlaaDoor
open Go.ChangeShapes Go.WideShapes Go.ChangeAt Go.RowKit Go.Cul
set_option linter.unusedVariables false

/-- A flow. -/
structure Fl where
  idle : Int
  wait : Int
  proto : Int
  o : Sd
  i : Sd
  last : Int
  shut : Bool
  since : Int

def Fl.cells (f : Fl) : Array Value := #[.int .u64 f.idle, .int .u64 f.wait, .int .u8 f.proto,
  .bool f.o.sent, .bool f.o.acks, .bool f.o.ended, .int .u32 f.o.acked, .int .u32 f.o.behind, .int .u16 f.o.win,
  .bool f.i.sent, .bool f.i.acks, .bool f.i.ended, .int .u32 f.i.acked, .int .u32 f.i.behind, .int .u16 f.i.win,
  .int .u64 f.last, .bool f.shut, .int .u64 f.since]

/-- A flow lies there. -/
abbrev At (w : World) (b : Nat) (f : Fl) : Prop := w.heap[b]? = some (.cells f.cells 63)

abbrev fp (b : Nat) : Value := .pointer (some ⟨b, 0, none⟩)

def stM (f : Fl) : Int :=
  if f.proto == 0 then 0 else if f.shut then 5 else if !f.o.sent || !f.i.sent then 1 else if f.proto != 6 then 3 else if !f.o.acks || !f.i.acks then 2 else if !f.o.ended && !f.i.ended then 3 else 4

theorem none_nil (w : World) : Calls Tryd.prog 18 #[.pointer none] w fun e w' => e = .returned (.bool true) ∧ w' = w := by
  go_enter Tryd.func18, Tryd.ntmps18
  go_wp2
  go_ret
  exact ⟨rfl, rfl⟩

theorem none_any (b : Nat) (f : Fl) (w : World) (h : At w b f) : Calls Tryd.prog 18 #[fp b] w fun e w' => e = .returned (.bool (f.proto == 0)) ∧ w' = w := by
  obtain ⟨idle, wait, proto, ⟨o1, o2, o3, o4, o5, o6⟩, ⟨i1, i2, i3, i4, i5, i6⟩, last, shut, since⟩ := f
  simp only [At, Fl.cells] at h
  show Calls _ _ _ _ fun e w' => e = .returned (.bool (proto == 0)) ∧ _
  have e2 := cell_blk h 2
  simp at e2
  go_enter Tryd.func18, Tryd.ntmps18
  go_wp2
  go_ret
  exact ⟨rfl, rfl⟩

set_option maxHeartbeats 1000000 in
theorem state_any (b : Nat) (f : Fl) (w : World) (h : At w b f) : Calls Tryd.prog 11 #[fp b] w fun e w' => e = .returned (.int .i64 (stM f)) ∧ Ext w w' := by
  obtain ⟨idle, wait, proto, ⟨o1, o2, o3, o4, o5, o6⟩, ⟨i1, i2, i3, i4, i5, i6⟩, last, shut, since⟩ := f
  have h0 := h
  simp only [At, Fl.cells] at h
  unfold stM
  dsimp only
  have e2 := cell_blk h 2
  have a3 := cell_blk h 3
  have a4 := cell_blk h 4
  have a5 := cell_blk h 5
  have a6 := cell_blk h 6
  have a7 := cell_blk h 7
  have a8 := cell_blk h 8
  have a9 := cell_blk h 9
  have a10 := cell_blk h 10
  have a11 := cell_blk h 11
  have a12 := cell_blk h 12
  have a13 := cell_blk h 13
  have a14 := cell_blk h 14
  have a16 := cell_blk h 16
  simp at e2 a3 a4 a5 a6 a7 a8 a9 a10 a11 a12 a13 a14 a16
  go_enter Tryd.func11, Tryd.ntmps11
  go_wp2_with fail
  refine (none_any b _ w h0).mono ?_
  rintro e w ⟨rfl, rfl⟩
  by_cases hp : proto = 0
  · subst hp
    go_wp2
    go_ret
    exact ⟨rfl, Ext.rfl' _⟩
  have hp' : (proto == 0) = false := by simp [hp]
  simp only [hp']
  have hlt : b < w.heap.size := lt_of_block h
  go_wp2_with fail
  have e2_a := fun (o : Obj) => (Ext.new w o).cell e2
  have e2_b := fun (o : Obj) => (Ext.new w o).dr.cell e2
  have e2_c := fun (o o2 : Obj) => ((Ext.new w o).al o2).cell e2
  have e2_d := fun (o o2 : Obj) => ((Ext.new w o).al o2).dr.cell e2
  have e2_e := (Ext.rfl' w).dr.cell e2
  have a3_a := fun (o : Obj) => (Ext.new w o).cell a3
  have a3_b := fun (o : Obj) => (Ext.new w o).dr.cell a3
  have a3_c := fun (o o2 : Obj) => ((Ext.new w o).al o2).cell a3
  have a3_d := fun (o o2 : Obj) => ((Ext.new w o).al o2).dr.cell a3
  have a3_e := (Ext.rfl' w).dr.cell a3
  have a4_a := fun (o : Obj) => (Ext.new w o).cell a4
  have a4_b := fun (o : Obj) => (Ext.new w o).dr.cell a4
  have a4_c := fun (o o2 : Obj) => ((Ext.new w o).al o2).cell a4
  have a4_d := fun (o o2 : Obj) => ((Ext.new w o).al o2).dr.cell a4
  have a4_e := (Ext.rfl' w).dr.cell a4
  have a5_a := fun (o : Obj) => (Ext.new w o).cell a5
  have a5_b := fun (o : Obj) => (Ext.new w o).dr.cell a5
  have a5_c := fun (o o2 : Obj) => ((Ext.new w o).al o2).cell a5
  have a5_d := fun (o o2 : Obj) => ((Ext.new w o).al o2).dr.cell a5
  have a5_e := (Ext.rfl' w).dr.cell a5
  have a6_a := fun (o : Obj) => (Ext.new w o).cell a6
  have a6_b := fun (o : Obj) => (Ext.new w o).dr.cell a6
  have a6_c := fun (o o2 : Obj) => ((Ext.new w o).al o2).cell a6
  have a6_d := fun (o o2 : Obj) => ((Ext.new w o).al o2).dr.cell a6
  have a6_e := (Ext.rfl' w).dr.cell a6
  have a7_a := fun (o : Obj) => (Ext.new w o).cell a7
  have a7_b := fun (o : Obj) => (Ext.new w o).dr.cell a7
  have a7_c := fun (o o2 : Obj) => ((Ext.new w o).al o2).cell a7
  have a7_d := fun (o o2 : Obj) => ((Ext.new w o).al o2).dr.cell a7
  have a7_e := (Ext.rfl' w).dr.cell a7
  have a8_a := fun (o : Obj) => (Ext.new w o).cell a8
  have a8_b := fun (o : Obj) => (Ext.new w o).dr.cell a8
  have a8_c := fun (o o2 : Obj) => ((Ext.new w o).al o2).cell a8
  have a8_d := fun (o o2 : Obj) => ((Ext.new w o).al o2).dr.cell a8
  have a8_e := (Ext.rfl' w).dr.cell a8
  have a9_a := fun (o : Obj) => (Ext.new w o).cell a9
  have a9_b := fun (o : Obj) => (Ext.new w o).dr.cell a9
  have a9_c := fun (o o2 : Obj) => ((Ext.new w o).al o2).cell a9
  have a9_d := fun (o o2 : Obj) => ((Ext.new w o).al o2).dr.cell a9
  have a9_e := (Ext.rfl' w).dr.cell a9
  have a10_a := fun (o : Obj) => (Ext.new w o).cell a10
  have a10_b := fun (o : Obj) => (Ext.new w o).dr.cell a10
  have a10_c := fun (o o2 : Obj) => ((Ext.new w o).al o2).cell a10
  have a10_d := fun (o o2 : Obj) => ((Ext.new w o).al o2).dr.cell a10
  have a10_e := (Ext.rfl' w).dr.cell a10
  have a11_a := fun (o : Obj) => (Ext.new w o).cell a11
  have a11_b := fun (o : Obj) => (Ext.new w o).dr.cell a11
  have a11_c := fun (o o2 : Obj) => ((Ext.new w o).al o2).cell a11
  have a11_d := fun (o o2 : Obj) => ((Ext.new w o).al o2).dr.cell a11
  have a11_e := (Ext.rfl' w).dr.cell a11
  have a12_a := fun (o : Obj) => (Ext.new w o).cell a12
  have a12_b := fun (o : Obj) => (Ext.new w o).dr.cell a12
  have a12_c := fun (o o2 : Obj) => ((Ext.new w o).al o2).cell a12
  have a12_d := fun (o o2 : Obj) => ((Ext.new w o).al o2).dr.cell a12
  have a12_e := (Ext.rfl' w).dr.cell a12
  have a13_a := fun (o : Obj) => (Ext.new w o).cell a13
  have a13_b := fun (o : Obj) => (Ext.new w o).dr.cell a13
  have a13_c := fun (o o2 : Obj) => ((Ext.new w o).al o2).cell a13
  have a13_d := fun (o o2 : Obj) => ((Ext.new w o).al o2).dr.cell a13
  have a13_e := (Ext.rfl' w).dr.cell a13
  have a14_a := fun (o : Obj) => (Ext.new w o).cell a14
  have a14_b := fun (o : Obj) => (Ext.new w o).dr.cell a14
  have a14_c := fun (o o2 : Obj) => ((Ext.new w o).al o2).cell a14
  have a14_d := fun (o o2 : Obj) => ((Ext.new w o).al o2).dr.cell a14
  have a14_e := (Ext.rfl' w).dr.cell a14
  have a16_a := fun (o : Obj) => (Ext.new w o).cell a16
  have a16_b := fun (o : Obj) => (Ext.new w o).dr.cell a16
  have a16_c := fun (o o2 : Obj) => ((Ext.new w o).al o2).cell a16
  have a16_d := fun (o o2 : Obj) => ((Ext.new w o).al o2).dr.cell a16
  have a16_e := (Ext.rfl' w).dr.cell a16
  go_region
  all_goals
    go_wp2
    all_goals
      go_ret
      refine ⟨ret_int ?_, ?_⟩
      · simp [*]
      · exact ((Ext.new _ _).al _).dr

def alM (f : Fl) : Int :=
  if stM f = 0 then 0 else if stM f = 5 then (f.since + f.wait) % 18446744073709551616 else if stM f = 1 ∨ stM f = 2 then (f.last + max (f.idle / 8) 1) % 18446744073709551616 else (f.last + f.idle) % 18446744073709551616

theorem stM_bd (f : Fl) : 0 ≤ stM f ∧ stM f ≤ 5 := by
  unfold stM
  repeat (split; decide)
  decide

set_option maxHeartbeats 1000000 in
theorem alarm_any (b : Nat) (f : Fl) (w : World) (h : At w b f) (hf : 0 ≤ f.idle ∧ f.idle ≤ 18446744073709551615) : Calls Tryd.prog 13 #[fp b] w fun e w' => e = .returned (.int .u64 (alM f)) ∧ Ext w w' := by
  have hs := state_any b f w h
  have hbd := stM_bd f
  unfold alM
  generalize stM f = st at *
  obtain ⟨idle, wait, proto, ⟨o1, o2, o3, o4, o5, o6⟩, ⟨i1, i2, i3, i4, i5, i6⟩, last, shut, since⟩ := f
  dsimp only at hf
  dsimp only
  simp only [At, Fl.cells] at h
  go_enter Tryd.func13, Tryd.ntmps13
  go_wp2_with fail
  refine hs.mono ?_
  rintro e w1 ⟨rfl, hx⟩
  have k := hx.block h
  have a0 := cell_blk k 0
  have a1 := cell_blk k 1
  have a15 := cell_blk k 15
  have a17 := cell_blk k 17
  simp at a0 a1 a15 a17
  rcases (by omega : st = 0 ∨ st = 1 ∨ st = 2 ∨ st = 3 ∨ st = 4 ∨ st = 5) with rfl | rfl | rfl | rfl | rfl | rfl
  all_goals
    go_wp2
    try go_region
    all_goals
      go_wp2
      all_goals
        go_ret
        refine ⟨ret_int ?_, ?_⟩
        · clear hs
          simp only [show ∀ x, IntKind.u64.wrap x = x % 18446744073709551616 from fun _ => rfl] at *
          try omega
        · first | exact hx | exact hx.dr

theorem ready_any (b : Nat) (f : Fl) (w : World) (h : At w b f) : Calls Tryd.prog 14 #[fp b] w fun e w' => e = .returned (.bool (decide (3 ≤ stM f))) ∧ Ext w w' := by
  go_enter Tryd.func14, Tryd.ntmps14
  go_wp2_with fail
  refine (state_any b f w h).mono ?_
  rintro e w1 ⟨rfl, hx⟩
  go_wp2
  go_ret
  exact ⟨rfl, hx⟩

theorem tick_any (b : Nat) (f : Fl) (n : Int) (w : World) (h : At w b f) (hf : 0 ≤ f.idle ∧ f.idle ≤ 18446744073709551615) : Calls Tryd.prog 15 #[fp b, .int .u64 n] w fun e w' => e = .returned (.bool (decide (alM f ≤ n))) ∧ Ext w w' := by
  go_enter Tryd.func15, Tryd.ntmps15
  go_wp2_with fail
  refine (alarm_any b f w h hf).mono ?_
  rintro e w1 ⟨rfl, hx⟩
  go_wp2
  go_ret
  exact ⟨rfl, hx⟩

theorem state_nil (w : World) : Calls Tryd.prog 11 #[.pointer none] w fun e w' => e = .returned (.int .i64 0) ∧ w' = w := by
  go_enter Tryd.func11, Tryd.ntmps11
  go_wp2_with fail
  refine (none_nil w).mono ?_
  rintro e w1 ⟨rfl, rfl⟩
  go_wp2
  go_ret
  exact ⟨rfl, rfl⟩
theorem alarm_nil (w : World) : Calls Tryd.prog 13 #[.pointer none] w fun e w' => e = .returned (.int .u64 0) ∧ w' = w := by
  go_enter Tryd.func13, Tryd.ntmps13
  go_wp2_with fail
  refine (state_nil w).mono ?_
  rintro e w1 ⟨rfl, rfl⟩
  go_wp2
  go_ret
  exact ⟨rfl, rfl⟩
theorem ready_nil (w : World) : Calls Tryd.prog 14 #[.pointer none] w fun e w' => e = .returned (.bool false) ∧ w' = w := by
  go_enter Tryd.func14, Tryd.ntmps14
  go_wp2_with fail
  refine (state_nil w).mono ?_
  rintro e w1 ⟨rfl, rfl⟩
  go_wp2
  go_ret
  exact ⟨rfl, rfl⟩
theorem tick_nil (w : World) : Calls Tryd.prog 15 #[.pointer none, .int .u64 0] w fun e w' => e = .returned (.bool true) ∧ w' = w := by
  go_enter Tryd.func15, Tryd.ntmps15
  go_wp2_with fail
  refine (alarm_nil w).mono ?_
  rintro e w1 ⟨rfl, rfl⟩
  go_wp2
  go_ret
  exact ⟨rfl, rfl⟩
theorem copy_nil (w : World) : Calls Tryd.prog 16 #[.pointer none] w fun e w' => e = .returned (.pointer none) ∧ w' = w := by
  go_enter Tryd.func16, Tryd.ntmps16
  go_wp2_with fail
  refine (none_nil w).mono ?_
  rintro e w1 ⟨rfl, rfl⟩
  go_wp2
  go_ret
  exact ⟨rfl, rfl⟩

end Go.Proofs.YtgknjokjpaodlaaDoor
