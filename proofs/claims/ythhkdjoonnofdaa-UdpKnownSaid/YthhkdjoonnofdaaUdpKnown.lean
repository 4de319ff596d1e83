/-
  Proved here: the closed law UdpKnown returns true. No condition.
-/
import Derived.Test.YthhkdjoonnofdaaUdpQ
namespace Go.Proofs.Ythhkdjoonnofdaa.udpKnown
open Go.ChangeShapes Go.WideShapes Go.ChangeAt Go.RowKit Go.Cul
set_option linter.unusedVariables false

theorem zeros_byt (n : Nat) : Byt (List.replicate n 0) := fun x hx => by have := List.eq_of_mem_replicate hx; omega

def Zput (w : World) (n : Nat) (E : Int) (e : Ending) (w' : World) : Prop := ∃ a c, e = .returned (.tuple #[.slice a n c, .int .i64 E]) ∧ Ext w w'

set_option maxHeartbeats 1000000 in
theorem walk (w : World) : Calls Try.prog 5 #[] w fun e w' => e = .returned (.bool true) ∧ Ext w w' := by
  obtain ⟨w1, hr1, hown1, hx1⟩ := run_mk isU8 w w.heap.size .i64 .i64 1472 (by omega) (by unfold maxLen; omega) (Nat.le_refl _)
  have hr1 : Sem.run Try.prog (Instr.makeSlice 25 (.int .i64 1472) (.int .i64 1472)) w = .ok (.slice (some ⟨w.heap.size, 0, none⟩) 1472 1472) w1 := hr1
  have hp1 : Calls Try.prog 14 #[.int .u32 1, .int .u32 2, .agg #[.int .u16 0, .int .u16 0, .slice (some ⟨w.heap.size, 0, none⟩) 1472 1472]] w1 (Zput w1 1480 0) := by
    refine (put_any 1 2 0 0 _ _ w1 hown1.rd (zeros_byt _) (by omega) (by omega) (by omega) (by omega) (by rw [List.length_replicate]; omega)).mono ?_
    rw [uput_of (by rw [List.length_replicate]; omega)]
    rintro e w' ⟨u, rfl, hu, hx⟩
    obtain ⟨a, c, he, -, -, -⟩ := hu.rd
    simp only at he
    rw [udpl_len, List.length_replicate] at he
    subst he
    exact ⟨a, c, rfl, hx⟩
  have HP1 := Lib.hid hp1
  clear hp1 hown1
  go_enter Try.func5, Try.ntmps5
  go_wp2_with fail
  clear hr1
  refine HP1.out.mono ?_
  rintro e w2 ⟨a2, c2, rfl, hx2⟩
  obtain ⟨w3, hr3, hown3, hx3⟩ := run_mk isU8 w2 w2.heap.size .i64 .i64 1473 (by omega) (by unfold maxLen; omega) (Nat.le_refl _)
  have hr3 : Sem.run Try.prog (Instr.makeSlice 25 (.int .i64 1473) (.int .i64 1473)) w2 = .ok (.slice (some ⟨w2.heap.size, 0, none⟩) 1473 1473) w3 := hr3
  go_wp2_with fail
  clear hr3
  refine (put_any 1 2 0 0 _ _ w3 hown3.rd (zeros_byt _) (by omega) (by omega) (by omega) (by omega) (by rw [List.length_replicate]; omega)).mono ?_
  rw [show uput 1 2 0 0 (List.replicate 1473 0) = ([], 3) from by unfold uput; rw [if_pos (by rw [List.length_replicate]; omega)]]
  rintro e w4 ⟨u4, rfl, hu4, hx4⟩
  clear hu4 hown3
  obtain ⟨w5, hr5, hown5, hx5⟩ := run_mk isU8 w4 w4.heap.size .i64 .i64 1481 (by omega) (by unfold maxLen; omega) (Nat.le_refl _)
  have hr5 : Sem.run Try.prog (Instr.makeSlice 25 (.int .i64 1481) (.int .i64 1481)) w4 = .ok (.slice (some ⟨w4.heap.size, 0, none⟩) 1481 1481) w5 := hr5
  go_wp2_with fail
  clear hr5
  refine (parse_err 3 1 2 _ _ _ hown5.rd (zeros_byt _) (by omega) (by omega) (by rw [List.length_replicate]; omega) (by unfold uerr; rw [if_pos (by rw [List.length_replicate]; omega)])).mono ?_
  rintro e w6 ⟨sp6, dp6, u6, l6, rfl, hu6, hx6⟩
  obtain ⟨a6, n6, c6, rfl⟩ := hu6.rd.shape
  clear hown5 hu6
  go_wp2_with fail
  refine (parse_err 4 0 0 _ [0, 1, 0, 2, 0, 8, 255] _ (rd_new .u8 _ _ _ _ (by simp) rfl rfl rfl (by decide)) (byt_of rfl) (by decide) (by decide) (by decide) (by decide +kernel)).mono ?_
  rintro e w7 ⟨sp7, dp7, u7, l7, rfl, hu7, hx7⟩
  obtain ⟨a7, n7, c7, rfl⟩ := hu7.rd.shape
  clear hu7
  go_wp2_with fail
  refine (parse_err 4 0 0 _ [] _ (Rd.nil _ _) (byt_of rfl) (by decide) (by decide) (by decide) (by decide +kernel)).mono ?_
  rintro e w8 ⟨sp8, dp8, u8, l8, rfl, hu8, hx8⟩
  obtain ⟨a8, n8, c8, rfl⟩ := hu8.rd.shape
  clear hu8
  go_wp2_with fail
  refine (put_lit [255, 255, 255, 220, 0, 10, 255, 251, 0, 2] 0 4294967295 4294967295 65535 65500 _ [0, 2] _ (rd_new .u8 _ _ _ _ (by simp) rfl rfl rfl (by decide)) rfl (by decide) (by decide) (by decide +kernel)).mono ?_
  rintro e w9 ⟨u9, rfl, hu9, hx9⟩
  obtain ⟨g, c9, rfl, -, -, hcell, hfz, hc9, -⟩ := hu9.open (by decide)
  simp only [List.length_cons, List.length_nil] at *
  have y6 : ∀ w', Ext w9 w' → w'.cell? ⟨g, 6, none⟩ = some (.int .u8 255) := fun w' hx => hx.cell (hcell 6 (by decide))
  clear hcell hfz hu9
  go_wp2_with fail
  refine (awake7_any _).mono ?_
  rintro e w10 ⟨rfl, hx10⟩
  have z6 := y6 _ hx10
  clear y6
  go_wp2
  go_ret
  refine ⟨rfl, ?_⟩
  have y := hx1 |>.tr hx2 |>.tr hx3 |>.tr hx4 |>.tr hx5 |>.tr hx6 |>.al _ |>.al _ |>.tr hx7 |>.al _ |>.tr hx8 |>.al _ |>.al _ |>.tr hx9 |>.tr hx10
  exact y
end Go.Proofs.Ythhkdjoonnofdaa.udpKnown
