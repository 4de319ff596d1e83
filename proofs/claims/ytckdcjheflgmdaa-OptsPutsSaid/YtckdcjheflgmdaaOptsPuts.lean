/-
  Proved here: the law OptsPuts returns true. Condition: each slice at most 2^47 - 4096 bytes (the form's own reach).
-/
import Derived.Test.YtckdcjheflgmdaaRef5W
import Derived.Test.YtckdcjheflgmdaaRef5P
import Derived.Deep.Cut
namespace Go.Proofs.Ytckdcjheflgmdaa.optsPuts
set_option maxRecDepth 16000
open Go.ChangeShapes Go.WideShapes Go.ChangeAt Go.RowKit Go.Cul Go.Loose
set_option linter.unusedVariables false

theorem few_again (os : List Op1) : fewM (fewM os) = fewM os := by
  unfold fewM
  rw [← List.map_take, List.take_take, Nat.min_self, List.map_map]
  congr 1
  funext o
  simp [few1, List.take_take]

set_option maxHeartbeats 1000000 in
theorem walk (w : World) (v0 : Value) (h0 : Reads w (.rows 2 32 (.agg 2 (.more 1 (.int .u8) (.more 1 (.ints .u8 1) .done)))) [v0]) (v1 : Value) (h1 : Reads w (.rows 2 32 (.agg 2 (.more 1 (.int .u8) (.more 1 (.ints .u8 1) .done)))) [v1]) (kd : Int) (hkd : 0 ≤ kd ∧ kd ≤ 255) :
    Calls Try.prog 6 #[v0, v1, .int .u8 kd] w fun e w' => e = .returned (.bool true) ∧ Ext w w' := by
  obtain ⟨os, hr, hby, -, -⟩ := rdo_of_rows h0
  obtain ⟨os2, hr2, hby2, -, -⟩ := rdo_of_rows h1
  clear h0 h1
  obtain ⟨a0, c0, rfl⟩ := hr.shape
  obtain ⟨a1, c1, rfl⟩ := hr2.shape
  have HF := Lib.hid (few_any (.slice a0 os.length c0) os w hr)
  have HF2 := Lib.hid (fun (w' : World) (hx : Ext w w') => few_any (.slice a1 os2.length c1) os2 w' (hr2.ext hx))
  have HB := Lib.hid (fewM_byt hby)
  have HB2 := Lib.hid (fewM_byt hby2)
  have hl := fewM_len os
  have hag := Lib.hid (few_again os)
  have h300 : ∀ o ∈ fewM os, o.2.length ≤ 140737488351232 := by
    intro o ho
    obtain ⟨x, hx, rfl⟩ := List.mem_map.1 ho
    unfold few1
    dsimp only
    rw [List.length_take]; omega
  have H300 := Lib.hid h300
  clear h300 hr hr2 hby hby2
  generalize fewM os = M at *
  generalize fewM os2 = M2 at *
  go_enter Try.func6, Try.ntmps6
  go_wp2_with fail
  refine HF.out.mono ?_
  rintro e w1 ⟨u1, rfl, hm1, hx1⟩
  have ho1 := hm1.rdo
  obtain ⟨a2, c2, rfl⟩ := ho1.shape
  clear hm1 HF
  go_wp2_with fail
  refine (HF2.out w1 hx1).mono ?_
  rintro e w2 ⟨u2, rfl, hm2, hx2⟩
  have ho2 := hm2.rdo
  obtain ⟨a3, c3, rfl⟩ := ho2.shape
  have ho1 := ho1.ext hx2
  have hx02 := hx1.tr hx2
  clear hm2 HF2 hx1 hx2
  obtain ⟨X, E, hO⟩ : ∃ X E, oput M = (X, E) := ⟨_, _, rfl⟩
  have hXb := oput_byt HB.out
  rw [hO] at hXb
  have HXB := Lib.hid hXb
  have HP := Lib.hid (oput_lit M X E hO _ w2 ho1 HB.out)
  have hq := fun (w' : World) (hx : Ext w2 w') => r5put_any _ M w' (ho1.ext hx) HB.out (by omega)
  rw [hO] at hq
  have HQ := Lib.hid hq
  have HO1 := Lib.hid ho1
  have HO2 := Lib.hid ho2
  clear hO hXb hq ho1 ho2
  go_wp2_with fail
  refine HP.out.mono ?_
  rintro e w3 ⟨u3, rfl, hu3, hx3⟩
  obtain ⟨a4, n4, c4, rfl⟩ := hu3.rd.shape
  have HU3 := Lib.hid hu3.rd
  clear hu3 HP
  go_wp2_with fail
  refine (HQ.out _ hx3).mono ?_
  rintro e w4 ⟨u4, rfl, hu4, hx4⟩
  have HU4 := Lib.hid hu4.rd
  obtain ⟨a5, n5, c5, rfl⟩ := hu4.rd.shape
  clear hu4 HQ
  go_wp2_with fail
  refine (awake5_any _).mono ?_
  rintro e w5 ⟨rfl, hx5⟩
  have HE := Lib.hid (beq_any _ _ X X w5 (HU3.out.ext (Ext.tr hx4 hx5)) (HU4.out.ext hx5) HXB.out HXB.out)
  rw [show decide (X = X) = true from decide_eq_true rfl] at HE
  go_wp2_with fail
  refine HE.out.mono ?_
  rintro e w6 ⟨rfl, hx6⟩
  have hx26 := Ext.tr hx3 (Ext.tr hx4 (Ext.tr hx5 hx6))
  clear HE HU3 HU4 hx3 hx4 hx5 hx6
  have HW := Lib.hid (without_any _ M kd w6 (HO1.out.ext hx26) (by omega) H300.out)
  go_wp2_with fail
  refine HW.out.mono ?_
  rintro e w7 ⟨u7, rfl, hu7, hx7⟩
  have HU7 := Lib.hid hu7.rdo
  obtain ⟨a7, c7, rfl⟩ := hu7.rdo.shape
  clear hu7 HW
  have HW := Lib.hid (r5without_any _ M kd w7 ((HO1.out.ext hx26).ext hx7) (by omega))
  go_wp2_with fail
  refine HW.out.mono ?_
  rintro e w8 ⟨u8, rfl, hu8, hx8⟩
  have hbw : BytO (owo M kd) := fun o ho => HB.out o (List.mem_filter.1 ho).1
  have HS := Lib.hid (r5same_any _ _ _ _ w8 (HU7.out.ext hx8) hu8 hbw hbw)
  rw [show decide (owo M kd = owo M kd) = true from decide_eq_true rfl] at HS
  obtain ⟨a8, c8, rfl⟩ := hu8.shape
  clear hu8 HW hbw
  go_wp2_with fail
  refine HS.out.mono ?_
  rintro e w9 ⟨rfl, hx9⟩
  have hx29 := hx26.tr (hx7.tr (hx8.tr hx9))
  clear HS hx26 hx7 hx8 hx9 HU7
  have hsa := osame_any _ _ M M2 w9 (HO1.out.ext hx29) (HO2.out.ext hx29) HB.out HB2.out
  have hsb := fun (w' : World) (hx : Ext w9 w') => r5same_any _ _ M M2 w' ((HO1.out.ext hx29).ext hx) ((HO2.out.ext hx29).ext hx) HB.out HB2.out
  have hfb := fun (w' : World) (hx : Ext w9 w') => few_any _ M w' ((HO1.out.ext hx29).ext hx)
  generalize decide (M = M2) = q at *
  have HSA := Lib.hid hsa
  have HSB := Lib.hid hsb
  have HFB := Lib.hid hfb
  clear hsa hsb hfb
  go_wp2_with fail
  refine HSA.out.mono ?_
  rintro e w10 ⟨rfl, hx10⟩
  go_wp2_with fail
  refine (HSB.out _ hx10).mono ?_
  rintro e w11 ⟨rfl, hx11⟩
  have hq : (q == q) = true := by cases q <;> rfl
  have hxb := Ext.tr hx10 hx11
  go_wp2_with fail
  refine (HFB.out _ hxb).mono ?_
  rintro e w12 ⟨u12, rfl, hm12, hx12⟩
  have ho12 := hm12.rdo
  rw [hag.out] at ho12
  have HS := Lib.hid (osame_any _ _ M M w12 ((HO1.out.ext hx29).ext (hxb.tr hx12)) ho12 HB.out HB.out)
  rw [show decide (M = M) = true from decide_eq_true rfl] at HS
  obtain ⟨a12, c12, rfl⟩ := ho12.shape
  clear hm12 ho12
  go_wp2_with fail
  refine HS.out.mono ?_
  rintro e w13 ⟨rfl, hx13⟩
  go_wp2_with fail
  go_ret
  exact ⟨rfl, hx02.tr (hx29.tr (hxb.tr (hx12.tr hx13)))⟩
end Go.Proofs.Ytckdcjheflgmdaa.optsPuts
