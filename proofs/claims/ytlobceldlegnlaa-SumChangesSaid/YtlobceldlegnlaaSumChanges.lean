/-
  Proved here: the law SumChanges returns true. Condition: each slice at most 2^47 - 4096 bytes (the form's own reach).
-/
import Derived.Test.YtlobceldlegnlaaSumWakes
import Derived.Test.YtlobceldlegnlaaSumChg
import Derived.Test.YtlobceldlegnlaaLoose
namespace Go.Proofs.Ytlobceldlegnlaa.sumChanges
open Go.ChangeShapes Go.WideShapes Go.ChangeAt Go.RowKit Go.Cul Go.Loose
set_option linter.unusedVariables false
set_option maxRecDepth 100000
attribute [local go_sem] Loose.Still Loose.Upon

theorem w16_at {l : List Int} (h : ∀ x ∈ l, 0 ≤ x ∧ x ≤ 65535) (i : Nat) : 0 ≤ l.getD i 0 ∧ l.getD i 0 ≤ 65535 := by
  by_cases hi : i < l.length
  · have : l.getD i 0 = l[i] := by simp [List.getD, hi]
    rw [this]; exact h _ (List.getElem_mem hi)
  · have : l.getD i 0 = 0 := by simp [List.getD, List.getElem?_eq_none (show l.length ≤ i by omega)]
    rw [this]; decide

set_option maxHeartbeats 4000000 in
theorem walk (w : World) (v0 : Value) (l0 : List Int) (r0 : Rd .u8 w v0 l0) (b0 : Byt l0) (n0 : l0.length * 1 ≤ 140737488351232) (f : Int) (hf : 0 ≤ f ∧ f ≤ 65535) (x : Int) (hx : 0 ≤ x ∧ x ≤ 65535)
    (v4 : Value) (l4 : List Int) (r4 : Rd .u16 w v4 l4) (b4 : ∀ x ∈ l4, 0 ≤ x ∧ x ≤ 65535) (n4 : l4.length * 2 ≤ 140737488351232) :
    Calls Try.prog 4 #[v0, .int .u16 f, .int .u16 x, v4] w fun e w' => e = .returned (.bool true) ∧ Ext w w' := by
  obtain ⟨f, rfl⟩ := Int.eq_ofNat_of_zero_le hf.1
  obtain ⟨x, rfl⟩ := Int.eq_ofNat_of_zero_le hx.1
  obtain ⟨a4, c4, rfl, hc4, hm4, hr4⟩ := r4
  have Hr4 := Lib.hid hr4
  have B4 := Lib.hid b4
  unfold maxLen at hm4
  have hub := ev_byt b0
  have hul := ev_len l0
  have hup := padn_le l0.length
  have hue := ev_ok l0
  have HUB := Lib.hid hub
  have hln : (ev l0).length ≤ 140737488351236 := by omega
  clear hub hul hup b0 hr4 b4
  go_enter Try.func4, Try.ntmps4
  go_wp2_with fail
  refine (even_any _ _ _ r0 (by omega)).mono ?_
  rintro e w1 ⟨u, rfl, hu, hx1⟩
  generalize ev l0 = E at *
  obtain ⟨g, cu, rfl, hg1, hg2, -, -, hcu, hmu, -⟩ := hu.open (by omega)
  unfold maxLen at hmu
  go_wp2_with fail
  refine (lay_any _ _ f 0 _ _ hu hue.1 hue.2 (by omega) (by omega)).mono ?_
  rintro e w2 ⟨rfl, hown2, hg2', hs2⟩
  have hb2 : Ext w w2 := hu.grow hg2' hx1
  have l2 := layl_len E f 0
  have by2 := layl_byt HUB.out f (x := 0) (by omega)
  have cs2 := csum_bd by2
  have BY2 := Lib.hid by2
  clear hu hg2' hs2 by2
  go_wp2_with fail
  refine (field_any _ [layl E f 0] _ (rds_one hown2.rd rfl) (fun l hl => by rw [List.mem_singleton.1 hl]; exact BY2.out) (by simp; omega)).mono ?_
  rintro e w3 ⟨rfl, hx3⟩
  rw [show csum [layl E f 0].flatten = csum (layl E f 0) from by rw [List.flatten_singleton]]
  have hown3 := hown2.kept ((Ext.new _ _).tr hx3)
  have hb3 : Ext w w3 := hb2.tr ((Ext.new _ _).tr hx3)
  go_wp2_with fail
  refine (lay_any _ _ f (65535 - csum (layl E f 0)) _ _ hown3 (by omega) (by omega) (by omega) (by omega)).mono ?_
  rintro e w4 ⟨rfl, hown4, hg4, hs4⟩
  have hb4 : Ext w w4 := hown3.grow hg4 hb3
  have l4' := layl_len (layl E f 0) f (65535 - csum (layl E f 0))
  have by4 := layl_byt BY2.out f (x := 65535 - csum (layl E f 0)) (by omega)
  have hc4' := laid_right (t := f) HUB.out hue.1 hue.2
  rw [l2] at l4'
  have BY4 := Lib.hid by4
  have HC4 := Lib.hid hc4'
  clear hown2 hown3 hg4 hs4 by4 hc4' hx3 cs2 l2
  generalize layl (layl E f 0) f (65535 - csum (layl E f 0)) = L at *
  have hrL := hown4.rd
  have hLl : L.length ≤ 140737488351236 := by omega
  have HL4 := Lib.hid l4'
  clear l4'
  go_wp2_with fail
  refine (right_any _ [L] _ (rds_one hrL rfl) (fun l hl => by rw [List.mem_singleton.1 hl]; exact BY4.out) (by simp; omega)).mono ?_
  rintro e w5 ⟨rfl, hx5⟩
  rw [show (csum [L].flatten == 65535) = true from by rw [List.flatten_singleton, HC4.out]; rfl]
  have hown5 := hown4.kept ((Ext.new _ _).tr hx5)
  have hb5 : Ext w w5 := hb4.tr ((Ext.new _ _).tr hx5)
  rcases hz : zerosl L f with _ | _
  · go_wp2_with fail
    refine (zeros_any _ L f _ hown5.rd (by rw [HL4.out]; exact hue.1) (by omega)).mono ?_
    rintro e w' ⟨rfl, rfl⟩
    rw [hz]
    clear hz
    go_wp2_with fail
    refine (right_any _ [L] _ (rds_one hown5.rd rfl) (fun l hl => by rw [List.mem_singleton.1 hl]; exact BY4.out) (by simp; omega)).mono ?_
    rintro e w6 ⟨rfl, hx6⟩
    rw [show (csum [L].flatten == 65535) = true from by rw [List.flatten_singleton, HC4.out]; rfl]
    have hown6 := hown5.kept ((Ext.new _ _).tr hx6)
    have hb6 : Ext w w6 := hb5.tr ((Ext.new _ _).tr hx6)
    clear hown5 hb5 hown4 hb4 hrL
    go_wp2_with fail
    have hst : Own w6 w.heap.size 5 .u8 (.slice (some ⟨g, 0, none⟩) E.length cu) L := hown6
    have n0' : (((E.length : Int) / 2) == 0) = false := by rw [beq_eq_false_iff_ne]; omega
    have n1' : 0 < (E.length : Int) / 2 := by omega
    go_loopw [10] (fun i wr => ∃ (j : Nat) (M : List Int), j ≤ l4.length ∧ j ≤ 20 ∧ i = .int .i64 j ∧ Own wr w.heap.size 5 .u8 (.slice (some ⟨g, 0, none⟩) E.length cu) M ∧ Hid (M.length = E.length) ∧ Hid (Byt M) ∧ Hid (csum M = 65535) ∧ Ext w wr) (fun i _ => 20 - (intOf i).toNat)
    case atStart => exact ⟨0, L, Nat.zero_le _, by omega, rfl, hst, HL4, BY4, HC4, hb6⟩
    case round =>
      obtain ⟨j, M, hj, hj20, rfl, hown, LM, BM, CM, hxw⟩ := hrel
      clear hst hown6 hb6 hLl
      by_cases hj1 : j < l4.length
      · by_cases hj2 : j < 20
        · rcases Hr4.out with h0 | ⟨b4, o4, rfl, hrw⟩
          · rw [h0] at hj1; simp at hj1
          have hcX := hxw.cell (hrw j hj1)
          have hX := w16_at B4.out j
          clear hrw
          generalize l4.getD j 0 = X at *
          obtain ⟨kk, hkk⟩ : ∃ kk : Nat, (x : Int) + (j : Int) = (kk : Int) := ⟨x + j, by omega⟩
          have hkb : (kk : Int) ≤ 131072 := by omega
          have hML : M.length ≤ 140737488351236 := by rw [LM.out]; omega
          obtain ⟨m, hm⟩ : ∃ m, m = E.length / 2 := ⟨_, rfl⟩
          have HW : Hid (IntKind.i64.wrap ((E.length : Int) / 2) = (m : Int)) := by unfold Hid; rw [IntWalk.i64_in _ (by omega)]; omega
          have HM0 : Hid (¬ (m = 0)) := by unfold Hid; omega
          have EK : (kk : Int) % (m : Int) = ((kk % m : Nat) : Int) := by rw [Int.natCast_emod]
          have EF : (f : Int) % (m : Int) = ((f % m : Nat) : Int) := by rw [Int.natCast_emod]
          by_cases hE : kk % (E.length / 2) = f % (E.length / 2)
          · have HQ : Hid (((kk : Int).tmod (m : Int) == (f : Int).tmod (m : Int)) = true) := by
              rw [← hm] at hE
              unfold Hid; rw [Int.tmod_eq_emod_of_nonneg (by omega), Int.tmod_eq_emod_of_nonneg (by omega), EK, EF, hE]; simp
            have HQ2 : Hid ((kk : Int) % (m : Int) = (f : Int) % (m : Int)) := by
              rw [← hm] at hE
              unfold Hid; rw [EK, EF, hE]
            clear hE hm EK EF
            go_wp2_with fail
            refine wp_region_grow [] lasts_nil (by kernel_rfl) (by kernel_rfl) ?_
            iterate 11
              apply wpL_none rfl rfl
              · intro w' hw' hn'; have q1 := HW.out; have q4 := HM0.out; have q5 := HQ.out; have q6 := HQ2.out; go_simp; exact rfl
              intro K hK; go_simp; refine hK _ _ ?_; clear hK K
            refine wpL_nil ?_
            intro w7 hw7 _
            go_wp2_with fail
            go_roundw
            case rel => exact ⟨j + 1, M, by omega, by omega, by go_num, hown.kept hw7, LM, BM, CM, hxw.tr hw7⟩
            case measure => simp [intOf]; omega
          · have HQ : Hid (((kk : Int).tmod (m : Int) == (f : Int).tmod (m : Int)) = false) := by
              rw [← hm] at hE
              unfold Hid; rw [Int.tmod_eq_emod_of_nonneg (by omega), Int.tmod_eq_emod_of_nonneg (by omega), EK, EF]; exact beq_eq_false_iff_ne.2 (by omega)
            have HQ2 : Hid (¬ ((kk : Int) % (m : Int) = (f : Int) % (m : Int))) := by
              rw [← hm] at hE
              unfold Hid; rw [EK, EF]; omega
            have hEM : kk % (M.length / 2) ≠ f % (M.length / 2) := by rw [LM.out]; exact hE
            have HEM := Lib.hid hEM
            clear hE hEM hm EK EF
            go_wp2_with fail
            refine wp_region_grow [] lasts_nil (by kernel_rfl) (by kernel_rfl) ?_
            iterate 11
              apply wpL_none rfl rfl
              · intro w' hw' hn'; have q1 := HW.out; have q4 := HM0.out; have q5 := HQ.out; have q6 := HQ2.out; go_simp; exact rfl
              intro K hK; go_simp; refine hK _ _ ?_; clear hK K
            refine wpL_nil ?_
            intro w7 hw7 _
            have hrM := (hown.kept hw7).rd
            replace hcX := Ext.cell hw7 hcX
            have wf := wordl_bd BM.out f
            have wk := wordl_bd BM.out kk
            go_wp2_with fail
            refine wp_region_grow [(2, is (.int .u16 (wordl M f))), (5, is (.int .u16 (wordl M kk))), (10, is (.int .u16 (cword (wordl M f) (wordl M kk) X)))] (lasts_is (lasts_is (lasts_is lasts_nil))) (by kernel_rfl) (by kernel_rfl) ?_
            iterate 2
              apply wpL_none rfl rfl
              · intro w' hw' hn'; go_simp; exact rfl
              intro K hK; go_simp; refine hK _ _ ?_; clear hK K
            apply wpL_some rfl rfl
            · intro w' hw' hn'
              go_simp
              refine ⟨Ext.rfl' _, ?_⟩
              refine (word2_any _ M f _ (hrM.ext hw') BM.out (by rw [LM.out]; exact hue.1) (by rw [LM.out]; exact hue.2) (by omega)).mono ?_
              rintro e w2 ⟨rfl, hx⟩
              exact ⟨_, rfl, hx, rfl⟩
            intro v w' hw' hD' hv
            obtain rfl : v = _ := hv
            clear hw' hD' w'
            intro K hK; go_simp; refine hK _ _ ?_; clear hK K
            iterate 2
              apply wpL_none rfl rfl
              · intro w' hw' hn'; go_simp; exact rfl
              intro K hK; go_simp; refine hK _ _ ?_; clear hK K
            apply wpL_some rfl rfl
            · intro w' hw' hn'
              go_simp
              refine ⟨Ext.rfl' _, ?_⟩
              refine (word2_any _ M kk _ (hrM.ext hw') BM.out (by rw [LM.out]; exact hue.1) (by rw [LM.out]; exact hue.2) (by omega)).mono ?_
              rintro e w2 ⟨rfl, hx⟩
              exact ⟨_, rfl, hx, rfl⟩
            intro v w' hw' hD' hv
            obtain rfl : v = _ := hv
            clear hw' hD' w'
            intro K hK; go_simp; refine hK _ _ ?_; clear hK K
            iterate 4
              apply wpL_none rfl rfl
              · intro w' hw' hn'; have d1 := Ext.cell hw' hcX; go_simp; exact rfl
              intro K hK; go_simp; refine hK _ _ ?_; clear hK K
            apply wpL_some rfl rfl
            · intro w' hw' hn'
              go_simp
              refine ⟨Ext.rfl' _, ?_⟩
              refine (word_any _ _ _ _ wf.1 wf.2 wk.1 wk.2 hX.1 hX.2).mono ?_
              rintro e w2 ⟨rfl, hx⟩
              exact ⟨_, rfl, by rw [hx]; exact Ext.rfl' _, rfl⟩
            intro v w' hw' hD' hv
            obtain rfl : v = _ := hv
            clear hw' hD' w'
            intro K hK; go_simp; refine hK _ _ ?_; clear hK K
            iterate 1
              apply wpL_none rfl rfl
              · intro w' hw' hn'; go_simp; exact rfl
              intro K hK; go_simp; refine hK _ _ ?_; clear hK K
            refine wpL_nil ?_
            intro w8 hw8 _
            have hwn := cword_bd wf.1 wf.2 wk.1 wk.2 hX.1 (b := X)
            have hM4 : 4 ≤ M.length := by rw [LM.out]; exact hue.1
            have hM2 : M.length % 2 = 0 := by rw [LM.out]; exact hue.2
            have hzT := step_zero (k := kk) (f := f) BM.out hM4 hM2 hX hwn
            have hzF := step_right (k := kk) (f := f) BM.out hM4 hM2 HEM.out hX CM.out
            have HZT := Lib.hid hzT
            have HZF := Lib.hid hzF
            replace hcX := Ext.cell hw8 hcX
            have hownA := (hown.kept hw7).kept hw8
            have hbA := (hxw.tr hw7).tr hw8
            clear hzT hzF hown hrM
            generalize cword (wordl M f) (wordl M kk) X = N at *
            go_wp2_with fail
            refine (lay_any _ _ kk X _ _ hownA hM4 hM2 (by omega) hX).mono ?_
            rintro e w9 ⟨rfl, hownB, hgB, -⟩
            have hbB := hownA.grow hgB hbA
            have LB := layl_len M kk X
            have bB := layl_byt BM.out kk hX
            have HLB := Lib.hid LB
            have HBB := Lib.hid bB
            clear hownA hgB LB bB
            go_wp2_with fail
            refine (lay_any _ _ f 0 _ _ hownB (by rw [HLB.out]; exact hM4) (by rw [HLB.out]; exact hM2) (by omega) (by omega)).mono ?_
            rintro e w10 ⟨rfl, hownC, hgC, -⟩
            have hbC := hownB.grow hgC hbB
            have LC := (layl_len (layl M kk X) f 0).trans HLB.out
            have bC := layl_byt HBB.out f (x := 0) (by omega)
            have csC := csum_bd bC
            have hLC : (layl (layl M kk X) f 0).length ≤ 140737488351236 := by rw [LC]; exact hML
            have HLC := Lib.hid LC
            have HBC := Lib.hid bC
            clear hownB hgC LC bC
            generalize layl (layl M kk X) f 0 = C at *
            go_wp2_with fail
            refine (field_any _ [C] _ (rds_one hownC.rd rfl) (fun l hl => by rw [List.mem_singleton.1 hl]; exact HBC.out) (by simp; omega)).mono ?_
            rintro e w11 ⟨rfl, hx11⟩
            rw [show csum [C].flatten = csum C from by rw [List.flatten_singleton]]
            have hownD := hownC.kept ((Ext.new _ _).tr hx11)
            have hbD := hbC.tr ((Ext.new _ _).tr hx11)
            clear hownC hx11
            go_wp2_with fail
            refine (lay_any _ _ f N _ _ hownD (by rw [HLC.out]; exact hM4) (by rw [HLC.out]; exact hM2) (by omega) hwn).mono ?_
            rintro e w12 ⟨rfl, hownE, hgE, -⟩
            have hbE := hownD.grow hgE hbD
            have LE := (layl_len C f N).trans HLC.out
            have bE := layl_byt HBC.out f hwn
            have hLE : (layl C f N).length ≤ 140737488351236 := by rw [LE]; exact hML
            have HLE := Lib.hid LE
            have HBE := Lib.hid bE
            clear hownD hgE LE bE
            generalize layl C f N = D at *
            rcases hz : zerosl D f with _ | _
            · have hzz := HZF.out hz
              have HZ1 := Lib.hid hzz.1
              have HZ2 := Lib.hid hzz.2
              clear hzz
              go_wp2_with fail
              refine (zeros_any _ D f _ hownE.rd (by rw [HLE.out]; exact hM4) (by omega)).mono ?_
              rintro e w' ⟨rfl, rfl⟩
              rw [hz]
              clear hz
              go_wp2_with fail
              refine (right_any _ [D] _ (rds_one hownE.rd rfl) (fun l hl => by rw [List.mem_singleton.1 hl]; exact HBE.out) (by simp; omega)).mono ?_
              rintro e w13 ⟨rfl, hx13⟩
              rw [show (csum [D].flatten == 65535) = true from by rw [List.flatten_singleton, HZ1.out]; rfl]
              go_wp2_with fail
              refine (like_any _ _ _).mono ?_
              rintro e w' ⟨rfl, rfl⟩
              rw [HZ2.out]
              go_wp2_with fail
              go_roundw
              case rel => exact ⟨j + 1, D, by omega, by omega, by go_num, hownE.kept ((Ext.new _ _).tr hx13), HLE.out.trans LM.out, HBE, HZ1, hbE.tr ((Ext.new _ _).tr hx13)⟩
              case measure => simp [intOf]; omega
            · have hzz := HZT.out hz
              have HZ1 := Lib.hid hzz
              clear hzz
              go_wp2_with fail
              refine (zeros_any _ D f _ hownE.rd (by rw [HLE.out]; exact hM4) (by omega)).mono ?_
              rintro e w' ⟨rfl, rfl⟩
              rw [hz]
              clear hz
              go_wp2_with fail
              refine (lay_any _ _ f (65535 - csum C) _ _ hownE (by rw [HLE.out]; exact hM4) (by rw [HLE.out]; exact hM2) (by omega) (by omega)).mono ?_
              rintro e w13 ⟨rfl, hownF, hgF, -⟩
              have hbF := hownE.grow hgF hbE
              have LF : Hid ((layl D f (65535 - csum C)).length = E.length) := ((layl_len D f (65535 - csum C)).trans HLE.out).trans LM.out
              have BF : Hid (Byt (layl D f (65535 - csum C))) := layl_byt HBE.out f (by omega)
              generalize layl D f (65535 - csum C) = G at *
              go_wp2_with fail
              go_roundw
              case rel => exact ⟨j + 1, G, by omega, by omega, by go_num, hownF, LF, BF, HZ1, hbF⟩
              case measure => simp [intOf]; omega
        · go_wp2_with fail
          refine (wakes_any _).mono ?_
          rintro e w7 ⟨rfl, hx7⟩
          go_wp2
          go_ret
          exact ⟨rfl, hxw.tr hx7⟩
      · go_wp2_with fail
        refine (wakes_any _).mono ?_
        rintro e w7 ⟨rfl, hx7⟩
        go_wp2
        go_ret
        exact ⟨rfl, hxw.tr hx7⟩
  · go_wp2_with fail
    refine (zeros_any _ L f _ hown5.rd (by rw [HL4.out]; exact hue.1) (by omega)).mono ?_
    rintro e w' ⟨rfl, rfl⟩
    rw [hz]
    go_wp2_with fail
    refine (zeros_any _ L f _ hown5.rd (by rw [HL4.out]; exact hue.1) (by omega)).mono ?_
    rintro e w' ⟨rfl, rfl⟩
    rw [hz]
    clear hz
    go_wp2_with fail
    refine (right_any _ [L] _ (rds_one hown5.rd rfl) (fun l hl => by rw [List.mem_singleton.1 hl]; exact BY4.out) (by simp; omega)).mono ?_
    rintro e w6 ⟨rfl, hx6⟩
    rw [show (csum [L].flatten == 65535) = true from by rw [List.flatten_singleton, HC4.out]; rfl]
    have hown6 := hown5.kept ((Ext.new _ _).tr hx6)
    have hb6 : Ext w w6 := hb5.tr ((Ext.new _ _).tr hx6)
    clear hown5 hb5 hown4 hb4 hrL
    go_wp2_with fail
    have hst : Own w6 w.heap.size 5 .u8 (.slice (some ⟨g, 0, none⟩) E.length cu) L := hown6
    have n0' : (((E.length : Int) / 2) == 0) = false := by rw [beq_eq_false_iff_ne]; omega
    have n1' : 0 < (E.length : Int) / 2 := by omega
    go_loopw [10] (fun i wr => ∃ (j : Nat) (M : List Int), j ≤ l4.length ∧ j ≤ 20 ∧ i = .int .i64 j ∧ Own wr w.heap.size 5 .u8 (.slice (some ⟨g, 0, none⟩) E.length cu) M ∧ Hid (M.length = E.length) ∧ Hid (Byt M) ∧ Hid (csum M = 65535) ∧ Ext w wr) (fun i _ => 20 - (intOf i).toNat)
    case atStart => exact ⟨0, L, Nat.zero_le _, by omega, rfl, hst, HL4, BY4, HC4, hb6⟩
    case round =>
      obtain ⟨j, M, hj, hj20, rfl, hown, LM, BM, CM, hxw⟩ := hrel
      clear hst hown6 hb6 hLl
      by_cases hj1 : j < l4.length
      · by_cases hj2 : j < 20
        · rcases Hr4.out with h0 | ⟨b4, o4, rfl, hrw⟩
          · rw [h0] at hj1; simp at hj1
          have hcX := hxw.cell (hrw j hj1)
          have hX := w16_at B4.out j
          clear hrw
          generalize l4.getD j 0 = X at *
          obtain ⟨kk, hkk⟩ : ∃ kk : Nat, (x : Int) + (j : Int) = (kk : Int) := ⟨x + j, by omega⟩
          have hkb : (kk : Int) ≤ 131072 := by omega
          have hML : M.length ≤ 140737488351236 := by rw [LM.out]; omega
          obtain ⟨m, hm⟩ : ∃ m, m = E.length / 2 := ⟨_, rfl⟩
          have HW : Hid (IntKind.i64.wrap ((E.length : Int) / 2) = (m : Int)) := by unfold Hid; rw [IntWalk.i64_in _ (by omega)]; omega
          have HM0 : Hid (¬ (m = 0)) := by unfold Hid; omega
          have EK : (kk : Int) % (m : Int) = ((kk % m : Nat) : Int) := by rw [Int.natCast_emod]
          have EF : (f : Int) % (m : Int) = ((f % m : Nat) : Int) := by rw [Int.natCast_emod]
          by_cases hE : kk % (E.length / 2) = f % (E.length / 2)
          · have HQ : Hid (((kk : Int).tmod (m : Int) == (f : Int).tmod (m : Int)) = true) := by
              rw [← hm] at hE
              unfold Hid; rw [Int.tmod_eq_emod_of_nonneg (by omega), Int.tmod_eq_emod_of_nonneg (by omega), EK, EF, hE]; simp
            have HQ2 : Hid ((kk : Int) % (m : Int) = (f : Int) % (m : Int)) := by
              rw [← hm] at hE
              unfold Hid; rw [EK, EF, hE]
            clear hE hm EK EF
            go_wp2_with fail
            refine wp_region_grow [] lasts_nil (by kernel_rfl) (by kernel_rfl) ?_
            iterate 11
              apply wpL_none rfl rfl
              · intro w' hw' hn'; have q1 := HW.out; have q4 := HM0.out; have q5 := HQ.out; have q6 := HQ2.out; go_simp; exact rfl
              intro K hK; go_simp; refine hK _ _ ?_; clear hK K
            refine wpL_nil ?_
            intro w7 hw7 _
            go_wp2_with fail
            go_roundw
            case rel => exact ⟨j + 1, M, by omega, by omega, by go_num, hown.kept hw7, LM, BM, CM, hxw.tr hw7⟩
            case measure => simp [intOf]; omega
          · have HQ : Hid (((kk : Int).tmod (m : Int) == (f : Int).tmod (m : Int)) = false) := by
              rw [← hm] at hE
              unfold Hid; rw [Int.tmod_eq_emod_of_nonneg (by omega), Int.tmod_eq_emod_of_nonneg (by omega), EK, EF]; exact beq_eq_false_iff_ne.2 (by omega)
            have HQ2 : Hid (¬ ((kk : Int) % (m : Int) = (f : Int) % (m : Int))) := by
              rw [← hm] at hE
              unfold Hid; rw [EK, EF]; omega
            have hEM : kk % (M.length / 2) ≠ f % (M.length / 2) := by rw [LM.out]; exact hE
            have HEM := Lib.hid hEM
            clear hE hEM hm EK EF
            go_wp2_with fail
            refine wp_region_grow [] lasts_nil (by kernel_rfl) (by kernel_rfl) ?_
            iterate 11
              apply wpL_none rfl rfl
              · intro w' hw' hn'; have q1 := HW.out; have q4 := HM0.out; have q5 := HQ.out; have q6 := HQ2.out; go_simp; exact rfl
              intro K hK; go_simp; refine hK _ _ ?_; clear hK K
            refine wpL_nil ?_
            intro w7 hw7 _
            have hrM := (hown.kept hw7).rd
            replace hcX := Ext.cell hw7 hcX
            have wf := wordl_bd BM.out f
            have wk := wordl_bd BM.out kk
            go_wp2_with fail
            refine wp_region_grow [(2, is (.int .u16 (wordl M f))), (5, is (.int .u16 (wordl M kk))), (10, is (.int .u16 (cword (wordl M f) (wordl M kk) X)))] (lasts_is (lasts_is (lasts_is lasts_nil))) (by kernel_rfl) (by kernel_rfl) ?_
            iterate 2
              apply wpL_none rfl rfl
              · intro w' hw' hn'; go_simp; exact rfl
              intro K hK; go_simp; refine hK _ _ ?_; clear hK K
            apply wpL_some rfl rfl
            · intro w' hw' hn'
              go_simp
              refine ⟨Ext.rfl' _, ?_⟩
              refine (word2_any _ M f _ (hrM.ext hw') BM.out (by rw [LM.out]; exact hue.1) (by rw [LM.out]; exact hue.2) (by omega)).mono ?_
              rintro e w2 ⟨rfl, hx⟩
              exact ⟨_, rfl, hx, rfl⟩
            intro v w' hw' hD' hv
            obtain rfl : v = _ := hv
            clear hw' hD' w'
            intro K hK; go_simp; refine hK _ _ ?_; clear hK K
            iterate 2
              apply wpL_none rfl rfl
              · intro w' hw' hn'; go_simp; exact rfl
              intro K hK; go_simp; refine hK _ _ ?_; clear hK K
            apply wpL_some rfl rfl
            · intro w' hw' hn'
              go_simp
              refine ⟨Ext.rfl' _, ?_⟩
              refine (word2_any _ M kk _ (hrM.ext hw') BM.out (by rw [LM.out]; exact hue.1) (by rw [LM.out]; exact hue.2) (by omega)).mono ?_
              rintro e w2 ⟨rfl, hx⟩
              exact ⟨_, rfl, hx, rfl⟩
            intro v w' hw' hD' hv
            obtain rfl : v = _ := hv
            clear hw' hD' w'
            intro K hK; go_simp; refine hK _ _ ?_; clear hK K
            iterate 4
              apply wpL_none rfl rfl
              · intro w' hw' hn'; have d1 := Ext.cell hw' hcX; go_simp; exact rfl
              intro K hK; go_simp; refine hK _ _ ?_; clear hK K
            apply wpL_some rfl rfl
            · intro w' hw' hn'
              go_simp
              refine ⟨Ext.rfl' _, ?_⟩
              refine (word_any _ _ _ _ wf.1 wf.2 wk.1 wk.2 hX.1 hX.2).mono ?_
              rintro e w2 ⟨rfl, hx⟩
              exact ⟨_, rfl, by rw [hx]; exact Ext.rfl' _, rfl⟩
            intro v w' hw' hD' hv
            obtain rfl : v = _ := hv
            clear hw' hD' w'
            intro K hK; go_simp; refine hK _ _ ?_; clear hK K
            iterate 1
              apply wpL_none rfl rfl
              · intro w' hw' hn'; go_simp; exact rfl
              intro K hK; go_simp; refine hK _ _ ?_; clear hK K
            refine wpL_nil ?_
            intro w8 hw8 _
            have hwn := cword_bd wf.1 wf.2 wk.1 wk.2 hX.1 (b := X)
            have hM4 : 4 ≤ M.length := by rw [LM.out]; exact hue.1
            have hM2 : M.length % 2 = 0 := by rw [LM.out]; exact hue.2
            have hzT := step_zero (k := kk) (f := f) BM.out hM4 hM2 hX hwn
            have hzF := step_right (k := kk) (f := f) BM.out hM4 hM2 HEM.out hX CM.out
            have HZT := Lib.hid hzT
            have HZF := Lib.hid hzF
            replace hcX := Ext.cell hw8 hcX
            have hownA := (hown.kept hw7).kept hw8
            have hbA := (hxw.tr hw7).tr hw8
            clear hzT hzF hown hrM
            generalize cword (wordl M f) (wordl M kk) X = N at *
            go_wp2_with fail
            refine (lay_any _ _ kk X _ _ hownA hM4 hM2 (by omega) hX).mono ?_
            rintro e w9 ⟨rfl, hownB, hgB, -⟩
            have hbB := hownA.grow hgB hbA
            have LB := layl_len M kk X
            have bB := layl_byt BM.out kk hX
            have HLB := Lib.hid LB
            have HBB := Lib.hid bB
            clear hownA hgB LB bB
            go_wp2_with fail
            refine (lay_any _ _ f 0 _ _ hownB (by rw [HLB.out]; exact hM4) (by rw [HLB.out]; exact hM2) (by omega) (by omega)).mono ?_
            rintro e w10 ⟨rfl, hownC, hgC, -⟩
            have hbC := hownB.grow hgC hbB
            have LC := (layl_len (layl M kk X) f 0).trans HLB.out
            have bC := layl_byt HBB.out f (x := 0) (by omega)
            have csC := csum_bd bC
            have hLC : (layl (layl M kk X) f 0).length ≤ 140737488351236 := by rw [LC]; exact hML
            have HLC := Lib.hid LC
            have HBC := Lib.hid bC
            clear hownB hgC LC bC
            generalize layl (layl M kk X) f 0 = C at *
            go_wp2_with fail
            refine (field_any _ [C] _ (rds_one hownC.rd rfl) (fun l hl => by rw [List.mem_singleton.1 hl]; exact HBC.out) (by simp; omega)).mono ?_
            rintro e w11 ⟨rfl, hx11⟩
            rw [show csum [C].flatten = csum C from by rw [List.flatten_singleton]]
            have hownD := hownC.kept ((Ext.new _ _).tr hx11)
            have hbD := hbC.tr ((Ext.new _ _).tr hx11)
            clear hownC hx11
            go_wp2_with fail
            refine (lay_any _ _ f N _ _ hownD (by rw [HLC.out]; exact hM4) (by rw [HLC.out]; exact hM2) (by omega) hwn).mono ?_
            rintro e w12 ⟨rfl, hownE, hgE, -⟩
            have hbE := hownD.grow hgE hbD
            have LE := (layl_len C f N).trans HLC.out
            have bE := layl_byt HBC.out f hwn
            have hLE : (layl C f N).length ≤ 140737488351236 := by rw [LE]; exact hML
            have HLE := Lib.hid LE
            have HBE := Lib.hid bE
            clear hownD hgE LE bE
            generalize layl C f N = D at *
            rcases hz : zerosl D f with _ | _
            · have hzz := HZF.out hz
              have HZ1 := Lib.hid hzz.1
              have HZ2 := Lib.hid hzz.2
              clear hzz
              go_wp2_with fail
              refine (zeros_any _ D f _ hownE.rd (by rw [HLE.out]; exact hM4) (by omega)).mono ?_
              rintro e w' ⟨rfl, rfl⟩
              rw [hz]
              clear hz
              go_wp2_with fail
              refine (right_any _ [D] _ (rds_one hownE.rd rfl) (fun l hl => by rw [List.mem_singleton.1 hl]; exact HBE.out) (by simp; omega)).mono ?_
              rintro e w13 ⟨rfl, hx13⟩
              rw [show (csum [D].flatten == 65535) = true from by rw [List.flatten_singleton, HZ1.out]; rfl]
              go_wp2_with fail
              refine (like_any _ _ _).mono ?_
              rintro e w' ⟨rfl, rfl⟩
              rw [HZ2.out]
              go_wp2_with fail
              go_roundw
              case rel => exact ⟨j + 1, D, by omega, by omega, by go_num, hownE.kept ((Ext.new _ _).tr hx13), HLE.out.trans LM.out, HBE, HZ1, hbE.tr ((Ext.new _ _).tr hx13)⟩
              case measure => simp [intOf]; omega
            · have hzz := HZT.out hz
              have HZ1 := Lib.hid hzz
              clear hzz
              go_wp2_with fail
              refine (zeros_any _ D f _ hownE.rd (by rw [HLE.out]; exact hM4) (by omega)).mono ?_
              rintro e w' ⟨rfl, rfl⟩
              rw [hz]
              clear hz
              go_wp2_with fail
              refine (lay_any _ _ f (65535 - csum C) _ _ hownE (by rw [HLE.out]; exact hM4) (by rw [HLE.out]; exact hM2) (by omega) (by omega)).mono ?_
              rintro e w13 ⟨rfl, hownF, hgF, -⟩
              have hbF := hownE.grow hgF hbE
              have LF : Hid ((layl D f (65535 - csum C)).length = E.length) := ((layl_len D f (65535 - csum C)).trans HLE.out).trans LM.out
              have BF : Hid (Byt (layl D f (65535 - csum C))) := layl_byt HBE.out f (by omega)
              generalize layl D f (65535 - csum C) = G at *
              go_wp2_with fail
              go_roundw
              case rel => exact ⟨j + 1, G, by omega, by omega, by go_num, hownF, LF, BF, HZ1, hbF⟩
              case measure => simp [intOf]; omega
        · go_wp2_with fail
          refine (wakes_any _).mono ?_
          rintro e w7 ⟨rfl, hx7⟩
          go_wp2
          go_ret
          exact ⟨rfl, hxw.tr hx7⟩
      · go_wp2_with fail
        refine (wakes_any _).mono ?_
        rintro e w7 ⟨rfl, hx7⟩
        go_wp2
        go_ret
        exact ⟨rfl, hxw.tr hx7⟩
end Go.Proofs.Ytlobceldlegnlaa.sumChanges
