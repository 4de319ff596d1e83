/-
  Proved here: the law OptsBack returns true. Condition: each slice at most 2^47 - 4096 bytes (the form's own reach).
-/
import Derived.Test.YtckdcjheflgmdaaOptA
import Derived.Deep.Cut
namespace Go.Proofs.Ytckdcjheflgmdaa.optsBack
set_option maxRecDepth 16000
open Go.ChangeShapes Go.WideShapes Go.ChangeAt Go.RowKit Go.Cul Go.Loose
set_option linter.unusedVariables false
attribute [local go_sem] Loose.Still Loose.Upon Loose.vUpon

theorem few_300 {os : List Op1} : ∀ o ∈ fewM os, o.2.length ≤ 300 := by
  intro o ho
  obtain ⟨x, hx, rfl⟩ := List.mem_map.1 ho
  unfold few1
  dsimp only
  rw [List.length_take]; omega
theorem flat_le300 {os : List Op1} (h : ∀ o ∈ os, o.2.length ≤ 300) : (flat os).length ≤ 302 * os.length := by
  induction os with
  | nil => exact Nat.le_refl _
  | cons o os ih =>
    have h1 := ih (fun x hx => h x (List.mem_cons_of_mem _ hx))
    have h2 := h o (List.mem_cons_self ..)
    rw [flat_cons, List.length_append, ob_len, List.length_cons]
    omega

theorem badO_no {k : Int} {D : List Int} (h1 : 1 < k) (h2 : D.length ≤ 38) : badO (k, D) = false := by
  unfold badO
  rw [decide_eq_false (show ¬ k < 2 by omega), decide_eq_false (show ¬ 38 < D.length by omega)]; rfl
theorem badO_k {k : Int} {D : List Int} (h1 : ¬ 1 < k) : badO (k, D) = true := by
  unfold badO
  rw [decide_eq_true (show k < 2 by omega)]; rfl
theorem badO_d {k : Int} {D : List Int} (h2 : ¬ D.length ≤ 38) : badO (k, D) = true := by
  unfold badO
  dsimp only
  rw [decide_eq_true (show 38 < D.length by omega), Bool.or_true]

theorem oput_3 (M : List Op1) : (M.any badO = true ∧ oput M = ([], 1)) ∨ (M.any badO = false ∧ (flat M).length ≤ 40 ∧ oput M = (flat M ++ zeros (pad (flat M).length), 0)) ∨ (M.any badO = false ∧ 40 < (flat M).length ∧ oput M = ([], 3)) := by
  unfold oput
  rcases h : M.any badO with _ | _
  · by_cases h4 : 40 < (flat M).length
    · rw [if_neg (by simp), if_pos h4]; exact .inr (.inr ⟨rfl, h4, rfl⟩)
    · rw [if_neg (by simp), if_neg h4]; exact .inr (.inl ⟨rfl, by omega, rfl⟩)
  · rw [if_pos rfl]; exact .inl ⟨rfl, rfl⟩

set_option maxHeartbeats 1000000 in
theorem walk (w : World) (v0 : Value) (h0 : Reads w (.rows 2 32 (.agg 2 (.more 1 (.int .u8) (.more 1 (.ints .u8 1) .done)))) [v0]) (v : Value) (l : List Int) (hv : Rd .u8 w v l) (hb : Byt l) (hn : l.length * 1 ≤ 140737488351232) :
    Calls Try.prog 4 #[v0, v] w fun e w' => e = .returned (.bool true) ∧ Ext w w' := by
  obtain ⟨os, hr, hby, -, -⟩ := rdo_of_rows h0
  clear h0
  obtain ⟨a0, c0, rfl⟩ := hr.shape
  obtain ⟨a, cap, rfl, hc1, hc2, hrr⟩ := hv
  have hv : Rd .u8 w (.slice a l.length cap) l := ⟨a, cap, rfl, hc1, hc2, hrr⟩
  obtain ⟨m, hm⟩ : ∃ m : Nat, m = min l.length 60 := ⟨_, rfl⟩
  have hml : m ≤ l.length := by omega
  have hm16 : m ≤ 60 := by omega
  have hv1 := hv.take hml
  have hmin : (if (60 : Int) < (l.length : Int) then (60 : Int) else (l.length : Int)) = (m : Int) := by split <;> omega
  have hLl : (l.take m).length = m := by rw [List.length_take]; omega
  have hb1 := Lib.hid (hb.take m)
  have HLl := Lib.hid hLl
  have HV := Lib.hid hv1
  have hmc : m ≤ cap := by omega
  unfold maxLen at hc2
  clear hrr hb hv hm hLl hv1
  generalize l.take m = L at *
  have HFB := Lib.hid (fewM_byt hby)
  have hfl := fewM_len os
  have H300 := Lib.hid (few_300 (os := os))
  have HF := Lib.hid (fun (w' : World) (hx : Ext w w') => few_any (.slice a0 os.length c0) os w' (hr.ext hx))
  clear hr hby
  generalize fewM os = M at *
  go_enter Try.func4, Try.ntmps4
  go_upto_region 1 with (fail)
  refine wp_region_grow [(1, fun v w' => RdO w' v M)] ?_ (by kernel_rfl) (by kernel_rfl) ?_
  · exact lasts_cons (fun _ _ _ hx h => RdO.ext h hx) lasts_nil
  iterate 1
    apply wpL_none rfl rfl
    · intro w' hw' hn'; go_simp; exact rfl
    intro K hK; go_simp; refine hK _ _ ?_; clear hK K
  apply wpL_some rfl rfl
  · intro w' hw' hn'
    go_simp
    refine ⟨Ext.rfl' _, ?_⟩
    refine (HF.out w' hw').mono ?_
    rintro e w2 ⟨u, rfl, hu, hx⟩
    exact ⟨_, rfl, hx, hu.rdo⟩
  intro v1 w1 hw1 hD1 hv1
  obtain ⟨a1, c1, rfl⟩ := hv1.shape
  clear hw1 hD1 hv1 w1
  intro K hK; go_simp; refine hK _ _ ?_; clear hK K
  iterate 7
    apply wpL_none rfl rfl
    · intro w' hw' hn'; go_simp; exact rfl
    intro K hK; go_simp; refine hK _ _ ?_; clear hK K
  refine wpL_nil ?_
  intro w1 hw1 hD1
  have hv1 := hD1 1
  simp [Loose.upd] at hv1
  have hv := HV.out.ext hw1
  clear hD1 HF
  obtain ⟨X, E, hO⟩ : ∃ X E, oput M = (X, E) := ⟨_, _, rfl⟩
  have HO := Lib.hid hO
  clear hO
  have hput := oput_lit M X E HO.out _ w1 hv1 HFB.out
  have HPut := Lib.hid hput
  clear hput
  go_wp2_with fail
  refine HPut.out.mono ?_
  rintro e w2 ⟨x, rfl, hx2own, hx2⟩
  have hv2 := hv1.ext hx2
  have hv := hv.ext hx2
  have hw2 : Ext w w2 := Ext.tr hw1 hx2
  obtain ⟨ax, cx, rfl, hcx1, hcx2, -⟩ := id hx2own.rd
  have HR := Lib.hid hx2own.rd
  have HM := Lib.hid hv2
  clear hx2own HPut hv1 hx2 hw1
  obtain ⟨a1', c1', he, hc3, hc4, hrw⟩ := hv2
  cases he
  unfold maxLen at hc4
  have HRW := Lib.hid hrw
  clear hrw
  go_wp2_with fail
  go_loopw [7, 8, 33] (fun u n i wr => ∃ k : Nat, k ≤ M.length ∧ i = .int .i64 k ∧ u = .bool (!((M.take k).any badO)) ∧ n = .int .i64 ((flat (M.take k)).length : Nat) ∧ Ext w2 wr) (fun _ _ i _ => M.length - (intOf i).toNat)
  case atStart => exact ⟨0, Nat.zero_le _, rfl, rfl, rfl, Ext.rfl' _⟩
  case round =>
    obtain ⟨k, hk, rfl, rfl, rfl, hx⟩ := hrel
    by_cases hlt : k < M.length
    · rcases HRW.out with h0 | ⟨b, o, rfl, hrw⟩
      · rw [h0] at hlt; simp at hlt
      obtain ⟨u, e0, e1, hu⟩ := hrw k hlt
      clear hrw
      have e0 := hx.cell e0
      have e1 := hx.cell e1
      have hf1 := flat_take hlt
      have hf2 : (flat (M.take k)).length ≤ 302 * 20 := by
        have h := flat_le300 (os := M.take k) (fun o ho => H300.out o (List.mem_of_mem_take ho))
        rw [List.length_take] at h
        omega
      have hD : (M.getD k (0, [])).2.length ≤ 300 := by
        refine H300.out _ ?_
        have : M.getD k (0, []) = M[k] := by simp [List.getD, hlt]
        rw [this]; exact List.getElem_mem hlt
      have hany : (M.take (k + 1)).any badO = ((M.take k).any badO || badO (M.getD k (0, []))) := by
        rw [take_succ_getD' (0, []) M k hlt]; simp
      generalize M.getD k (0, []) = y at *
      obtain ⟨kd, D⟩ := y
      dsimp only at e0 hu hD
      obtain ⟨au, cu, rfl, hcu1, hcu2, -⟩ := hu
      unfold maxLen at hcu2
      have hln : (flat (M.take (k + 1))).length = (flat (M.take k)).length + (2 + D.length) := by rw [hf1, List.length_append, ob_len]; dsimp only; omega
      have HLn := Lib.hid hln
      have HAny := Lib.hid hany
      generalize (flat (M.take k)).length = N at *
      generalize (M.take k).any badO = bb at *
      have hw1 : IntKind.i64.wrap (2 + (D.length : Int)) = 2 + D.length := by rw [IntWalk.i64_in _ (by omega)]
      have hw2 : IntKind.i64.wrap ((N : Int) + (2 + (D.length : Int))) = ((N + (2 + D.length) : Nat) : Int) := by rw [IntWalk.i64_in _ (by omega)]; omega
      clear hln hany hf1
      cases bb with
      | true =>
        have hb2 : Hid ((M.take (k + 1)).any badO = true) := by unfold Hid; rw [HAny.out]; rfl
        go_wp2_with fail
        go_roundw
        case rel => exact ⟨k + 1, by omega, by go_num, by rw [hb2.out]; rfl, by rw [HLn.out, Int.natCast_add, Int.natCast_add]; rfl, hx.al _⟩
        case measure => simp [intOf]; omega
      | false =>
        by_cases hkd : 1 < kd
        · by_cases h38 : D.length ≤ 38
          · have hb2 : Hid ((M.take (k + 1)).any badO = false) := by unfold Hid; rw [HAny.out, badO_no hkd h38]; rfl
            have h38' : (D.length : Int) ≤ 38 := by omega
            clear h38
            go_wp2_with fail
            go_roundw
            case rel => exact ⟨k + 1, by omega, by go_num, by rw [hb2.out]; rfl, by rw [HLn.out, Int.natCast_add, Int.natCast_add]; rfl, hx.al _⟩
            case measure => simp [intOf]; omega
          · have hb2 : Hid ((M.take (k + 1)).any badO = true) := by unfold Hid; rw [HAny.out, badO_d h38]; rfl
            have h38' : ¬ (D.length : Int) ≤ 38 := by omega
            clear h38
            go_wp2_with fail
            go_roundw
            case rel => exact ⟨k + 1, by omega, by go_num, by rw [hb2.out]; rfl, by rw [HLn.out, Int.natCast_add, Int.natCast_add]; rfl, hx.al _⟩
            case measure => simp [intOf]; omega
        · have hb2 : Hid ((M.take (k + 1)).any badO = true) := by unfold Hid; rw [HAny.out, badO_k hkd]; rfl
          go_wp2_with fail
          go_roundw
          case rel => exact ⟨k + 1, by omega, by go_num, by rw [hb2.out]; rfl, by rw [HLn.out, Int.natCast_add, Int.natCast_add]; rfl, hx.al _⟩
          case measure => simp [intOf]; omega
    · obtain rfl : k = M.length := by omega
      rw [List.take_length]
      clear HRW
      have h3 := oput_3 M
      rw [HO.out] at h3
      generalize M.any badO = bb at *
      generalize hNe : (flat M).length = N at *
      have HNe := Lib.hid hNe
      have H3 := Lib.hid h3
      clear h3 hNe
      go_upto_region 10 with (fail)
      go_cut [69] from 56 (fun u wc => u = .bool false ∧ wc = wr)
      case first =>
        rcases H3.out with ⟨rfl, he⟩ | ⟨rfl, h4, he⟩ | ⟨rfl, h4, he⟩
        · cases he
          go_wp2_with fail
          go_meet
          case rel => exact ⟨rfl, rfl⟩
        · have h4' : (N : Int) ≤ 40 := by omega
          obtain rfl : E = 0 := (Prod.mk.inj he).2
          clear he h4
          go_wp2_with fail
          go_meet
          case rel => exact ⟨rfl, rfl⟩
        · have h4' : ¬ (N : Int) ≤ 40 := by omega
          obtain rfl : E = 3 := (Prod.mk.inj he).2
          clear he h4
          go_wp2_with fail
          go_meet
          case rel => exact ⟨rfl, rfl⟩
      obtain ⟨rfl, hwc⟩ := hcut
      subst hwc
      go_upto_if 71 with (fail)
      go_cut [] from 72 (fun wd => Ext wc wd)
      case first =>
        by_cases hE : E = 0
        · have h3 : bb = false ∧ N ≤ 40 ∧ X = flat M ++ zeros (pad N) := by
            rcases H3.out with ⟨-, he⟩ | ⟨h1, h4, he⟩ | ⟨-, -, he⟩
            · rw [hE] at he; cases he
            · exact ⟨h1, h4, (Prod.mk.inj he).1⟩
            · rw [hE] at he; cases he
          subst hE
          obtain ⟨rfl, h40, hX⟩ := h3
          have hXl : X.length = N + pad N := by rw [hX, List.length_append, HNe.out]; simp [zeros]
          have hpar : opar X = (M, 0) := by have h := opar_put (os := M) (by rw [HO.out]); rw [HO.out] at h; exact h
          have hXb : Byt X := by have h := oput_byt (os := M) HFB.out; rw [HO.out] at h; exact h
          have hpd : pad N ≤ 3 ∧ (N + pad N) % 4 = 0 ∧ N + pad N ≤ 40 := by unfold pad; omega
          have q1 : ¬ (40 : Int) < (X.length : Int) := by omega
          have q2 : Int.tmod (X.length : Int) 4 = 0 := by rw [Int.tmod_eq_emod_of_nonneg (by omega)]; omega
          have q3 : ¬ (X.length : Int) < (N : Int) := by omega
          have q4 : ¬ (N : Int) + 3 < (X.length : Int) := by omega
          have q5 : IntKind.i64.wrap ((N : Int) + 3) = N + 3 := by rw [IntWalk.i64_in _ (by omega)]
          have q6 : (X.length : Int) % 4 = 0 := by omega
          have HP := Lib.hid (oparse_lit X M 0 hpar _ wc (HR.out.ext hx) hXb (by omega))
          clear hX hXl hpar hpd
          go_wp2_with fail
          refine HP.out.mono ?_
          rintro e w3 ⟨u3, rfl, hu3, hx3⟩
          have HS := Lib.hid (osame_any _ _ M M w3 ((HM.out.ext hx).ext hx3) hu3.rdo HFB.out HFB.out)
          obtain ⟨a3, c3, rfl⟩ := hu3.rdo.shape
          rw [show decide (M = M) = true from decide_eq_true rfl] at HS
          clear hu3
          go_wp2_with fail
          refine HS.out.mono ?_
          rintro e w4 ⟨rfl, hx4⟩
          go_wp2_with fail
          go_meet
          case rel => exact Ext.tr hx3 hx4
        · have hE' : (E == 0) = false := by simp [hE]
          clear hE
          go_wp2_with fail
          go_meet
          case rel => exact Ext.rfl' _
      have hx5 := hx.tr hcut
      clear hcut hx
      obtain ⟨P, F, hPF⟩ : ∃ P F, opar L = (P, F) := ⟨_, _, rfl⟩
      have HL1 : L.length ≤ 60 := by rw [HLl.out]; exact hm16
      have HP := Lib.hid (oparse_lit L P F hPF _ _ (hv.ext hx5) hb1.out (by omega))
      have hag := fun h => opar_again (l := L) hb1.out h
      have hPb := opar_byt (l := L) hb1.out
      have her := fun h => opar_err (l := L) h
      rw [hPF] at hag hPb her
      have HAG := Lib.hid hag
      have HPB := Lib.hid hPb
      have HER := Lib.hid her
      clear hPF hag hPb her HL1
      go_wp2_with fail
      refine HP.out.mono ?_
      rintro e w6 ⟨u6, rfl, hu6, hx6⟩
      have HU6 := Lib.hid hu6.rdo
      obtain ⟨a6, c6, rfl⟩ := hu6.rdo.shape
      have hx6 := hw2.tr (hx5.tr hx6)
      clear hu6 HP
      by_cases hF : F = 0
      · subst hF
        obtain ⟨hY0, hY1⟩ := HAG.out rfl
        have HPb : BytO P := HPB.out
        obtain ⟨Y, hY⟩ : ∃ Y, oput P = (Y, 0) := ⟨(oput P).1, by rw [← hY0]⟩
        have hYb := oput_byt (os := P) HPb
        have hYl := (oput_len P).1
        try dsimp only at hY1
        rw [hY] at hY1 hYb hYl
        try dsimp only at hY1 hYb hYl
        have HPut := Lib.hid (oput_lit P Y 0 hY _ w6 HU6.out HPb)
        have HY1 := Lib.hid hY1
        have HYB := Lib.hid hYb
        clear hY hY0 hY1 hYb HPb
        go_wp2_with fail
        refine HPut.out.mono ?_
        rintro e w7 ⟨u7, rfl, hu7, hx7⟩
        have HP7 := Lib.hid (oparse_lit Y P 0 HY1.out _ w7 hu7.rd HYB.out (by omega))
        obtain ⟨a7, n7, c7, rfl⟩ := hu7.rd.shape
        clear hu7
        go_wp2_with fail
        refine HP7.out.mono ?_
        rintro e w8 ⟨u8, rfl, hu8, hx8⟩
        have hxb := Ext.tr hx7 hx8
        have hS := fun (w' : World) (h : Ext w8 w') => osame_any _ _ P P w' (HU6.out.ext (hxb.tr h)) (hu8.rdo.ext h) HPB.out HPB.out
        obtain ⟨a8, c8, rfl⟩ := hu8.rdo.shape
        rw [show decide (P = P) = true from decide_eq_true rfl] at hS
        have HS := Lib.hid hS
        clear hu8 hS
        go_wp2_with fail
        refine (awake5_any _).mono ?_
        rintro e w9 ⟨rfl, hx9⟩
        go_wp2_with fail
        refine (HS.out _ hx9).mono ?_
        rintro e w10 ⟨rfl, hx10⟩
        go_wp2_with fail
        go_ret
        exact ⟨rfl, hx6.tr (hxb.tr (hx9.tr hx10))⟩
      · have hP : P = [] := HER.out hF
        subst hP
        have hF' : (F != 0) = true := by simpa using hF
        clear hF
        go_wp2_with fail
        refine (awake5_any _).mono ?_
        rintro e w9 ⟨rfl, hx9⟩
        go_wp2_with fail
        go_ret
        exact ⟨rfl, hx6.tr hx9⟩
end Go.Proofs.Ytckdcjheflgmdaa.optsBack
