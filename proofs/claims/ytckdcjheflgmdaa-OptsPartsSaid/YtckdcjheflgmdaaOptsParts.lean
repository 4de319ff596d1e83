/-
  Proved here: the law OptsParts returns true. Condition: each slice at most 2^47 - 4096 bytes (the form's own reach).
-/
import Derived.Test.YtckdcjheflgmdaaRep
import Derived.Test.YtckdcjheflgmdaaOptBk
import Derived.Deep.Cut
namespace Go.Proofs.Ytckdcjheflgmdaa.optsParts
set_option maxRecDepth 16000
open Go.ChangeShapes Go.WideShapes Go.ChangeAt Go.RowKit Go.Cul Go.Loose
set_option linter.unusedVariables false
attribute [local go_sem] Loose.Still Loose.Upon Loose.vUpon

theorem wpList_appMg {w : World} {ops : Array Oper} {rest : List Oper} {o : Oper} {a : Act} {Q : Exit → Act → World → Prop} (hw : Region.wanted o (yielded ops a.tmps) = true) (s x : Operand)
    (ho : o.op = .call { callee := .builtin .append, args := #[s, x], argTypes := #[23, 23] }) (base : Nat) (v : Value) (os : List Op1) (hs : a.eval s = v) (hv : MiO w base v os) (u : Value) (rs : List Op1) (hx : a.eval x = u) (hr : SrcO base w u rs)
    (hn : os.length + rs.length ≤ 100000) (hbase : base ≤ w.heap.size)
    (h : ∀ v' w', MiO w' base v' (os ++ rs) → (∀ w0 : World, w0.heap.size ≤ base → Ext w0 w → Ext w0 w') → wpList Try.prog ops Q rest (a.put o.dst v') w') : wpList Try.prog ops Q (o :: rest) a w :=
  wpList_step fun _ hK => by
    simp only [hw, if_true]
    obtain ⟨v', w', hrun, h2, h3⟩ := run_appM w base o.type v os hv u rs hr hn hbase
    unfold Oper.wp execOp
    simp only [ho, resolve, invoke, builtin, Sem.run_bind, Sem.run_pure, Result.andThen_ok, List.map_toArray, List.map_cons, List.map_nil, hs, hx, hrun]
    exact hK _ _ (h v' w' h2 h3)
theorem flat_le4 {os : List Op1} (h : os.any badO = false) : (flat os).length ≤ 40 * os.length := by
  induction os with
  | nil => exact Nat.le_refl _
  | cons o os ih =>
    simp only [List.any_cons, Bool.or_eq_false_iff] at h
    have h1 := ih h.2
    have h2 := h.1
    unfold badO at h2
    simp only [Bool.or_eq_false_iff, decide_eq_false_iff_not] at h2
    rw [flat_cons, List.length_append, ob_len, List.length_cons]
    omega
theorem oput_3 (M : List Op1) : (M.any badO = true ∧ oput M = ([], 1)) ∨ (M.any badO = false ∧ (flat M).length ≤ 40 ∧ oput M = (flat M ++ zeros (pad (flat M).length), 0)) ∨ (M.any badO = false ∧ 40 < (flat M).length ∧ oput M = ([], 3)) := by
  unfold oput
  rcases h : M.any badO with _ | _
  · by_cases h4 : 40 < (flat M).length
    · rw [if_neg (by simp), if_pos h4]; exact .inr (.inr ⟨rfl, h4, rfl⟩)
    · rw [if_neg (by simp), if_neg h4]; exact .inr (.inl ⟨rfl, by omega, rfl⟩)
  · rw [if_pos rfl]; exact .inl ⟨rfl, rfl⟩
/-- One row of options behind another, 01s between. -/
theorem opar_parts {A B : List Op1} (hA : A.any badO = false) (hB : B.any badO = false) (q n : Nat) (hl : (flat A ++ List.replicate q 1 ++ (flat B ++ zeros n)).length ≤ 40) : opar (flat A ++ List.replicate q 1 ++ (flat B ++ zeros n)) = (A ++ B, 0) := by
  have h : opS (flat A ++ List.replicate q 1 ++ (flat B ++ zeros n)) = (A ++ B, 0) := by
    rw [List.append_assoc, opS_flat hA, opS_ones, opS_flat hB, opS_zeros]
    simp
  unfold opar
  rw [if_neg (by omega), h]
  simp
/-- The last byte is away. -/
theorem opS_cut : ∀ {A : List Op1}, A ≠ [] → A.any badO = false → (opS ((flat A).take ((flat A).length - 1))).2 = 4
  | [], h, _ => absurd rfl h
  | o :: A, _, hb => by
    simp only [List.any_cons, Bool.or_eq_false_iff] at hb
    have h2 : ¬ o.1 < 2 ∧ ¬ 38 < o.2.length := by
      have := hb.1
      unfold badO at this
      simpa using this
    rw [flat_cons]
    by_cases hA : A = []
    · subst hA
      obtain ⟨k, D⟩ := o
      dsimp only at h2
      rw [flat_nil, List.append_nil, ob_len]
      by_cases hD : D = []
      · subst hD
        show (opS [k]).2 = 4
        rw [opS_lone (by omega) (by omega)]
      · have hd : 0 < D.length := List.length_pos_iff.2 hD
        have e : (ob (k, D)).take (D.length + 2 - 1) = k :: ((2 + D.length : Nat) : Int) :: D.take (D.length - 1) := by
          unfold ob
          obtain ⟨d, hdd⟩ : ∃ d, D.length = d + 1 := ⟨D.length - 1, by omega⟩
          rw [show D.length + 2 - 1 = D.length - 1 + 1 + 1 by omega]
          simp
        dsimp only
        rw [e, opS_short _ (by omega) (by omega) (by omega) (by rw [List.length_take]; omega)]
    · have hpos : 2 ≤ (flat A).length := by
        cases A with
        | nil => exact absurd rfl hA
        | cons x A => rw [flat_cons, List.length_append, ob_len]; omega
      have e : (ob o ++ flat A).take ((ob o ++ flat A).length - 1) = ob o ++ (flat A).take ((flat A).length - 1) := by
        rw [List.take_append, List.length_append, List.take_of_length_le (by omega)]
        congr 2
        omega
      rw [e, opS_ob hb.1]
      exact opS_cut hA hb.2
theorem opar_cut {A : List Op1} (h : A ≠ []) (hb : A.any badO = false) (hl : (flat A).length ≤ 40) : opar ((flat A).take ((flat A).length - 1)) = ([], 4) := by
  have h4 := opS_cut h hb
  unfold opar
  rw [if_neg (by rw [List.length_take]; omega), if_neg (by rw [h4]; decide), h4]

set_option maxHeartbeats 2000000 in
theorem walk (w : World) (v0 : Value) (h0 : Reads w (.rows 2 32 (.agg 2 (.more 1 (.int .u8) (.more 1 (.ints .u8 1) .done)))) [v0]) (v1 : Value) (h1 : Reads w (.rows 2 32 (.agg 2 (.more 1 (.int .u8) (.more 1 (.ints .u8 1) .done)))) [v1]) (nn : Int) (hnn : 0 ≤ nn ∧ nn ≤ 255) :
    Calls Try.prog 9 #[v0, v1, .int .u8 nn] w fun e w' => e = .returned (.bool true) ∧ Ext w w' := by
  obtain ⟨os, hr, hby, -, -⟩ := rdo_of_rows h0
  obtain ⟨os2, hr2, hby2, -, -⟩ := rdo_of_rows h1
  clear h0 h1
  obtain ⟨a0, c0, rfl⟩ := hr.shape
  obtain ⟨a1, c1, rfl⟩ := hr2.shape
  have HF := Lib.hid (few_any (.slice a0 os.length c0) os w hr)
  have HF2 := Lib.hid (fun (w' : World) (hx : Ext w w') => few_any (.slice a1 os2.length c1) os2 w' (hr2.ext hx))
  have HB := Lib.hid (fewM_byt hby)
  have HB2 := Lib.hid (fewM_byt hby2)
  clear hr hr2 hby hby2
  generalize fewM os = M at *
  generalize fewM os2 = M2 at *
  go_enter Try.func9, Try.ntmps9
  go_wp2_with fail
  refine HF.out.mono ?_
  rintro e w1 ⟨u1, rfl, hm1, hx1⟩
  have ho1 := hm1.rdo
  obtain ⟨a2, c2, rfl, hc1, hc2, -⟩ := id ho1
  clear hm1 HF
  go_wp2_with fail
  refine (HF2.out w1 hx1).mono ?_
  rintro e w2 ⟨u2, rfl, hm2, hx2⟩
  have ho2 := hm2.rdo
  obtain ⟨a3, c3, rfl, hc3, hc4, -⟩ := id ho2
  have ho1 := ho1.ext hx2
  have hx02 := hx1.tr hx2
  clear hm2 HF2 hx1 hx2
  unfold maxLen at hc2 hc4
  obtain ⟨m, hm⟩ : ∃ m : Nat, m = min M.length 4 := ⟨_, rfl⟩
  obtain ⟨m2, hm2⟩ : ∃ m2 : Nat, m2 = min M2.length 4 := ⟨_, rfl⟩
  have hA := ho1.take (m := m) (by omega)
  have hB := ho2.take (m := m2) (by omega)
  have hmin : (if (4 : Int) < (M.length : Int) then (4 : Int) else (M.length : Int)) = (m : Int) := by split <;> omega
  have hmin2 : (if (4 : Int) < (M2.length : Int) then (4 : Int) else (M2.length : Int)) = (m2 : Int) := by split <;> omega
  have hAl : (M.take m).length = m := by rw [List.length_take]; omega
  have hBl : (M2.take m2).length = m2 := by rw [List.length_take]; omega
  have hAb := HB.out.take m
  have hBb := HB2.out.take m2
  have hm4 : m ≤ 4 ∧ m ≤ c2 := by omega
  have hm24 : m2 ≤ 4 ∧ m2 ≤ c3 := by omega
  have hm4' : (0 : Int) ≤ (m : Int) ∧ (m : Int) ≤ (c2 : Int) := by omega
  have hm24' : (0 : Int) ≤ (m2 : Int) ∧ (m2 : Int) ≤ (c3 : Int) := by omega
  clear ho1 ho2 hm hm2 HB HB2
  generalize M.take m = A at *
  generalize M2.take m2 = B at *
  have HAl := Lib.hid hAl
  have HBl := Lib.hid hBl
  have HAb := Lib.hid hAb
  have HBb := Lib.hid hBb
  have HA := Lib.hid hA
  have HB := Lib.hid hB
  clear hAl hBl hAb hBb hA hB
  go_upto_region 2 with (fail)
  refine wp_region_grow [] lasts_nil (by kernel_rfl) (by kernel_rfl) ?_
  iterate 12
    apply wpL_none rfl rfl
    · intro w' hw' hn'; go_simp; exact rfl
    intro K hK; go_simp; refine hK _ _ ?_; clear hK K
  refine wpL_nil ?_
  intro w3 hw3 hD3
  have HA := Lib.hid (HA.out.ext hw3)
  have HB := Lib.hid (HB.out.ext hw3)
  have hx03 : Ext w w3 := hx02.tr hw3
  clear hD3 hx02 hw3 hmin hmin2
  go_wp2_with fail
  go_loopw [7, 32] (fun u i wr => ∃ k : Nat, k ≤ m ∧ i = .int .i64 k ∧ Own wr w3.heap.size 5 .u8 u (flat (A.take k)) ∧ Hid ((A.take k).any badO = false) ∧ Ext w3 wr) (fun _ i _ => m - (intOf i).toNat)
  case atStart => exact ⟨0, Nat.zero_le _, rfl, Own.nil _ _ _ _, (show ([] : List Op1).any badO = false from rfl), Ext.rfl' _⟩
  case round =>
    obtain ⟨k, hk, rfl, hown, hbad, hx⟩ := hrel
    by_cases hltm : k < m
    · have hlt : k < A.length := by rw [HAl.out]; exact hltm
      obtain ⟨a', c', he, hq1, hq2, hr⟩ := HA.out
      rw [HAl.out] at he hq1
      cases he
      rcases hr with h0 | ⟨b, o, rfl, hrw⟩
      · rw [h0] at hlt; simp at hlt
      obtain ⟨ud, e0, e1, hu⟩ := hrw k hlt
      clear hrw
      have hu0 := hu
      have e0 := hx.cell e0
      have e1 := hx.cell e1
      have ht := Lib.hid (flat_take hlt)
      have hfl : (flat (A.take k)).length ≤ 40 * 4 := by
        have h := flat_le4 hbad.out
        rw [List.length_take] at h
        omega
      have hbt : Hid (badO (A.getD k (0, [])) = false → (A.take (k + 1)).any badO = false) := fun h => by
        rw [take_succ_getD' (0, []) A k hlt, List.any_append, hbad.out]; simpa using h
      have hkb := (HAb.out.at k).1
      obtain ⟨ad, nd, cd, rfl⟩ := hu.shape
      generalize hL : flat (A.take k) = L at *
      clear hL
      generalize A.getD k (0, []) = x at *
      obtain ⟨kd, D⟩ := x
      dsimp only at e0 e1 hu hu0 hkb
      obtain ⟨ad', cd', hud, hcd1, hcd2, -⟩ := id hu
      cases hud
      unfold maxLen at hcd2
      by_cases hkd : kd < 2
      · obtain ⟨au, nu, cu, rfl⟩ := hown.rd.shape
        clear hu
        go_wp2_with fail
        refine (awake5_any _).mono ?_
        rintro e wz ⟨rfl, hxz⟩
        go_wp2_with fail
        go_ret
        exact ⟨rfl, hx03.tr (Ext.tr (hx.al _) hxz)⟩
      by_cases h38 : 38 < D.length
      · have h38' : (38 : Int) < (D.length : Int) := by omega
        obtain ⟨au, nu, cu, rfl⟩ := hown.rd.shape
        clear hu
        go_wp2_with fail
        refine (awake5_any _).mono ?_
        rintro e wz ⟨rfl, hxz⟩
        go_wp2_with fail
        go_ret
        exact ⟨rfl, hx03.tr (Ext.tr (hx.al _) hxz)⟩
      have h38' : ¬ (38 : Int) < (D.length : Int) := by omega
      have hbad2 : Hid ((A.take (k + 1)).any badO = false) := hbt.out (by unfold badO; simp [hkd, h38])
      have hnb : D.length ≤ 38 := by omega
      have hcw2 : IntKind.i64.wrap (2 + (D.length : Int)) = D.length + 2 := by rw [IntWalk.i64_in _ (by omega)]; omega
      have hc2 : (2 : Int) + (D.length : Int) = D.length + 2 := by omega
      go_upto_region 9 with (fail)
      generalize hW : wr.alloc _ = W
      have kx : W.heap[wr.heap.size]? = some (.cells #[.int .u8 kd, .slice ad D.length cd] 31) := by rw [← hW]; exact heap_alloc_new wr _
      have hxW : Ext w3 W := by rw [← hW]; exact hx.al _
      have hown0 := hown
      have hown := hown.kept (w' := W) (by rw [← hW]; exact Ext.new _ _)
      have hgS : ¬ (u7.ownBlock = some wr.heap.size) := fun he => by have := (hown0.block _ he).2; omega
      have hwW : w3.heap.size ≤ W.heap.size := hxW.size
      have hcv : IntKind.u8.wrap ((D.length : Int) + 2) = D.length + 2 := by simp [IntKind.wrap, IntKind.bits, IntKind.signed]; omega
      have hcw : IntKind.i64.wrap ((D.length : Int) + 2) = D.length + 2 := by rw [IntWalk.i64_in _ (by omega)]
      have hSb : ∀ k, u7.ownBlock = some k → w3.heap.size ≤ k := fun k hk => (hown.block k hk).1
      clear hW hx e0 e1 hown0 hu
      generalize wr.heap.size = g at *
      refine LooseT.wp_region_tailR 12 (Grw w3.heap.size u7 L) (LooseT.tk [(9, Grw w3.heap.size u7 L)]) [(8, New2 W.heap.size kd (D.length + 2) 5), (9, fun v w' => Own w' w3.heap.size 5 .u8 v (L ++ [kd, (D.length : Int) + 2]))] (Grw.refl _ _ _ _) (Grw.ofExt (Ext.draw _)) ?_ ?_ (by kernel_rfl) (by kernel_rfl) (by kernel_rfl) ?_
      · intro k a b c h1 h2
        simp only [LooseT.tk] at h2
        split at h2
        · exact h1.tr h2
        · exact h1.tr (Grw.ofExt h2)
      · refine LooseT.lastsT_cons (fun j v w1 w2 hj h hs => ?_) (LooseT.lastsT_cons (fun j v w1 w2 hj h hs => ?_) LooseT.lastsT_nil)
        · obtain ⟨g', h1, h2, h3⟩ := hs
          simp only [LooseT.tk] at h
          split at h
          · exact ⟨g', h1, h2, h.1.keep h3 (fun he => by have := (hown.block _ he).2; omega)⟩
          · exact ⟨g', h1, h2, Ext.block h h3⟩
        · simp only [LooseT.tk] at h
          rw [if_neg hj] at h
          exact hs.kept h
      simp only [List.take, List.drop]
      iterate 2
        apply LooseT.wpL_none rfl rfl
        · intro w' hw' hn'; go_simp; exact rfl
        intro K hK; go_simp; refine hK _ _ ?_; clear hK K
      apply LooseT.wpL_none rfl rfl
      · intro w' hw' hn'; have q := cell_blk (Mvs.keep hw'.1 kx hgS) 0; simp at q; go_simp; exact rfl
      intro K hK; go_simp; refine hK _ _ ?_; clear hK K
      apply LooseT.wpL_none rfl rfl
      · intro w' hw' hn'; go_simp; exact rfl
      intro K hK; go_simp; refine hK _ _ ?_; clear hK K
      apply LooseT.wpL_none rfl rfl
      · intro w' hw' hn'; have q := cell_blk (Mvs.keep hw'.1 kx hgS) 1; simp at q; go_simp; exact rfl
      intro K hK; go_simp; refine hK _ _ ?_; clear hK K
      iterate 3
        apply LooseT.wpL_none rfl rfl
        · intro w' hw' hn'; go_simp; exact rfl
        intro K hK; go_simp; refine hK _ _ ?_; clear hK K
      apply LooseT.wpL_some rfl rfl
      · intro w' hw' hn'
        go_simp
        exact ⟨Ext.new _ _, _, Nat.le_trans (Nat.le_refl _) hw'.1.size, rfl, heap_alloc_new _ _⟩
      intro v8 w' hw' hD' hv8
      obtain ⟨g8, -, rfl, -⟩ := hv8
      clear hw' hD' w'
      intro K hK; go_simp; refine hK _ _ ?_; clear hK K
      apply LooseT.wpL_some rfl rfl
      · intro w' hw' hn'
        obtain ⟨g', h1, h2, h3⟩ : New2 W.heap.size kd (D.length + 2) 5 _ w' := hn' ⟨8, .data⟩ (by simp) rfl
        cases h2
        refine upon_app_own isU8 (.tmp 46) (.tmp 54) (by rfl) w3.heap.size u7 L (by rfl) (hw'.2 hown) _ [kd, (D.length : Int) + 2] (by rfl) (rd_blk2 h3) (by simp; omega) (by simp [maxLen]; omega) (Nat.le_trans hwW hw'.1.size) (fun v' w'' q1 q2 q3 q4 => ⟨⟨mvs_of_grown q2, fun _ => q4⟩, q1⟩)
      intro v9 w' hw' hD' hv9
      clear hw' hD' w' hv9
      intro K hK; go_simp; refine hK _ _ ?_; clear hK K
      apply LooseT.wpL_none rfl rfl
      · intro w' hw' hn'; go_simp; exact rfl
      intro K hK; go_simp; refine hK _ _ ?_; clear hK K
      apply LooseT.wpL_none rfl rfl
      · intro w' hw' hn'; have q := cell_blk (Mvs.keep hw'.1 kx hgS) 1; simp at q; go_simp; exact rfl
      intro K hK; go_simp; refine hK _ _ ?_; clear hK K
      refine LooseT.wpL_nil ?_
      intro w' hw' hD'
      have hv9 := hD' 9
      simp [Loose.upd] at hv9
      have hu' : Rd .u8 w' (.slice ad D.length cd) D := hu0.ext (hw'.1.ext hxW hSb)
      apply wpVL_step rfl
      intro K hK
      refine vupon_app isU8 (.tmp 55) (.tmp 57) (by rfl) w3.heap.size v9 _ (by rfl) hv9 _ D (by rfl) hu' (by simp; omega) (by simp [maxLen]; omega) (Nat.le_trans hwW hw'.1.size) (fun v' w'' q1 q2 q3 => ?_)
      have hx2 : Ext w3 w'' := hv9.below q2 (hw'.1.ext hxW hSb) (Nat.le_trans hwW hw'.1.size)
      refine hK _ _ ?_
      clear hK K
      iterate 1
        apply wpVL_step rfl
        intro K hK
        go_simp
        refine hK _ _ ?_
        clear hK K
      refine wpVL_nil ?_
      have hLL : Hid (L ++ [kd, (D.length : Int) + 2] ++ D = flat (A.take (k + 1))) := by unfold Hid; rw [ht.out]; simp [ob]; omega
      obtain ⟨av, nv, cv, rfl⟩ := q1.rd.shape
      clear hw' hD' hv9 hu' q2 q3 hSb hwW hcv hcw kx hgS hown hxW hu0
      go_wp2_with fail
      go_roundw
      case rel => exact ⟨k + 1, by omega, by go_num, by rw [← hLL.out]; exact q1, hbad2, hx2⟩
      case measure => simp [intOf]; omega
    · obtain rfl : k = m := by omega
      rw [show A.take k = A from List.take_of_length_le (by rw [HAl.out]; exact Nat.le_refl _)] at hown hbad
      have hfl : (flat A).length ≤ 40 * 4 := by
        have h := flat_le4 hbad.out
        rw [HAl.out] at h
        omega
      obtain ⟨q, hq⟩ : ∃ q : Nat, Hid ((q : Int) = nn % 4) := ⟨(nn % 4).toNat, by unfold Hid; omega⟩
      have hq3 : q ≤ 3 := by have := hq.out; omega
      have hr1 : nn % 4 = (q : Int) := hq.out.symm
      have hr2 : Int.tmod nn 4 = (q : Int) := by rw [Int.tmod_eq_emod_of_nonneg hnn.1]; exact hr1
      have hr3 : IntKind.u8.wrap (q : Int) = q := by simp [IntKind.wrap, IntKind.bits, IntKind.signed]; omega
      have hr4 : IntKind.i64.wrap (q : Int) = q := by rw [IntWalk.i64_in _ (by omega)]
      obtain ⟨FA, hFA⟩ : ∃ FA, Hid (FA = flat A) := ⟨_, Lib.hid rfl⟩
      rw [← hFA.out] at hown hfl
      obtain ⟨av, cv, rfl, hv1, hv2, -⟩ := id hown.rd
      unfold maxLen at hv2
      go_wp2_with fail
      refine (repeat_any q hq3 _ _ (rd_new .u8 _ _ _ [1] (by simp) rfl rfl rfl (by decide))).mono ?_
      rintro e w4 ⟨u4, rfl, hu4, hx4⟩
      have hxw4 : Ext w3 w4 := hx.tr (Ext.tr (Ext.new _ _) hx4)
      have hown4 := hown.kept (Ext.tr (Ext.new _ _) hx4)
      obtain ⟨a4, n4, c4, rfl⟩ := hu4.shape
      have hlr : (List.replicate q (1 : Int)).length ≤ 3 := by rw [List.length_replicate]; exact hq3
      obtain ⟨ones, hones⟩ : ∃ l : List Int, Hid (l = List.replicate q 1) := ⟨_, Lib.hid rfl⟩
      rw [← hones.out] at hu4 hlr
      clear hown hx4 hx
      go_wp2_with (at_builtin; go_must (refine wpList_app isU8 rfl (.tmp 60) (.tmp 65) rfl w3.heap.size _ FA rfl hown4 _ ones rfl hu4 (by omega) (by unfold maxLen; omega) hxw4.size ?_); intro v5 w5 hown5 hg5 hat5)
      have hx5 : Ext w3 w5 := hown4.below hg5 hxw4 hxw4.size
      obtain ⟨X, hX⟩ : ∃ X, Hid (X = FA ++ ones) := ⟨_, Lib.hid rfl⟩
      have hXl : Hid (X.length = FA.length + q) := by unfold Hid; rw [hX.out, hones.out]; simp
      rw [← hX.out] at hown5
      obtain ⟨a5, c5, rfl, hd1, hd2, -⟩ := id hown5.rd
      unfold maxLen at hd2
      have HX5 := Lib.hid hown5.rd
      obtain ⟨Y, E, hO⟩ : ∃ Y E, oput B = (Y, E) := ⟨_, _, rfl⟩
      have hput := oput_lit B Y E hO _ w5 (HB.out.ext hx5) HBb.out
      have hYl := (oput_len B).1
      have h3 := oput_3 B
      have hYb := oput_byt HBb.out
      rw [hO] at hYl h3 hYb
      dsimp only at hYl hYb
      have HPut := Lib.hid hput
      have H3 := Lib.hid h3
      have HYb := Lib.hid hYb
      have hXlen : X.length ≤ 163 := by rw [hXl.out]; omega
      clear hput h3 hYb hO hown4 hu4 hlr hown5 hg5 hat5 hxw4
      go_wp2_with fail
      refine HPut.out.mono ?_
      rintro e w6 ⟨u6, rfl, hu6, hx6⟩
      obtain ⟨a6, c6, rfl, hy1, hy2, -⟩ := id hu6.rd
      unfold maxLen at hy2
      have HY6 := Lib.hid hu6.rd
      have HX6 := Lib.hid (HX5.out.ext hx6)
      have hx6 := hx5.tr hx6
      clear hu6 HPut
      by_cases hE : E = 0
      · by_cases hlong : 40 < X.length + Y.length
        · subst hE
          have hlong' : (40 : Int) < (X.length : Int) + (Y.length : Int) := by omega
          have hwl : IntKind.i64.wrap ((X.length : Int) + (Y.length : Int)) = X.length + Y.length := by rw [IntWalk.i64_in _ (by omega)]
          clear hlong
          go_wp2_with fail
          refine (awake5_any _).mono ?_
          rintro e wz ⟨rfl, hxz⟩
          go_wp2_with fail
          go_ret
          exact ⟨rfl, hx03.tr (hx6.tr hxz)⟩
        · subst hE
          have hlong' : ¬ (40 : Int) < (X.length : Int) + (Y.length : Int) := by omega
          have hwl : IntKind.i64.wrap ((X.length : Int) + (Y.length : Int)) = X.length + Y.length := by rw [IntWalk.i64_in _ (by omega)]
          have hB3 : Hid (B.any badO = false ∧ Y = flat B ++ zeros (pad (flat B).length)) := by
            rcases H3.out with ⟨-, he⟩ | ⟨h1, h4, he⟩ | ⟨-, -, he⟩
            · cases he
            · exact ⟨h1, (Prod.mk.inj he).1⟩
            · cases he
          have hXY : Hid (opar (X ++ Y) = (A ++ B, 0)) := by
            unfold Hid
            have h := opar_parts hbad.out hB3.out.1 q (pad (flat B).length) (by rw [← hB3.out.2, ← hones.out, ← hFA.out, ← hX.out, List.length_append]; omega)
            rw [← hB3.out.2, ← hones.out, ← hFA.out, ← hX.out] at h
            exact h
          obtain ⟨AB, hAB⟩ : ∃ AB : List Op1, Hid (AB = A ++ B) := ⟨_, Lib.hid rfl⟩
          have hXY : Hid (opar (X ++ Y) = (AB, 0)) := by unfold Hid; rw [hXY.out, hAB.out]
          have hXb : Hid (Byt X) := by
            unfold Hid
            rw [hX.out, hFA.out, hones.out]
            refine (flat_byt HAb.out hbad.out).app (fun x hx => ?_)
            have := List.eq_of_mem_replicate hx
            omega
          have hXYb : Hid (Byt (X ++ Y)) := hXb.out.app HYb.out
          go_upto_region 15 with (fail)
          go_wp2_with (at_builtin; (first | (refine wpList_app_fr isU8 rfl (.tmp 84) (.tmp 85) rfl w6.heap.size _ [] rfl (.inr ⟨_, rfl, rfl⟩) _ X rfl (HX6.out.ext (Ext.new _ _)) (by simp; omega) (by simp [maxLen]; omega) (by simp) ?_; intro v7 w7 hfr7 hown7 hb7) | (refine wpList_app_fr isU8 rfl (.tmp 86) (.tmp 87) rfl w6.heap.size v7 X rfl hfr7 _ Y rfl (HY6.out.ext (Below.trans (Ext.new w6 _) hb7)) (by omega) (by unfold maxLen; omega) (by have := hb7.size; simp at this; omega) ?_; intro v8 w8 hfr8 hown8 hb8)))
          have hx8 : Ext w6 w8 := Below.trans (Below.trans (Ext.new w6 _) hb7) hb8
          obtain ⟨a8, n8, c8, rfl⟩ := hfr8.rd.shape
          obtain ⟨a7, n7, c7, rfl⟩ := hfr7.rd.shape
          refine (oparse_lit (X ++ Y) AB 0 hXY.out _ w8 hfr8.rd hXYb.out (by rw [List.length_append]; omega)).mono ?_
          rintro e w9 ⟨u9, rfl, hu9, hx9⟩
          have HU9 := Lib.hid hu9.rdo
          have HX9 := Lib.hid (HX6.out.ext (hx8.tr hx9))
          have hx9 := hx6.tr (hx8.tr hx9)
          obtain ⟨a9, c9, hve⟩ := hu9.rdo.shape
          subst hve
          clear hfr7 hown7 hb7 hfr8 hown8 hb8 hu9 hx8
          have HA9 := Lib.hid (HA.out.ext hx9)
          have HB9 := Lib.hid (HB.out.ext hx9)
          have hAlen : A.length + B.length ≤ 8 := by rw [HAl.out, HBl.out]; omega
          have HABl := Lib.hid hAlen
          clear hAlen
          go_upto_region 16 with (fail)
          go_wp2_with (at_builtin; (first | (refine wpList_appMg rfl (.tmp 96) (.tmp 97) rfl w9.heap.size _ [] rfl (MiO.empty _ _ _) _ A rfl (SrcO.of HA9.out (Nat.le_refl _) (Ext.new _ _)) (by have := HABl.out; simp; omega) (by simp) ?_; intro v10 w10 hm10 hb10) | (refine wpList_appMg rfl (.tmp 98) (.tmp 99) rfl w9.heap.size v10 A rfl hm10 _ B rfl (SrcO.of HB9.out (Nat.le_refl _) (hb10 w9 (Nat.le_refl _) (Ext.new _ _))) (by have := HABl.out; omega) (hb10 w9 (Nat.le_refl _) (Ext.new _ _)).size ?_; intro v11 w11 hm11 hb11)))
          have hx10 := hb10 w9 (Nat.le_refl _) (Ext.new _ _)
          have hx11 := hb11 w9 (Nat.le_refl _) hx10
          rw [← hAB.out] at hm11
          have hABb : BytO AB := by rw [hAB.out]; exact HAb.out.app HBb.out
          have HS := Lib.hid (osame_any _ _ AB AB w11 (HU9.out.ext hx11) hm11.rdo hABb hABb)
          rw [show decide (AB = AB) = true from decide_eq_true rfl] at HS
          obtain ⟨a10, c10, rfl⟩ := hm10.rdo.shape
          obtain ⟨a11, c11, rfl⟩ := hm11.rdo.shape
          refine HS.out.mono ?_
          rintro e w12 ⟨rfl, hx12⟩
          have HX12 := Lib.hid (HX9.out.ext (hx11.tr hx12))
          have hx12 := hx9.tr (hx11.tr hx12)
          clear hm10 hb10 hm11 hb11 hx10 hx11 HS HX9
          by_cases hX0 : X.length = 0
          · have hX0' : (X.length : Int) = 0 := by omega
            clear hX0
            go_wp2_with fail
            refine (awake5_any _).mono ?_
            rintro e wz ⟨rfl, hxz⟩
            go_wp2_with fail
            go_ret
            exact ⟨rfl, hx03.tr (hx12.tr hxz)⟩
          have hX0' : ((X.length : Int) == 0) = false := by rw [beq_eq_false_iff_ne]; omega
          by_cases hq0 : 0 < q
          · have hq0' : (0 : Int) < (q : Int) := by omega
            go_wp2_with fail
            refine (awake5_any _).mono ?_
            rintro e wz ⟨rfl, hxz⟩
            go_wp2_with fail
            go_ret
            exact ⟨rfl, hx03.tr (hx12.tr hxz)⟩
          have hq0' : ¬ (0 : Int) < (q : Int) := by omega
          by_cases hk0 : k = 0
          · have hk0' : (k : Int) = 0 := by omega
            clear hk0
            go_wp2_with fail
            refine (awake5_any _).mono ?_
            rintro e wz ⟨rfl, hxz⟩
            go_wp2_with fail
            go_ret
            exact ⟨rfl, hx03.tr (hx12.tr hxz)⟩
          have hk0' : ((k : Int) == 0) = false := by rw [beq_eq_false_iff_ne]; omega
          have hXA : X = flat A := by
            have h0 : q = 0 := by omega
            rw [hX.out, hones.out, h0, hFA.out]; simp
          have hAne : A ≠ [] := fun h => by have := HAl.out; rw [h] at this; simp at this; omega
          have hcut : opar (X.take (X.length - 1)) = ([], 4) := by
            rw [hXA]
            exact opar_cut hAne hbad.out (by rw [← hXA]; omega)
          obtain ⟨n1, hn1⟩ : ∃ n1 : Nat, Hid (n1 = X.length - 1) := ⟨_, Lib.hid rfl⟩
          rw [← hn1.out] at hcut
          have hw1 : IntKind.i64.wrap ((X.length : Int) - 1) = (n1 : Int) := by rw [IntWalk.i64_in _ (by omega), hn1.out]; omega
          have hn1c : (0 : Int) ≤ (n1 : Int) ∧ (n1 : Int) ≤ (c5 : Int) := by rw [hn1.out]; omega
          have HP := Lib.hid (oparse_lit (X.take n1) [] 4 hcut _ w12 (HX12.out.take (by rw [hn1.out]; omega)) (hXb.out.take _) (by rw [List.length_take]; omega))
          clear hXA hAne hcut hX0 hq0 hk0
          go_wp2_with fail
          refine HP.out.mono ?_
          rintro e w13 ⟨u13, rfl, hu13, hx13⟩
          obtain ⟨a13, c13, rfl⟩ := hu13.rdo.shape
          clear hu13
          go_wp2_with fail
          refine (awake5_any _).mono ?_
          rintro e wz ⟨rfl, hxz⟩
          go_wp2_with fail
          go_ret
          exact ⟨rfl, hx03.tr (hx12.tr (hx13.tr hxz))⟩
      · have hE' : (E != 0) = true := by simpa using hE
        clear hE
        go_wp2_with fail
        refine (awake5_any _).mono ?_
        rintro e wz ⟨rfl, hxz⟩
        go_wp2_with fail
        go_ret
        exact ⟨rfl, hx03.tr (hx6.tr hxz)⟩
end Go.Proofs.Ytckdcjheflgmdaa.optsParts
