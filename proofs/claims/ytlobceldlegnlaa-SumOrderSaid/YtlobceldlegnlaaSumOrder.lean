/-
  Proved here: the law SumOrder returns true. Condition: the bytes at most 2^47 - 4096 (the form's own reach).
-/
import Derived.Test.YtlobceldlegnlaaSumWakes
import Derived.Test.YtlobceldlegnlaaSumP
import Derived.Test.YtlobceldlegnlaaLoose
import Derived.Deep.RegionHeld3
import Derived.Deep.DrawnRows
import Derived.Deep.RegionLaw
namespace Go.Proofs.Ytlobceldlegnlaa.sumOrder
open Go.ChangeShapes Go.WideShapes Go.ChangeAt Go.RowKit Go.Cul Go.Loose
set_option linter.unusedVariables false
set_option maxRecDepth 100000
attribute [local go_sem] Loose.Still Loose.Upon
attribute [local go_sem ↓] Go.wp_at_zero Go.wp_at_succ

theorem two_of {a b : List Int} (ha : Byt a) (hb : Byt b) : ∀ l ∈ [a, b], Byt l := by
  intro l hl
  rcases List.mem_cons.1 hl with rfl | hl
  · exact ha
  · rw [List.mem_singleton.1 hl]; exact hb

set_option maxHeartbeats 4000000 in
theorem walk (w : World) (v0 : Value) (l0 : List Int) (r0 : Rd .u8 w v0 l0) (b0 : Byt l0) (n0 : l0.length * 1 ≤ 140737488351232) (x : Int) (hx : 0 ≤ x ∧ x ≤ 65535) (y : Int) (hy : 0 ≤ y ∧ y ≤ 65535) :
    Calls Try.prog 5 #[v0, .int .u16 x, .int .u16 y] w fun e w' => e = .returned (.bool true) ∧ Ext w w' := by
  obtain ⟨x, rfl⟩ := Int.eq_ofNat_of_zero_le hx.1
  obtain ⟨y, rfl⟩ := Int.eq_ofNat_of_zero_le hy.1
  have hub := ev_byt b0
  have hul := ev_len l0
  have hup := padn_le l0.length
  have hue := ev_ok l0
  have HUB := Lib.hid hub
  have hln : (ev l0).length ≤ 140737488351236 := by omega
  clear hub hul hup b0
  go_enter Try.func5, Try.ntmps5
  go_wp2_with fail
  refine (even_any _ _ _ r0 (by omega)).mono ?_
  rintro e w1 ⟨u, rfl, hu, hx1⟩
  have ru := hu.rd
  have ru' := ru
  generalize ev l0 = E at *
  obtain ⟨au, cu, rfl, hcu, hmu, hru⟩ := ru'
  rcases hru with hru | ⟨bu, ou, rfl, hru⟩
  · rw [hru] at hue; simp at hue
  clear hru hu
  unfold maxLen at hmu
  go_wp2_with fail
  refine (sum_any _ [E] _ (rds_one ru rfl) (fun l hl => by rw [List.mem_singleton.1 hl]; exact HUB.out) (by simp; omega)).mono ?_
  rintro e w2 ⟨rfl, hx2⟩
  rw [show csum [E].flatten = csum E from by rw [List.flatten_singleton]]
  have ru2 := ru.ext ((Ext.new _ _).tr hx2)
  go_wp2_with (at_builtin; go_must (refine wpList_app isU8 rfl (.const (.slice none 0 0)) (.tmp 18) rfl w2.heap.size _ [] rfl (Own.nil _ _ _ _) _ E rfl ru2 (by simp; omega) (by simp [maxLen]; omega) (by simp) ?_); intro v3 w3 hown3 hg3 hat3)
  have hb3 : Ext w2 w3 := (Own.nil _ _ _ _ : Own _ w2.heap.size 5 .u8 _ []).below hg3 (Ext.rfl' w2) (by simp)
  have ru3 := ru2.ext hb3
  rw [List.nil_append] at hown3
  clear hg3 hat3
  have wx := wordl_bd HUB.out x
  have wy := wordl_bd HUB.out y
  refine (word2_any _ _ _ _ ru3 HUB.out hue.1 hue.2 (by omega)).mono ?_
  rintro e w4 ⟨rfl, hx4⟩
  go_wp2_with fail
  refine (lay_any _ _ _ _ _ _ (hown3.kept hx4) hue.1 hue.2 (by omega) wy).mono ?_
  rintro e w5 ⟨rfl, hown5, hg5, hs5⟩
  have hb5 : Ext w2 w5 := (hown3.kept hx4).below hg5 (hb3.tr hx4) (by have := (hb3.tr hx4).size; omega)
  clear hown3 hg5 hs5
  go_wp2_with fail
  refine (word2_any _ _ _ _ (ru2.ext hb5) HUB.out hue.1 hue.2 (by omega)).mono ?_
  rintro e w6 ⟨rfl, hx6⟩
  have l5 := layl_len E x (wordl E y)
  go_wp2_with fail
  refine (lay_any _ _ _ _ _ _ (hown5.kept hx6) (by omega) (by omega) (by omega) wx).mono ?_
  rintro e w7 ⟨rfl, hown7, hg7, hs7⟩
  have hb7 : Ext w2 w7 := (hown5.kept hx6).below hg7 (hb5.tr hx6) (by have := (hb5.tr hx6).size; omega)
  have l7 := layl_len (layl E x (wordl E y)) y (wordl E x)
  have hc7 : csum (layl (layl E x (wordl E y)) y (wordl E x)) = csum E := by unfold csum; rw [weigh_swap2 HUB.out hue.1 hue.2]
  have hbc := layl_byt (layl_byt HUB.out x wy) y wx
  have HC7 := Lib.hid hc7
  have HBC := Lib.hid hbc
  have ru7 := ru2.ext hb7
  rw [l5] at l7
  generalize layl (layl E x (wordl E y)) y (wordl E x) = C at *
  have hCl : C.length ≤ 140737488351236 := by omega
  clear hown5 hg7 hs7 l5 hc7 hbc l7
  go_wp2_with (at_builtin; go_must (refine wpList_app isU8 rfl (.const (.slice none 0 0)) (.tmp 43) rfl w7.heap.size _ [] rfl (Own.nil _ _ _ _) _ E rfl ru7 (by simp; omega) (by simp [maxLen]; omega) (by simp) ?_); intro v8 w8 hown8 hg8 hat8)
  have hb8 : Ext w7 w8 := (Own.nil _ _ _ _ : Own _ w7.heap.size 5 .u8 _ []).below hg8 (Ext.rfl' w7) (by simp)
  rw [List.nil_append] at hown8
  clear hg8 hat8
  obtain ⟨K, hK⟩ : ∃ K : Nat, K = pl E.length x := ⟨_, rfl⟩
  have hKl := pl_lt (t := x) hue.1 hue.2
  rw [← hK] at hKl
  have hKe : K % 2 = 0 := by rw [hK]; unfold pl; omega
  have hwr : wrap64 (2 * ((x : Int) % ((E.length : Int) / 2))) = (K : Int) := by
    have e : (x : Int) % ((E.length : Int) / 2) = ((x % (E.length / 2) : Nat) : Int) := by rw [Int.natCast_emod, Int.natCast_ediv]; rfl
    have hK' : K = 2 * (x % (E.length / 2)) := hK
    rw [e, IntWalk.wrap64_in _ (by omega)]
    omega
  rw [hwr]
  have HKE := Lib.hid hKe
  clear hK hKe hwr
  obtain ⟨g8, cg, rfl, hgb, hgl, -, -, hcg, hmg, -⟩ := hown8.open (by omega)
  unfold maxLen at hmg
  go_loopw [11] (fun i wr => ∃ q : Nat, q ≤ E.length ∧ Hid (q % 2 = 0) ∧ i = .int .i64 q ∧ Own wr w7.heap.size 5 .u8 (.slice (some ⟨g8, 0, none⟩) E.length cg) (swp E (q / 2)) ∧ Ext w7 wr) (fun i _ => E.length + 1 - (intOf i).toNat)
  case atStart => exact ⟨0, Nat.zero_le _, rfl, rfl, hown8, hb8⟩
  case round =>
    obtain ⟨q, hq, hqe, rfl, hown, hxw⟩ := hrel
    have hsl := swp_len E (q / 2)
    by_cases hlt : q + 1 < E.length
    · obtain ⟨g', cg', he, -, hgl', hcell, hfz, -, -, hset⟩ := hown.open (by omega)
      simp only [Value.slice.injEq, Option.some.injEq, Addr.mk.injEq] at he
      obtain ⟨⟨rfl, -, -⟩, -, rfl⟩ := he
      have c0 := hcell q (by omega)
      have c1 := hcell (q + 1) (by omega)
      have f0 := hfz q
      have f1 := hfz (q + 1)
      have hs1 := hset ((swp E (q / 2)).getD (q + 1) 0) q (by omega)
      obtain ⟨g', cg', he, -, -, hcell', hfz', -, -, hset'⟩ := hs1.open (by rw [List.length_set]; omega)
      simp only [Value.slice.injEq, Option.some.injEq, Addr.mk.injEq] at he
      obtain ⟨⟨rfl, -, -⟩, -, rfl⟩ := he
      have c1' := hcell' (q + 1) (by rw [List.length_set]; omega)
      have f1' := hfz' (q + 1)
      have hs2 := hset' ((swp E (q / 2)).getD q 0) (q + 1) (by rw [List.length_set]; omega)
      have hsw : ((swp E (q / 2)).set q ((swp E (q / 2)).getD (q + 1) 0)).set (q + 1) ((swp E (q / 2)).getD q 0) = swp E ((q + 2) / 2) := by
        have e := hqe.out
        rw [show (q + 2) / 2 = q / 2 + 1 from by omega]
        simp only [swp]
        rw [show 2 * (q / 2) = q from by omega]
      rw [hsw] at hs2
      have HS2 := Lib.hid hs2
      clear hset hset' hcell hcell' hfz hfz' hs1 hs2 hown hsw
      generalize (swp E (q / 2)).getD (q + 1) 0 = d at *
      generalize (swp E (q / 2)).getD q 0 = c at *
      have hgb' := hgb
      go_wp2_with fail
      go_region
      go_wp2_with fail
      go_roundw
      case rel => exact ⟨q + 2, by omega, by have := hqe.out; show (q + 2) % 2 = 0; omega, by go_num, HS2.out, ((Below.setCell hxw hgb _).setCell hgb _).drew⟩
      case measure => simp [intOf]; omega
    · obtain rfl : q = E.length := by have := hqe.out; omega
      have ht := hown.rd
      clear hown hqe hq hsl
      have hct := csum_swp HUB.out hue.2
      have HCT := Lib.hid hct
      have hbt : Byt (swp E (E.length / 2)) := swp_byt HUB.out _
      have HBT := Lib.hid hbt
      have hsl := swp_len E (E.length / 2)
      have hxs := hxw.size
      generalize swp E (E.length / 2) = T at *
      have hTl : T.length ≤ 140737488351236 := by omega
      clear hct hbt hsl
      have ruN := ru7.ext hxw
      have rcN := (hown7.rd.ext hxw)
      have hKc : K ≤ cu := by omega
      have hKn : ¬ (cu = K) := by omega
      have t1 : Rd .u8 wr (.slice (some ⟨bu, ou, none⟩) K cu) (E.take K) := ruN.take (by omega)
      have t2 : Rd .u8 wr (.slice (some ⟨bu, ou + K, none⟩) (E.length - K) (cu - K)) (E.drop K) := ruN.drop (by omega)
      go_wp2_with fail
      have hK0 : (0 : Int) ≤ (K : Int) := by omega
      have hK1 : (K : Int) ≤ (E.length : Int) := by omega
      have hK2 : (K : Int) ≤ (cu : Int) := by omega
      have hK3 : (E.length : Int) ≤ (cu : Int) := by omega
      have htl : (E.take K).length ≤ E.length := by rw [List.length_take]; omega
      have hdl : (E.drop K).length ≤ E.length := by rw [List.length_drop]; omega
      have d1 : Ext wr wr.drew := Ext.draw wr
      have hEtd : E.take K ++ E.drop K = E := List.take_append_drop K E
      have htle : (E.take K).length = K := by rw [List.length_take]; omega
      have ft12 : [E.take K, E.drop K].flatten = E := by simp
      have ft21 : [E.drop K, E.take K].flatten = E.drop K ++ E.take K := by simp
      have HT21 : Hid (csum (E.drop K ++ E.take K) = csum E) := by
        have := csum_turn (l := E.take K) (r := E.drop K) (by rw [hEtd]; exact hue.2) (by rw [htle]; exact HKE.out)
        rw [hEtd] at this; exact this
      have HNN : Hid (csum (E.take K ++ [0, 0] ++ E.drop K) = csum E) := by
        have := csum_nought (l := E.take K) (r := E.drop K) (by rw [htle]; exact HKE.out)
        rw [hEtd] at this; exact this
      have HBt : Hid (Byt (E.take K)) := HUB.out.take K
      have HBd : Hid (Byt (E.drop K)) := HUB.out.drop K
      have HBN : Hid (Byt (E.take K ++ [0, 0] ++ E.drop K)) := (HBt.out.app (byt_of (by decide))).app HBd.out
      have hNl : (E.take K ++ [0, 0] ++ E.drop K).length ≤ 140737488351300 := by simp; omega
      have hse := csum_bd HUB.out
      have HOR : Hid (bits BinOp.or IntKind.u16 (IntKind.u16.wrap (csum E * 256)) (csum E / 256) = csum E % 256 * 256 + csum E / 256) := by
        unfold Hid
        rw [IntKind.wrap_u16, show csum E * 256 % 65536 = (csum E % 256) * 256 from by omega]
        exact or8_u16 _ _ (by omega) (by omega) (by omega) (by omega)
      have FT12 := Lib.hid ft12
      have FT21 := Lib.hid ft21
      clear hEtd htle ft12 ft21
      have t1d := t1.ext d1
      go_region_law ((first
        | (refine step_app isU8 rfl (.const (.slice none 0 0)) (.tmp 70) rfl wr.heap.size (.slice none 0 0) [] (by go_simp) (Own.nil _ _ _ _) (.slice (some ⟨bu, ou, none⟩) K cu) (E.take K) (by go_simp) (t1d) (by simp; omega) (by simp [maxLen]; omega) (d1.size) ?_; intro v9 w9 hown9 hg9 hat9; have hb9 : Ext wr w9 := nil_grow hg9 d1)
        | (refine step_app isU8 rfl (.const (.slice none 0 0)) (.tmp 70) rfl wr.heap.size (.slice none 0 0) [] (by go_simp) (Own.nil _ _ _ _) (.slice (some ⟨bu, ou, none⟩) K cu) (E.take K) (by go_simp) (t1d.ext (Ext.new _ _)) (by simp; omega) (by simp [maxLen]; omega) ((d1.al _).size) ?_; intro v9 w9 hown9 hg9 hat9; have hb9 : Ext wr w9 := nil_grow hg9 (d1.al _))
        | (refine step_app isU8 rfl (.tmp 71) (.tmp 72) rfl wr.heap.size v9 _ (by go_simp) (hown9.kept (Ext.new _ _)) (.slice (some ⟨w9.heap.size, 0, none⟩) 2 2) [0, 0] (by go_simp) (rd_new .u8 w9 #[.int .u8 0, .int .u8 0] _ [0, 0] rfl rfl rfl rfl (by decide)) (by simp; omega) (by simp [maxLen]; omega) ((hb9.al _).size) ?_; intro v10 w10 hown10 hg10 hat10; have hb10 : Ext wr w10 := (hown9.kept (Ext.new _ _)).grow hg10 (hb9.al _))
        | (refine step_app isU8 rfl (.tmp 71) (.tmp 72) rfl wr.heap.size v9 _ (by go_simp) (hown9) (.slice (some ⟨wr.heap.size, 0, none⟩) 2 2) [0, 0] (by go_simp) ((rd_new .u8 wr.drew #[.int .u8 0, .int .u8 0] _ [0, 0] rfl rfl rfl rfl (by decide)).ext (Ext.of_grown hg9)) (by simp; omega) (by simp [maxLen]; omega) (hb9.size) ?_; intro v10 w10 hown10 hg10 hat10; have hb10 : Ext wr w10 := hown9.grow hg10 hb9)
        | (refine step_app isU8 rfl (.tmp 73) (.tmp 76) rfl wr.heap.size v10 _ (by go_simp) (hown10) (.slice (some ⟨bu, ou + K, none⟩) (E.length - K) (cu - K)) (E.drop K) (by go_simp) (t2.ext hb10) (by simp; omega) (by simp [maxLen]; omega) (hb10.size) ?_; intro v11 w11 hown11 hg11 hat11; have hb11 : Ext wr w11 := hown10.grow hg11 hb10)))
      all_goals
        have rC := rcN.ext hb11
        have rC' := rC
        obtain ⟨aC, cC, rfl, -⟩ := rC'
        have rN := hown11.rd
        rw [List.nil_append] at rN
        have rN' := rN
        obtain ⟨aN, cN, rfl, -⟩ := rN'
        have t1e := t1.ext hb11
        have t2e := t2.ext hb11
        have rT := ht.ext hb11
        clear hown9 hown10 hown11 hg9 hg10 hg11 hat9 hat10 hat11 hb9 hb10
        generalize E.take K ++ [0, 0] ++ E.drop K = NN at *
        go_wp2_with fail
        refine wp_region_grow [(1, fun v w => Rds .u8 w v [C]), (2, is (.int .u16 (csum E))), (12, fun v w => Rds .u8 w v [E.take K, E.drop K]), (13, is (.int .u16 (csum E))), (24, fun v w => Rds .u8 w v [E.drop K, E.take K]), (25, is (.int .u16 (csum E))),
          (31, fun v w => Rds .u8 w v [NN]), (32, is (.int .u16 (csum E))), (38, fun v w => Rds .u8 w v [T]), (39, is (.int .u16 (csum E % 256 * 256 + csum E / 256))), (48, is (.bool true))] ?_ (by kernel_rfl) (by kernel_rfl) ?_
        · exact lasts_cons (fun _ _ _ hx h => Rds.ext h hx) (lasts_is (lasts_cons (fun _ _ _ hx h => Rds.ext h hx) (lasts_is (lasts_cons (fun _ _ _ hx h => Rds.ext h hx) (lasts_is (lasts_cons (fun _ _ _ hx h => Rds.ext h hx) (lasts_is (lasts_cons (fun _ _ _ hx h => Rds.ext h hx) (lasts_is (lasts_is lasts_nil))))))))))
        iterate 1
          apply wpL_none rfl rfl
          · intro w' hw' hn'; go_simp; exact rfl
          intro K hK; go_simp; refine hK _ _ ?_; clear hK K
        apply wpL_some rfl rfl
        · intro w' hw' hn'
          go_simp
          exact ⟨Ext.new _ _, rds_one (rC.ext hw') rfl⟩
        intro b1 w' hw' hD' hv
        clear hv hw' hD' w'
        intro K hK; go_simp; refine hK _ _ ?_; clear hK K
        apply wpL_some rfl rfl
        · intro w' hw' hn'
          have hr : Rds .u8 w' b1 [C] := hn' ⟨1, .data⟩ (by simp) rfl
          go_simp
          refine ⟨Ext.rfl' _, ?_⟩
          refine (sum_any _ [C] _ hr (fun l hl => by rw [List.mem_singleton.1 hl]; exact HBC.out) (by simp; omega)).mono ?_
          rintro e w2 ⟨rfl, hx⟩
          exact ⟨_, rfl, hx, by rw [List.flatten_singleton, HC7.out]; rfl⟩
        intro v w' hw' hD' hv
        obtain rfl : v = _ := hv
        clear hw' hD' w'
        intro K hK; go_simp; refine hK _ _ ?_; clear hK K
        iterate 9
          apply wpL_none rfl rfl
          · intro w' hw' hn'; go_simp; exact rfl
          intro K hK; go_simp; refine hK _ _ ?_; clear hK K
        apply wpL_some rfl rfl
        · intro w' hw' hn'
          go_simp
          exact ⟨Ext.new _ _, rds_two (t1e.ext hw') (t2e.ext hw') rfl⟩
        intro b2 w' hw' hD' hv
        clear hv hw' hD' w'
        intro K hK; go_simp; refine hK _ _ ?_; clear hK K
        apply wpL_some rfl rfl
        · intro w' hw' hn'
          have hr : Rds .u8 w' b2 [E.take K, E.drop K] := hn' ⟨12, .data⟩ (by simp) rfl
          go_simp
          refine ⟨Ext.rfl' _, ?_⟩
          refine (sum_any _ [E.take K, E.drop K] _ hr (two_of HBt.out HBd.out) (by simp; omega)).mono ?_
          rintro e w2 ⟨rfl, hx⟩
          exact ⟨_, rfl, hx, by rw [FT12.out]; rfl⟩
        intro v w' hw' hD' hv
        obtain rfl : v = _ := hv
        clear hw' hD' w'
        intro K hK; go_simp; refine hK _ _ ?_; clear hK K
        iterate 10
          apply wpL_none rfl rfl
          · intro w' hw' hn'; go_simp; exact rfl
          intro K hK; go_simp; refine hK _ _ ?_; clear hK K
        apply wpL_some rfl rfl
        · intro w' hw' hn'
          go_simp
          exact ⟨Ext.new _ _, rds_two (t2e.ext hw') (t1e.ext hw') rfl⟩
        intro b3 w' hw' hD' hv
        clear hv hw' hD' w'
        intro K hK; go_simp; refine hK _ _ ?_; clear hK K
        apply wpL_some rfl rfl
        · intro w' hw' hn'
          have hr : Rds .u8 w' b3 [E.drop K, E.take K] := hn' ⟨24, .data⟩ (by simp) rfl
          go_simp
          refine ⟨Ext.rfl' _, ?_⟩
          refine (sum_any _ [E.drop K, E.take K] _ hr (two_of HBd.out HBt.out) (by simp; omega)).mono ?_
          rintro e w2 ⟨rfl, hx⟩
          exact ⟨_, rfl, hx, by rw [FT21.out, HT21.out]; rfl⟩
        intro v w' hw' hD' hv
        obtain rfl : v = _ := hv
        clear hw' hD' w'
        intro K hK; go_simp; refine hK _ _ ?_; clear hK K
        iterate 5
          apply wpL_none rfl rfl
          · intro w' hw' hn'; go_simp; exact rfl
          intro K hK; go_simp; refine hK _ _ ?_; clear hK K
        apply wpL_some rfl rfl
        · intro w' hw' hn'
          go_simp
          exact ⟨Ext.new _ _, rds_one (rN.ext hw') rfl⟩
        intro b4 w' hw' hD' hv
        clear hv hw' hD' w'
        intro K hK; go_simp; refine hK _ _ ?_; clear hK K
        apply wpL_some rfl rfl
        · intro w' hw' hn'
          have hr : Rds .u8 w' b4 [NN] := hn' ⟨31, .data⟩ (by simp) rfl
          go_simp
          refine ⟨Ext.rfl' _, ?_⟩
          refine (sum_any _ [NN] _ hr (fun l hl => by rw [List.mem_singleton.1 hl]; exact HBN.out) (by simp; omega)).mono ?_
          rintro e w2 ⟨rfl, hx⟩
          exact ⟨_, rfl, hx, by rw [List.flatten_singleton, HNN.out]; rfl⟩
        intro v w' hw' hD' hv
        obtain rfl : v = _ := hv
        clear hw' hD' w'
        intro K hK; go_simp; refine hK _ _ ?_; clear hK K
        iterate 5
          apply wpL_none rfl rfl
          · intro w' hw' hn'; go_simp; exact rfl
          intro K hK; go_simp; refine hK _ _ ?_; clear hK K
        apply wpL_some rfl rfl
        · intro w' hw' hn'
          go_simp
          exact ⟨Ext.new _ _, rds_one (rT.ext hw') rfl⟩
        intro b5 w' hw' hD' hv
        clear hv hw' hD' w'
        intro K hK; go_simp; refine hK _ _ ?_; clear hK K
        apply wpL_some rfl rfl
        · intro w' hw' hn'
          have hr : Rds .u8 w' b5 [T] := hn' ⟨38, .data⟩ (by simp) rfl
          go_simp
          refine ⟨Ext.rfl' _, ?_⟩
          refine (sum_any _ [T] _ hr (fun l hl => by rw [List.mem_singleton.1 hl]; exact HBT.out) (by simp; omega)).mono ?_
          rintro e w2 ⟨rfl, hx⟩
          exact ⟨_, rfl, hx, by rw [List.flatten_singleton, HCT.out]; rfl⟩
        intro v w' hw' hD' hv
        obtain rfl : v = _ := hv
        clear hw' hD' w'
        intro K hK; go_simp; refine hK _ _ ?_; clear hK K
        iterate 8
          apply wpL_none rfl rfl
          · intro w' hw' hn'; have ho := HOR.out; go_simp; exact rfl
          intro K hK; go_simp; refine hK _ _ ?_; clear hK K
        apply wpL_some rfl rfl
        · intro w' hw' hn'
          go_simp
          refine ⟨Ext.rfl' _, ?_⟩
          refine (wakes_any _).mono ?_
          rintro e w2 ⟨rfl, hx⟩
          exact ⟨_, rfl, hx, rfl⟩
        intro v w' hw' hD' hv
        obtain rfl : v = _ := hv
        clear hw' hD' w'
        intro K hK; go_simp; refine hK _ _ ?_; clear hK K
        iterate 2
          apply wpL_none rfl rfl
          · intro w' hw' hn'; go_simp; exact rfl
          intro K hK; go_simp; refine hK _ _ ?_; clear hK K
        refine wpL_nil ?_
        intro w' hw' _
        go_wp2
        go_ret
        exact ⟨rfl, ((((hx1.tr ((Ext.new _ _).tr hx2)).tr hb7).tr hxw).tr hb11).tr hw'⟩
end Go.Proofs.Ytlobceldlegnlaa.sumOrder
