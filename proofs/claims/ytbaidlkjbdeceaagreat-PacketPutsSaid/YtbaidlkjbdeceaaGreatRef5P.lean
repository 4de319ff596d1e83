/-
  Proved here: what culvertref05's Put computes. Conditions: kinds and data are bytes; at most 1000000000 options.
-/
import Derived.Test.YtbaidlkjbdeceaaGreatRef5
namespace Go.Proofs.YtbaidlkjbdeceaaGreat
set_option maxRecDepth 200000
open Go.ChangeShapes Go.WideShapes Go.ChangeAt Go.RowKit Go.Cul Go.Loose
set_option linter.unusedVariables false
attribute [local go_sem] Loose.Still Loose.Upon Loose.vUpon

theorem flat_le {os : List Op1} (h : os.any badO = false) : (flat os).length ≤ 40 * os.length := by
  induction os with
  | nil => exact Nat.le_refl _
  | cons o os ih =>
    simp only [List.any_cons, Bool.or_eq_false_iff] at h
    have h1 := ih h.2
    have h2 := h.1
    unfold badO at h2
    simp only [Bool.or_eq_false_iff, decide_eq_false_iff_not] at h2
    rw [flat_cons, List.length_append, ob_len, List.length_cons]
    omega
theorem New2.ext {N : Nat} {x y : Int} {t : TypeId} {v : Value} {w w' : World} (h : New2 N x y t v w) (hx : Ext w w') : New2 N x y t v w' := by
  obtain ⟨g, h1, h2, h3⟩ := h; exact ⟨g, h1, h2, hx.block h3⟩
def lenS : Value → Nat
  | .slice _ n _ => n
  | _ => 0

set_option maxHeartbeats 1000000 in
set_option maxRecDepth 100000 in
theorem r5put_any (v : Value) (os : List Op1) (w : World) (hv : RdO w v os) (hb : BytO os) (hn : os.length ≤ 1000000000) :
    Calls Tryz.prog 48 #[v] w fun e w' => ∃ u, e = .returned (.tuple #[u, .int .i64 (oput os).2]) ∧ Own w' w.heap.size 5 .u8 u (oput os).1 ∧ Ext w w' := by
  obtain ⟨a, c, rfl, hc1, hc2, hr⟩ := id hv
  unfold maxLen at hc2
  have HR := Lib.hid hr
  have HB := Lib.hid hb
  clear hr hb hv
  go_enter Tryz.func48, Tryz.ntmps48
  go_wp2_with fail
  go_loopw [4, 5] (fun u i wr => ∃ k : Nat, k ≤ os.length ∧ i = .int .i64 k ∧ Own wr w.heap.size 5 .u8 u (flat (os.take k)) ∧ Hid ((os.take k).any badO = false) ∧ Ext w wr) (fun _ i _ => os.length - (intOf i).toNat)
  case atStart => exact ⟨0, Nat.zero_le _, rfl, Own.nil _ _ _ _, (show ([] : List Op1).any badO = false from rfl), Ext.rfl' _⟩
  case round =>
    obtain ⟨k, hk, rfl, hown, hbad, hx⟩ := hrel
    by_cases hlt : k < os.length
    · rcases HR.out with h0 | ⟨b, o, rfl, hrw⟩
      · rw [h0] at hlt; simp at hlt
      obtain ⟨ud, e0, e1, hu⟩ := hrw k hlt
      clear hrw
      have E1 := Lib.hid e1
      have e0 := hx.cell e0
      have e1 := hx.cell e1
      have ht := Lib.hid (flat_take hlt)
      have hfl : (flat (os.take k)).length ≤ 40 * k := by
        have h := flat_le hbad.out
        rw [List.length_take] at h
        omega
      have hbt : Hid (badO (os.getD k (0, [])) = false → (os.take (k + 1)).any badO = false) := fun h => by
        rw [take_succ_getD' (0, []) os k hlt, List.any_append, hbad.out]; simpa using h
      have hany : Hid (badO (os.getD k (0, [])) = true → oput os = ([], 1)) := fun h => by
        unfold oput; rw [if_pos (any_of_at hlt h)]
      have hkb := (HB.out.at k).1
      obtain ⟨ad, nd, cd, rfl⟩ := hu.shape
      generalize hL : flat (os.take k) = L at *
      clear hL
      generalize os.getD k (0, []) = x at *
      obtain ⟨kd, D⟩ := x
      dsimp only at e0 hu hkb
      have HU := Lib.hid hu
      obtain ⟨ad', cd', hud, hcd1, hcd2, -⟩ := id hu
      cases hud
      obtain ⟨au, nu, cu, rfl⟩ := hown.rd.shape
      unfold maxLen at hcd2
      by_cases hkd : kd < 2
      · have hU : Hid (oput os = ([], 1)) := hany.out (by unfold badO; simp [hkd])
        clear hu
        go_wp2_with fail
        go_ret2
        rw [hU.out]
        exact ⟨_, rfl, Own.nil _ _ _ _, hx⟩
      by_cases h38 : 38 < D.length
      · have hU : Hid (oput os = ([], 1)) := hany.out (by unfold badO; simp [h38])
        have h38' : (38 : Int) < (D.length : Int) := by omega
        clear hu
        go_wp2_with fail
        go_ret2
        rw [hU.out]
        exact ⟨_, rfl, Own.nil _ _ _ _, hx⟩
      have h38' : ¬ (38 : Int) < (D.length : Int) := by omega
      have hbad2 : Hid ((os.take (k + 1)).any badO = false) := hbt.out (by unfold badO; simp [hkd, h38])
      have hcv : IntKind.u8.wrap ((D.length : Int) + 2) = D.length + 2 := by simp [IntKind.wrap, IntKind.bits, IntKind.signed]; omega
      have hcw : IntKind.i64.wrap ((D.length : Int) + 2) = D.length + 2 := by rw [IntWalk.i64_in _ (by omega)]
      have hcw2 : IntKind.i64.wrap (2 + (D.length : Int)) = D.length + 2 := by rw [IntWalk.i64_in _ (by omega)]; omega
      have hxs := hx.size
      go_upto_region 7 with (fail)
      refine wp_region_tail 15 [(14, New2 w.heap.size kd (D.length + 2) 5)] ?_ (by kernel_rfl) (by kernel_rfl) (by kernel_rfl) ?_
      · exact lasts_cons (fun _ _ _ hx h => New2.ext h hx) lasts_nil
      simp only [List.take, List.drop]
      iterate 5
        apply wpL_none rfl rfl
        · intro w' hw' hn'; go_simp; exact rfl
        intro K hK; go_simp; refine hK _ _ ?_; clear hK K
      iterate 1
        apply wpL_none rfl rfl
        · intro w' hw' hn'; have e0 := Ext.cell hw' e0; go_simp; exact rfl
        intro K hK; go_simp; refine hK _ _ ?_; clear hK K
      iterate 4
        apply wpL_none rfl rfl
        · intro w' hw' hn'; go_simp; exact rfl
        intro K hK; go_simp; refine hK _ _ ?_; clear hK K
      iterate 1
        apply wpL_none rfl rfl
        · intro w' hw' hn'; have e1 := Ext.cell hw' e1; go_simp; exact rfl
        intro K hK; go_simp; refine hK _ _ ?_; clear hK K
      iterate 3
        apply wpL_none rfl rfl
        · intro w' hw' hn'; go_simp; exact rfl
        intro K hK; go_simp; refine hK _ _ ?_; clear hK K
      apply wpL_some rfl rfl
      · intro w' hw' hn'
        go_simp
        exact ⟨Ext.new _ _, _, Nat.le_trans hxs hw'.size, rfl, heap_alloc_new _ _⟩
      intro v14 w14 hw14 hD14 hv14
      obtain ⟨g14, -, rfl, -⟩ := hv14
      clear hw14 hD14 w14
      intro K hK; go_simp; refine hK _ _ ?_; clear hK K
      refine wpL_nil ?_
      intro w' hw' hD'
      have hv14 := hD' 14
      simp [Loose.upd] at hv14
      obtain ⟨g14', -, he14, hg14⟩ := hv14
      cases he14
      apply wpVL_step rfl
      intro K hK
      refine vupon_app isU8 (.tmp 27) (.tmp 41) (by rfl) w.heap.size _ L (by rfl) (hown.kept hw') _ [kd, (D.length : Int) + 2] (by rfl) (rd_blk2 hg14) (by simp; omega) (by simp [maxLen]; omega) (Nat.le_trans hxs hw'.size) (fun v' w'' q1 q2 q3 => ?_)
      have hx2 : Ext w w'' := (hown.kept hw').below q2 (hx.tr hw') (Nat.le_trans hxs hw'.size)
      refine hK _ _ ?_
      clear hK K
      iterate 1
        apply wpVL_step rfl
        intro K hK
        go_simp
        refine hK _ _ ?_
        clear hK K
      refine wpVL_nil ?_
      clear hD' hg14 q2 q3 hw' e0 e1 hown hu
      have e1 := hx2.cell E1.out
      obtain ⟨a2, n2, c2, rfl⟩ := q1.rd.shape
      have hLL : Hid (L ++ [kd, (D.length : Int) + 2] ++ D = flat (os.take (k + 1))) := by unfold Hid; rw [ht.out]; simp [ob]; omega
      have hlen : (L ++ [kd, (D.length : Int) + 2]).length = L.length + 2 := by simp
      have HLen := Lib.hid hlen
      clear hlen ht
      go_wp2_with (at_builtin; go_must (refine wpList_app isU8 rfl (.tmp 43) (.tmp 48) rfl w.heap.size _ (L ++ [kd, (D.length : Int) + 2]) rfl q1 _ D rfl (HU.out.ext hx2) (by rw [HLen.out]; omega) (by rw [HLen.out]; simp [maxLen]; omega) hx2.size ?_); intro v3 w3 hown3 hg3 hat3)
      have hx3 : Ext w w3 := q1.below hg3 hx2 hx2.size
      go_roundw
      case rel => exact ⟨k + 1, by omega, by go_num, by rw [← hLL.out]; exact hown3, hbad2, hx3⟩
      case measure => simp [intOf]; omega
    · obtain rfl : k = os.length := by omega
      rw [List.take_length] at hown
      have hbad' := hbad.out
      rw [List.take_length] at hbad'
      have hfl := flat_le hbad'
      generalize hF : flat os = F at *
      have hU : Hid (oput os = if 40 < F.length then ([], 3) else (F ++ zeros (pad F.length), 0)) := by unfold oput; rw [hbad', hF]; exact rfl
      clear hF hbad hbad'
      obtain ⟨a2, n2, c2, rfl⟩ := hown.rd.shape
      obtain ⟨a2', c2', he, -, -, -⟩ := id hown.rd
      cases he
      by_cases h40 : 40 < F.length
      · have hU2 : Hid (oput os = ([], 3)) := by unfold Hid; rw [hU.out, if_pos h40]
        have h40' : (40 : Int) < (F.length : Int) := by omega
        clear h40
        go_wp2_with fail
        go_ret2
        rw [hU2.out]
        exact ⟨_, rfl, Own.nil _ _ _ _, hx⟩
      · have hU2 : Hid (oput os = (F ++ zeros (pad F.length), 0)) := by unfold Hid; rw [hU.out, if_neg h40]
        have h40' : ¬ (40 : Int) < (F.length : Int) := by omega
        have hpd : pad F.length ≤ 3 ∧ (F.length + pad F.length) % 4 = 0 := by unfold pad; omega
        have hpm : ∀ n, n < pad F.length → (F.length + n) % 4 ≠ 0 := by unfold pad; intro n hn; omega
        generalize pad F.length = pd at *
        clear hU
        go_wp2_with fail
        go_loopw [4] (fun u wr => ∃ n : Nat, n ≤ pd ∧ Own wr w.heap.size 5 .u8 u (F ++ zeros n) ∧ Ext w wr) (fun u _ => 44 - lenS u)
        case atStart => exact ⟨0, Nat.zero_le _, by simpa [zeros] using hown, hx⟩
        case round =>
          obtain ⟨n, hnp, hown, hx⟩ := hrel
          obtain ⟨a3, n3, c3, rfl⟩ := hown.rd.shape
          obtain ⟨a3', c3', he, -, -, -⟩ := id hown.rd
          cases he
          have hl : (F ++ zeros n).length = F.length + n := by simp [zeros]
          have hz : Hid (F ++ zeros n ++ [0] = F ++ zeros (n + 1)) := by unfold Hid; simp [zeros, List.replicate_succ', List.append_assoc]
          by_cases hlt : n < pd
          · have hne := hpm n hlt
            go_wp2_with (at_builtin; go_must (refine wpList_app isU8 rfl (.tmp 57) (.tmp 58) rfl w.heap.size _ _ rfl (hown.kept (Ext.new _ _)) _ [0] rfl (rd_new .u8 _ _ _ _ rfl rfl rfl rfl (by decide)) (by simp [zeros]; omega) (by simp [maxLen, zeros]; omega) (by have := hx.size; simp; omega) ?_); intro v3 w3 hown3 hg3 hat3)
            have hx3 : Ext w w3 := (hown.kept (Ext.new _ _)).below hg3 (hx.al _) (by have := hx.size; simp; omega)
            go_roundw
            case rel => exact ⟨n + 1, by omega, by rw [← hz.out]; exact hown3, hx3⟩
            case measure =>
              obtain ⟨a4, c4, rfl, -, -, -⟩ := hown3.rd
              simp [lenS, zeros]; omega
          · obtain rfl : n = pd := by omega
            go_wp2_with fail
            go_ret2
            rw [hU2.out]
            exact ⟨_, rfl, hown, hx⟩
end Go.Proofs.YtbaidlkjbdeceaaGreat
