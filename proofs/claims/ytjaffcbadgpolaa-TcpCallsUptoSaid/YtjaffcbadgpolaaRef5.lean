/-
  Proved here: what culvertref05's Same, Parse and Put compute. Conditions: kinds and data are bytes; Put: at most 1000000000 options.
-/
import Derived.Test.YtjaffcbadgpolaaOptsR
import Derived.Test.YtjaffcbadgpolaaOptM
import Derived.Test.YtjaffcbadgpolaaOptsS
import Derived.Test.YtjaffcbadgpolaaRef3
import Derived.BigRegion
namespace Go.Proofs.Ytjaffcbadgpolaa
open Go.ChangeShapes Go.WideShapes Go.ChangeAt Go.RowKit Go.Cul Go.Loose
set_option linter.unusedVariables false
attribute [local go_sem] Loose.Still Loose.Upon Loose.vUpon

theorem str_eq {l l' : List Int} (hb : Byt l) (hb' : Byt l') : ((strOfNums l).toList == (strOfNums l').toList) = decide (l = l') := by
  rw [ByteArray.toList_eq, ByteArray.toList_eq, Bool.eq_iff_iff, decide_eq_true_iff, beq_iff_eq]
  refine ⟨fun h => ?_, fun h => by rw [h]⟩
  rw [← nums_back l hb, ← nums_back l' hb', h]

theorem r5same_any (v1 v2 : Value) (a b : List Op1) (w : World) (h1 : RdO w v1 a) (h2 : RdO w v2 b) (ha : BytO a) (hb : BytO b) :
    Calls Try.prog 51 #[v1, v2] w fun e w' => e = .returned (.bool (decide (a = b))) ∧ Ext w w' := by
  obtain ⟨p1, c1, rfl, q1, q2, r1⟩ := h1
  obtain ⟨p2, c2, rfl, q3, q4, r2⟩ := h2
  have R1 := Lib.hid r1
  have R2 := Lib.hid r2
  have HA := Lib.hid ha
  have HB := Lib.hid hb
  clear r1 r2 ha hb
  unfold maxLen at q2 q4
  by_cases hl : a.length = b.length
  · go_enter Try.func51, Try.ntmps51
    have hl' : ((a.length : Int) != (b.length : Int)) = false := by simp [hl]
    have HL := Lib.hid hl
    clear hl
    go_wp2_with fail
    go_loopw [5] (fun i wr => ∃ k : Nat, k ≤ a.length ∧ i = .int .i64 k ∧ Hid (a.take k = b.take k) ∧ Ext w wr) (fun i _ => a.length - (intOf i).toNat)
    case atStart => exact ⟨0, Nat.zero_le _, rfl, rfl, Ext.rfl' _⟩
    case round =>
      obtain ⟨k, hk, rfl, hpre, hx⟩ := hrel
      by_cases hlt : k < a.length
      · rcases R1.out with h0 | ⟨b1, o1, rfl, hrw1⟩
        · rw [h0] at hlt; simp at hlt
        rcases R2.out with h0 | ⟨b2, o2, rfl, hrw2⟩
        · have := HL.out; rw [h0] at this; simp at this; rw [this] at hlt; simp at hlt
        have hlt2 : k < b.length := by have := HL.out; omega
        obtain ⟨u, e0, e1, hu⟩ := hrw1 k hlt
        obtain ⟨u', y0, y1, hu'⟩ := hrw2 k hlt2
        clear hrw1 hrw2
        have e0 := hx.cell e0
        have e1 := hx.cell e1
        have y0 := hx.cell y0
        have y1 := hx.cell y1
        have hu := hu.ext hx
        have hu' := hu'.ext hx
        have ht1 := take_succ_getD' (0, []) a k hlt
        have ht2 := take_succ_getD' (0, []) b k hlt2
        have hkk : (k : Int) < (b.length : Int) := by omega
        have hne : a.getD k (0, []) ≠ b.getD k (0, []) → decide (a = b) = false := fun h => by
          rw [decide_eq_false_iff_not]; rintro rfl; exact h rfl
        have hs := str_eq (HA.out.at k).2 (HB.out.at k).2
        generalize a.getD k (0, []) = x at *
        generalize b.getD k (0, []) = y at *
        obtain ⟨kx, lx⟩ := x
        obtain ⟨ky, ly⟩ := y
        dsimp only at e0 y0 hu hu' hs
        have hc1 := fun (W : World) (h : Ext wr W) => run_conv_rd (P := Try.prog) (src := 25) (e := 5) (dst := 9) (by kernel_rfl) (by kernel_rfl) (by kernel_rfl) (hu.ext h)
        have hc2 := fun (W : World) (h : Ext wr W) => run_conv_rd (P := Try.prog) (src := 25) (e := 5) (dst := 9) (by kernel_rfl) (by kernel_rfl) (by kernel_rfl) (hu'.ext h)
        obtain ⟨au, nu, cu, rfl⟩ := hu.shape
        obtain ⟨au', nu', cu', rfl⟩ := hu'.shape
        have HC1 := Lib.hid hc1
        have HC2 := Lib.hid hc2
        have hN := Lib.hid hne
        have hT1 := Lib.hid ht1
        have hT2 := Lib.hid ht2
        clear hu hu' hc1 hc2 hne ht1 ht2
        go_upto_region 6 with (fail)
        rcases hkd : (kx != ky) with _ | _
        · have hK0 := Lib.hid (show kx = ky by simpa using hkd)
          rcases hd : decide (lx = ly) with _ | _
          · rw [hd] at hs
            have hD := Lib.hid (hN.out (by simp at hd; simp [hd]))
            clear hd
            refine wp_region_grow [] lasts_nil (by kernel_rfl) (by kernel_rfl) ?_
            iterate 10
              apply wpL_none rfl rfl
              · intro w' hw' hn'; have e0 := Ext.cell hw' e0; have y0 := Ext.cell hw' y0; go_simp; exact rfl
              intro K hK; go_simp; refine hK _ _ ?_; clear hK K
            iterate 2
              apply wpL_none rfl rfl
              · intro w' hw' hn'; go_simp; exact rfl
              intro K hK; go_simp; refine hK _ _ ?_; clear hK K
            iterate 5
              apply wpL_none rfl rfl
              · intro w' hw' hn'; have e1 := Ext.cell hw' e1; go_simp; exact rfl
              intro K hK; go_simp; refine hK _ _ ?_; clear hK K
            apply wpL_none rfl rfl
            · intro w' hw' hn'; have q := HC1.out w' hw'; go_simp; exact rfl
            intro K hK; go_simp; refine hK _ _ ?_; clear hK K
            iterate 5
              apply wpL_none rfl rfl
              · intro w' hw' hn'; have y1 := Ext.cell hw' y1; go_simp; exact rfl
              intro K hK; go_simp; refine hK _ _ ?_; clear hK K
            apply wpL_none rfl rfl
            · intro w' hw' hn'; have q := HC2.out w' hw'; go_simp; exact rfl
            intro K hK; go_simp; refine hK _ _ ?_; clear hK K
            iterate 2
              apply wpL_none rfl rfl
              · intro w' hw' hn'; go_simp; exact rfl
              intro K hK; go_simp; refine hK _ _ ?_; clear hK K
            refine wpL_nil ?_
            intro w5 hw5 hD5
            clear hD5 e0 e1 y0 y1
            go_wp2_with fail
            go_ret
            exact ⟨by rw [hD.out]; rfl, hx.tr hw5⟩
          · rw [hd] at hs
            have he : lx = ly := by simpa using hd
            have hT : Hid (a.take (k + 1) = b.take (k + 1)) := by unfold Hid; rw [hT1.out, hT2.out, hpre.out, he, hK0.out]
            clear hd he
            refine wp_region_grow [] lasts_nil (by kernel_rfl) (by kernel_rfl) ?_
            iterate 10
              apply wpL_none rfl rfl
              · intro w' hw' hn'; have e0 := Ext.cell hw' e0; have y0 := Ext.cell hw' y0; go_simp; exact rfl
              intro K hK; go_simp; refine hK _ _ ?_; clear hK K
            iterate 2
              apply wpL_none rfl rfl
              · intro w' hw' hn'; go_simp; exact rfl
              intro K hK; go_simp; refine hK _ _ ?_; clear hK K
            iterate 5
              apply wpL_none rfl rfl
              · intro w' hw' hn'; have e1 := Ext.cell hw' e1; go_simp; exact rfl
              intro K hK; go_simp; refine hK _ _ ?_; clear hK K
            apply wpL_none rfl rfl
            · intro w' hw' hn'; have q := HC1.out w' hw'; go_simp; exact rfl
            intro K hK; go_simp; refine hK _ _ ?_; clear hK K
            iterate 5
              apply wpL_none rfl rfl
              · intro w' hw' hn'; have y1 := Ext.cell hw' y1; go_simp; exact rfl
              intro K hK; go_simp; refine hK _ _ ?_; clear hK K
            apply wpL_none rfl rfl
            · intro w' hw' hn'; have q := HC2.out w' hw'; go_simp; exact rfl
            intro K hK; go_simp; refine hK _ _ ?_; clear hK K
            iterate 2
              apply wpL_none rfl rfl
              · intro w' hw' hn'; go_simp; exact rfl
              intro K hK; go_simp; refine hK _ _ ?_; clear hK K
            refine wpL_nil ?_
            intro w5 hw5 hD5
            clear hD5 e0 e1 y0 y1
            go_wp2_with fail
            case roundEnd => exact ⟨⟨k + 1, by omega, by go_num, hT, hx.tr hw5⟩, by simp [intOf]; omega⟩
        · have hD := Lib.hid (hN.out (by simp at hkd; simp [hkd]))
          refine wp_region_grow [] lasts_nil (by kernel_rfl) (by kernel_rfl) ?_
          iterate 10
            apply wpL_none rfl rfl
            · intro w' hw' hn'; have e0 := Ext.cell hw' e0; have y0 := Ext.cell hw' y0; go_simp; exact rfl
            intro K hK; go_simp; refine hK _ _ ?_; clear hK K
          iterate 2
            apply wpL_none rfl rfl
            · intro w' hw' hn'; go_simp; exact rfl
            intro K hK; go_simp; refine hK _ _ ?_; clear hK K
          iterate 13
            with_reducible refine wpL_skip ?_ ?_
            · rfl
            intro K hK; go_simp; refine hK _ _ ?_; clear hK K
          iterate 1
            apply wpL_none rfl rfl
            · intro w' hw' hn'; go_simp; exact rfl
            intro K hK; go_simp; refine hK _ _ ?_; clear hK K
          refine wpL_nil ?_
          intro w5 hw5 hD5
          clear hD5 e0 e1 y0 y1
          go_wp2_with fail
          go_ret
          exact ⟨by rw [hD.out]; rfl, hx.tr hw5⟩
      · obtain rfl : k = a.length := by omega
        have hT : Hid (decide (a = b) = true) := by
          unfold Hid
          have h := hpre.out
          rw [List.take_length, HL.out, List.take_length] at h
          simpa using h
        go_wp2_with fail
        go_ret
        exact ⟨by rw [hT.out]; rfl, hx⟩
  · have hD : Hid (decide (a = b) = false) := by
      unfold Hid; rw [decide_eq_false_iff_not]; rintro rfl; exact hl rfl
    have hl' : ((a.length : Int) != (b.length : Int)) = true := by simp; omega
    go_enter Try.func51, Try.ntmps51
    clear hl
    go_wp2_with fail
    go_ret
    exact ⟨by rw [hD.out]; rfl, Ext.rfl' _⟩

/-- A value made of a kind and own data. -/
def AggO (base : Nat) (k : Int) (D : List Int) (v : Value) (w : World) : Prop := ∃ u, v = .agg #[.int .u8 k, u] ∧ Fr w base 5 .u8 u D
/-- One option in new memory. -/
def NewO (base : Nat) (k : Int) (D : List Int) (v : Value) (w : World) : Prop := ∃ g u, v = .slice (some ⟨g, 0, none⟩) 1 1 ∧ w.heap[g]? = some (.cells #[.int .u8 k, u] 36) ∧ Fr w base 5 .u8 u D
theorem AggO.ext {base : Nat} {k : Int} {D : List Int} {v : Value} {w w' : World} (h : AggO base k D v w) (hx : Ext w w') : AggO base k D v w' := by
  obtain ⟨u, h1, h2⟩ := h; exact ⟨u, h1, h2.kept hx⟩
theorem NewO.ext {base : Nat} {k : Int} {D : List Int} {v : Value} {w w' : World} (h : NewO base k D v w) (hx : Ext w w') : NewO base k D v w' := by
  obtain ⟨g, u, h1, h2, h3⟩ := h; exact ⟨g, u, h1, hx.block h2, h3.kept hx⟩

theorem vupon_appO {w : World} {o : Oper} {a : Act} {K : Act → World → Prop} (s x : Operand)
    (ho : o.op = .call { callee := .builtin .append, args := #[s, x], argTypes := #[24, 24] }) (base : Nat) (v : Value) (os : List Op1) (hs : a.eval s = v) (h : FrO w base v os) (bs : Nat) (hx : a.eval x = .slice (some ⟨bs, 0, none⟩) 1 1)
    (k : Int) (u : Value) (l : List Int) (hu : Fr w base 5 .u8 u l) (hbs : w.heap[bs]? = some (.cells #[.int .u8 k, u] 36)) (hn : os.length ≤ 100000) (hbase : base ≤ w.heap.size)
    (hc : ∀ v' w', FrO w' base v' (os ++ [(k, l)]) → w.grownBy w' v.ownBlock → (∀ j, v.ownBlock = some j → base ≤ j) → K (a.put o.dst v') w') : Loose.vUpon Try.prog o a K ((execOp a.eval o).run Try.prog w) := by
  obtain ⟨v', w', hrun, h2, h3, -, h5⟩ := run_appO w base o.type v os h bs k u l hu hbs hn hbase
  unfold execOp
  simp only [ho, resolve, invoke, builtin, Sem.run_bind, Sem.run_pure, Result.andThen_ok, List.map_toArray, List.map_cons, List.map_nil, hs, hx, hrun, Loose.vUpon]
  exact hc v' w' h2 h3 h5

theorem all_no {l : List Int} {i j : Nat} (hij : i ≤ j) (hj : j < l.length) (h : (l.getD j 0 == 0) = false) : (l.drop i).all (· == 0) = false := by
  rw [List.all_eq_false]
  refine ⟨l[j], ?_, by simpa [List.getD, hj] using h⟩
  rw [List.mem_iff_getElem]
  exact ⟨j - i, by rw [List.length_drop]; omega, by rw [List.getElem_drop]; congr 1; omega⟩
theorem all_yes {l : List Int} {i : Nat} (h : ∀ x, i ≤ x → x < l.length → l.getD x 0 = 0) : (l.drop i).all (· == 0) = true := by
  rw [List.all_eq_true]
  intro x hx
  obtain ⟨k, hk, rfl⟩ := List.mem_iff_getElem.1 hx
  rw [List.length_drop] at hk
  have := h (i + k) (by omega) (by omega)
  rw [List.getElem_drop]
  simpa [List.getD, show i + k < l.length by omega] using this

set_option maxHeartbeats 1000000 in
set_option maxRecDepth 100000 in
theorem r5parse_any (v : Value) (l : List Int) (w : World) (hv : Rd .u8 w v l) (hb : Byt l) (hl : l.length ≤ 140737488351232) :
    Calls Try.prog 49 #[v] w fun e w' => ∃ u, e = .returned (.tuple #[u, .int .i64 (opar l).2]) ∧ FrO w' w.heap.size u (opar l).1 ∧ Ext w w' := by
  obtain ⟨a, cap, rfl, hc1, hc2, hr⟩ := id hv
  unfold maxLen at hc2
  by_cases hlong : 40 < l.length
  · have hU : Hid (opar l = ([], 3)) := by unfold opar; rw [if_pos hlong]; exact rfl
    have hlong' : (40 : Int) < (l.length : Int) := by omega
    clear hlong hr
    go_enter Try.func49, Try.ntmps49
    go_wp2_with fail
    go_ret2
    rw [hU.out]
    exact ⟨_, rfl, FrO.nil _ _, Ext.rfl' _⟩
  have hN : l.length ≤ 40 := by omega
  have hlong' : ¬ (40 : Int) < (l.length : Int) := by omega
  have hU : Hid (opar l = if (opS l).2 = 0 then opS l else ([], (opS l).2)) := by unfold opar; rw [if_neg hlong]; exact rfl
  have HB := Lib.hid hb
  have HR := Lib.hid hr
  have HV := Lib.hid hv
  clear hlong hb hr hv
  go_enter Try.func49, Try.ntmps49
  go_wp2_with fail
  go_loopw [4, 5] (fun v iv wr => ∃ (i : Nat) (acc : List Op1), i ≤ l.length ∧ acc.length ≤ i ∧ iv = .int .i64 i ∧ FrO wr w.heap.size v acc ∧ Ext w wr ∧ Hid (opS l = (acc ++ (opS (l.drop i)).1, (opS (l.drop i)).2))) (fun _ iv _ => l.length - (intOf iv).toNat)
  case atStart => exact ⟨0, [], Nat.zero_le _, Nat.zero_le _, rfl, FrO.nil _ _, Ext.rfl' _, (show opS l = ([] ++ (opS (l.drop 0)).1, (opS (l.drop 0)).2) by simp)⟩
  case round =>
    obtain ⟨i, acc, hi, hacc, rfl, hfo, hx, hop⟩ := hrel
    obtain ⟨av, cv, rfl⟩ := hfo.rdo.shape
    have hFO := Lib.hid hfo
    clear hfo
    by_cases hlt : i < l.length
    · rcases HR.out with h0 | ⟨b, o, rfl, hrw⟩
      · rw [h0] at hlt; simp at hlt
      have e0 := hx.cell (hrw i hlt)
      have hd := Lib.hid (drop_cons hlt)
      have hkd := HB.out.at i
      have hkz : Hid (l.getD i 0 = l.getD i 0) := rfl
      generalize hkdE : l.getD i 0 = kd at *
      have hkdE := Lib.hid hkdE
      rcases (by omega : kd = 0 ∨ kd = 1 ∨ (kd ≠ 0 ∧ kd ≠ 1)) with rfl | rfl | ⟨hk0, hk1⟩
      · have hop1 : Hid (opS l = (acc, if (l.drop (i + 1)).all (· == 0) then 0 else 5)) := by unfold Hid; rw [hop.out, hd.out, opS_zero]; simp
        clear hkd hkz
        go_wp2_with fail
        go_loop [6] (fun jv => ∃ j : Nat, i ≤ j ∧ j ≤ l.length ∧ jv = .int .i64 j ∧ Hid (∀ x, i ≤ x → x < j → l.getD x 0 = 0)) (fun jv => l.length - (intOf jv).toNat)
        case atStart => exact ⟨i, Nat.le_refl _, hi, rfl, (fun x h1 h2 => by omega)⟩
        case round =>
          obtain ⟨j, hij, hjl, rfl, hz⟩ := hrel
          by_cases hlt2 : j < l.length
          · have e1 := hx.cell (hrw j hlt2)
            rcases hj0 : (l.getD j 0 == 0) with _ | _
            · have hne : i ≠ j := by rintro rfl; rw [hkdE.out] at hj0; cases hj0
              have hall := all_no (i := i + 1) (by omega) hlt2 hj0
              have hop2 : Hid (opar l = ([], 5)) := by unfold Hid; rw [hU.out, hop1.out, hall]; rfl
              clear hall hne
              generalize l.getD j 0 = y at *
              have hj0' : (y != 0) = true := by simpa using hj0
              go_wp2_with fail
              go_ret2
              rw [hop2.out]
              exact ⟨_, rfl, FrO.nil _ _, hx⟩
            · have hj1 : l.getD j 0 = 0 := by simpa using hj0
              rw [hj1] at e1
              have hz' : Hid (∀ x, i ≤ x → x < j + 1 → l.getD x 0 = 0) := fun x h1 h2 => by
                rcases (by omega : x < j ∨ x = j) with h | rfl
                · exact hz.out x h1 h
                · exact hj1
              clear hj0 hj1
              go_wp2_with fail
              go_round
              case rel => exact ⟨j + 1, by omega, by omega, by go_num, hz'⟩
              case measure => simp [intOf]; omega
          · obtain rfl : j = l.length := by omega
            have hall := all_yes (i := i + 1) (fun x h1 h2 => hz.out x (by omega) h2)
            have hop2 : Hid (opar l = (acc, 0)) := by unfold Hid; rw [hU.out, hop1.out, hall]; rfl
            clear hall
            go_wp2_with fail
            go_ret2
            rw [hop2.out]
            exact ⟨_, rfl, hFO.out, hx⟩
      · have hop1 : Hid (opS l = (acc ++ (opS (l.drop (i + 1))).1, (opS (l.drop (i + 1))).2)) := by unfold Hid; rw [hop.out, hd.out, opS_one]
        clear hkd hkz
        go_wp2_with fail
        go_roundw
        case rel => exact ⟨i + 1, acc, by omega, by omega, by go_num, hFO.out, hx, hop1⟩
        case measure => simp [intOf]; omega
      · have hk0' : (kd == 0) = false := by simp [hk0]
        have hk1' : (kd == 1) = false := by simp [hk1]
        by_cases hlt1 : i + 1 < l.length
        · have hd2 := Lib.hid (drop_cons hlt1)
          have e1 := hx.cell (hrw (i + 1) hlt1)
          have hlt1' : ¬ (l.length : Int) ≤ (i : Int) + 1 := by omega
          have hnd := HB.out.at (i + 1)
          generalize l.getD (i + 1) 0 = nd at *
          by_cases hn2 : nd < 2
          · have hop1 : Hid (opar l = ([], 5)) := by unfold Hid; rw [hU.out, hop.out, hd.out, hd2.out, opS_form _ hk0 hk1 hn2]; rfl
            clear hk0 hk1 hkz
            go_wp2_with fail
            go_ret2
            rw [hop1.out]
            exact ⟨_, rfl, FrO.nil _ _, hx⟩
          · obtain ⟨m, rfl⟩ : ∃ m : Nat, nd = m + 2 := ⟨(nd - 2).toNat, by omega⟩
            have hlm : ((m : Int) + 2 - 2).toNat = m := by omega
            have hld : (l.drop (i + 1 + 1)).length = l.length - (i + 2) := by rw [List.length_drop]
            by_cases hfit : i + 2 + m ≤ l.length
            · have hop1 : Hid (opS l = (acc ++ [(kd, (l.drop (i + 2)).take m)] ++ (opS (l.drop (i + 2 + m))).1, (opS (l.drop (i + 2 + m))).2)) := by
                unfold Hid
                rw [hop.out, hd.out, hd2.out, opS_more _ hk0 hk1 hn2 (by rw [hlm]; omega), hlm, List.drop_drop]
                simp
              have hfit' : ¬ (l.length : Int) < (i : Int) + ((m : Int) + 2) := by omega
              clear hk0 hk1 hkz hlm hld
              have hcut := HV.out.cut (i + 2) m (i + 2 + m) rfl hfit
              have hcut : Rd .u8 w (.slice (if cap = i + 2 then some (⟨b, o, none⟩ : Addr) else some ⟨b, o + (i + 2), none⟩) (i + 2 + m - (i + 2)) (cap - (i + 2))) ((l.drop (i + 2)).take m) := hcut
              generalize hDd : (l.drop (i + 2)).take m = D at *
              have hDl : D.length = m := by rw [← hDd, List.length_take, List.length_drop]; omega
              have hnx := Lib.hid (show opS l = (acc ++ [(kd, D)] ++ (opS (l.drop (i + 2 + m))).1, (opS (l.drop (i + 2 + m))).2) by rw [hop1.out])
              have hin : Hid (i + 2 + m ≤ l.length) := hfit
              have hac : Hid (acc.length ≤ i) := hacc
              have hwb : IntKind.i64.wrap ((i : Int) + ((m : Int) + 2)) = ((i + 2 + m : Nat) : Int) := by rw [IntWalk.i64_in _ (by omega)]; omega
              have hwa : IntKind.i64.wrap ((i : Int) + 2) = ((i + 2 : Nat) : Int) := by rw [IntWalk.i64_in _ (by omega)]; omega
              go_upto_region 22 with (fail)
              clear hop1
              obtain ⟨lo, hlo⟩ : ∃ lo : Nat, Hid (lo = i + 2) := ⟨_, rfl⟩
              obtain ⟨up, hup⟩ : ∃ up : Nat, Hid (up = i + 2 + m) := ⟨_, rfl⟩
              rw [← hup.out] at hwb
              rw [← hlo.out] at hwa
              rw [← hup.out, ← hlo.out] at hcut
              have g1 : (0 : Int) ≤ up ∧ (up : Int) ≤ cap := by have := hup.out; omega
              have g2 : (0 : Int) ≤ lo ∧ (lo : Int) ≤ max (up : Int) 0 := by have := hup.out; have := hlo.out; omega
              have g3 : lo ≤ up := by have := hup.out; have := hlo.out; omega
              generalize hsa : (if cap = lo then some (⟨b, o, none⟩ : Addr) else some ⟨b, o + lo, none⟩) = sa at *
              have hacN : acc.length ≤ 100000 := by omega
              have hDN : D.length ≤ 140737488351240 := by omega
              have hhs := hx.size
              refine wp_region_tail 15 [(12, fun v w' => Own w' w.heap.size 5 .u8 v D), (13, AggO w.heap.size kd D), (14, NewO w.heap.size kd D)] ?_ (by kernel_rfl) (by kernel_rfl) (by kernel_rfl) ?_
              · exact lasts_cons (fun _ _ _ hx h => Own.kept h hx) (lasts_cons (fun _ _ _ hx h => AggO.ext h hx) (lasts_cons (fun _ _ _ hx h => NewO.ext h hx) lasts_nil))
              simp only [List.take, List.drop]
              iterate 4
                apply wpL_none rfl rfl
                · intro w' hw' hn'; go_simp; exact rfl
                intro K hK; go_simp; refine hK _ _ ?_; clear hK K
              iterate 1
                apply wpL_none rfl rfl
                · intro w' hw' hn'; have e0 := Ext.cell hw' e0; go_simp; exact rfl
                intro K hK; go_simp; refine hK _ _ ?_; clear hK K
              iterate 7
                apply wpL_none rfl rfl
                · intro w' hw' hn'; go_simp; exact rfl
                intro K hK; go_simp; refine hK _ _ ?_; clear hK K
              apply wpL_some rfl rfl
              · intro w' hw' hn'
                go_simp
                refine ⟨Ext.rfl' _, ?_⟩
                refine (rown_any _ D w' ((hcut.ext hx).ext hw') hDN).mono ?_
                rintro e w2 ⟨u, rfl, hu, hx2⟩
                exact ⟨_, rfl, hx2, hu.low (Nat.le_trans hhs hw'.size)⟩
              intro v12 w12 hw12 hD12 hv12
              obtain ⟨a12, n12, c12, rfl⟩ := hv12.rd.shape
              clear hw12 hD12 hv12 w12
              intro K hK; go_simp; refine hK _ _ ?_; clear hK K
              apply wpL_some rfl rfl
              · intro w' hw' hn'
                have q : Own w' w.heap.size 5 .u8 _ D := hn' ⟨12, .data⟩ (by simp) rfl
                go_simp
                exact ⟨Ext.rfl' _, _, rfl, .inl q⟩
              intro v13 w13 hw13 hD13 hv13
              obtain ⟨u13, rfl, hv13⟩ := hv13
              obtain ⟨a13, n13, c13, rfl⟩ := hv13.rd.shape
              clear hw13 hD13 hv13 w13
              intro K hK; go_simp; refine hK _ _ ?_; clear hK K
              apply wpL_some rfl rfl
              · intro w' hw' hn'
                obtain ⟨u, q1, q2⟩ : AggO w.heap.size kd D _ w' := hn' ⟨13, .data⟩ (by simp) rfl
                cases q1
                go_simp
                exact ⟨Ext.new _ _, _, _, rfl, heap_alloc_new _ _, q2.kept (Ext.new _ _)⟩
              intro v14 w14 hw14 hD14 hv14
              obtain ⟨g14, u14, rfl, -, -⟩ := hv14
              clear hw14 hD14 w14
              intro K hK; go_simp; refine hK _ _ ?_; clear hK K
              refine wpL_nil ?_
              intro w' hw' hD'
              have hv14 := hD' 14
              simp [Loose.upd] at hv14
              obtain ⟨g14', u14', he14, hg14, hu14⟩ := hv14
              cases he14
              apply wpVL_step rfl
              intro K hK
              refine vupon_appO (.tmp 59) (.tmp 73) (by rfl) w.heap.size _ acc (by rfl) (hFO.out.keep (Keep.ofExt hw')) g14 (by rfl) kd u14' D hu14 hg14 hacN (Nat.le_trans hhs hw'.size) (fun v' w'' q1 q2 q3 => ?_)
              have hx2 : Ext w w'' := ext_grown (hx.tr hw') q2 q3
              refine hK _ _ ?_
              clear hK K
              iterate 1
                apply wpVL_step rfl
                intro K hK
                go_simp
                refine hK _ _ ?_
                clear hK K
              refine wpVL_nil ?_
              obtain ⟨a15, c15, rfl⟩ := q1.rdo.shape
              clear hD' hg14 hu14 q2 q3 hcut hsa e0 e1 hw'
              go_wp2_with fail
              go_roundw
              case rel =>
                have h1 := hup.out
                have h2 := hac.out
                subst h1
                exact ⟨i + 2 + m, acc ++ [(kd, D)], hin.out, by rw [List.length_append]; simp only [List.length_cons, List.length_nil]; omega, by go_num, q1, hx2, hnx.out⟩
              case measure =>
                have h1 := hup.out
                have h2 := hin.out
                subst h1
                simp [intOf]; omega
            · have hop1 : Hid (opar l = ([], 4)) := by
                unfold Hid
                rw [hU.out, hop.out, hd.out, hd2.out, opS_short _ hk0 hk1 hn2 (by rw [hlm]; omega)]
                rfl
              have hfit' : (l.length : Int) < (i : Int) + ((m : Int) + 2) := by omega
              clear hk0 hk1 hkz hlm hld
              go_wp2_with fail
              go_ret2
              rw [hop1.out]
              exact ⟨_, rfl, FrO.nil _ _, hx⟩
        · have hop1 : Hid (opar l = ([], 4)) := by
            unfold Hid
            rw [hU.out, hop.out, hd.out, show l.drop (i + 1) = [] from List.drop_eq_nil_of_le (by omega), opS_lone hk0 hk1]
            rfl
          have hlt1' : (l.length : Int) ≤ (i : Int) + 1 := by omega
          clear hk0 hk1 hkz
          go_wp2_with fail
          go_ret2
          rw [hop1.out]
          exact ⟨_, rfl, FrO.nil _ _, hx⟩
    · obtain rfl : i = l.length := by omega
      have hop2 : Hid (opar l = (acc, 0)) := by unfold Hid; rw [hU.out, hop.out, List.drop_length, opS_nil]; simp
      go_wp2_with fail
      go_ret2
      rw [hop2.out]
      exact ⟨_, rfl, hFO.out, hx⟩
end Go.Proofs.Ytjaffcbadgpolaa
