/-
  Proved here: what culvertref05's Same, Parse and Put compute. Conditions: kinds and data are bytes; Put: at most 1000000000 options.
-/
import Derived.Test.YtbaidlkjbdeceaaGreatOptsR
import Derived.Test.YtbaidlkjbdeceaaGreatOptM
import Derived.Test.YtbaidlkjbdeceaaGreatOptsS
import Derived.Test.YtbaidlkjbdeceaaGreatRef3
import Derived.BigRegion
namespace Go.Proofs.YtbaidlkjbdeceaaGreat
set_option maxRecDepth 200000
open Go.ChangeShapes Go.WideShapes Go.ChangeAt Go.RowKit Go.Cul Go.Loose
set_option linter.unusedVariables false
attribute [local go_sem] Loose.Still Loose.Upon Loose.vUpon

theorem str_eq {l l' : List Int} (hb : Byt l) (hb' : Byt l') : ((strOfNums l).toList == (strOfNums l').toList) = decide (l = l') := by
  rw [ByteArray.toList_eq, ByteArray.toList_eq, Bool.eq_iff_iff, decide_eq_true_iff, beq_iff_eq]
  refine ⟨fun h => ?_, fun h => by rw [h]⟩
  rw [← nums_back l hb, ← nums_back l' hb', h]

theorem r5same_any (v1 v2 : Value) (a b : List Op1) (w : World) (h1 : RdO w v1 a) (h2 : RdO w v2 b) (ha : BytO a) (hb : BytO b) :
    Calls Tryz.prog 58 #[v1, v2] w fun e w' => e = .returned (.bool (decide (a = b))) ∧ Ext w w' := by
  obtain ⟨p1, c1, rfl, q1, q2, r1⟩ := h1
  obtain ⟨p2, c2, rfl, q3, q4, r2⟩ := h2
  have R1 := Lib.hid r1
  have R2 := Lib.hid r2
  have HA := Lib.hid ha
  have HB := Lib.hid hb
  clear r1 r2 ha hb
  unfold maxLen at q2 q4
  by_cases hl : a.length = b.length
  · go_enter Tryz.func58, Tryz.ntmps58
    have hl' : ((a.length : Int) != (b.length : Int)) = false := by simp [hl]
    have HL := Lib.hid hl
    clear hl
    go_wp2_with fail
    go_loopw [5] (fun i wr => ∃ k : Nat, k ≤ a.length ∧ i = .int .i64 k ∧ Hid (a.take k = b.take k) ∧ Ext w wr) (fun i _ => a.length - (intOf i).toNat)
    case atStart => exact ⟨0, Nat.zero_le _, rfl, rfl, Ext.rfl' _⟩
    case round =>
      obtain ⟨k, hk, rfl, hpre, hx⟩ := hrel
      by_cases hlt : k < a.length
      · rcases R1.out with h0 | ⟨b1, o1, rfl, hrw1⟩
        · rw [h0] at hlt; simp at hlt
        rcases R2.out with h0 | ⟨b2, o2, rfl, hrw2⟩
        · have := HL.out; rw [h0] at this; simp at this; rw [this] at hlt; simp at hlt
        have hlt2 : k < b.length := by have := HL.out; omega
        obtain ⟨u, e0, e1, hu⟩ := hrw1 k hlt
        obtain ⟨u', y0, y1, hu'⟩ := hrw2 k hlt2
        clear hrw1 hrw2
        have e0 := hx.cell e0
        have e1 := hx.cell e1
        have y0 := hx.cell y0
        have y1 := hx.cell y1
        have hu := hu.ext hx
        have hu' := hu'.ext hx
        have ht1 := take_succ_getD' (0, []) a k hlt
        have ht2 := take_succ_getD' (0, []) b k hlt2
        have hkk : (k : Int) < (b.length : Int) := by omega
        have hne : a.getD k (0, []) ≠ b.getD k (0, []) → decide (a = b) = false := fun h => by
          rw [decide_eq_false_iff_not]; rintro rfl; exact h rfl
        have hs := str_eq (HA.out.at k).2 (HB.out.at k).2
        generalize a.getD k (0, []) = x at *
        generalize b.getD k (0, []) = y at *
        obtain ⟨kx, lx⟩ := x
        obtain ⟨ky, ly⟩ := y
        dsimp only at e0 y0 hu hu' hs
        have hc1 := fun (W : World) (h : Ext wr W) => run_conv_rd (P := Tryz.prog) (src := 24) (e := 5) (dst := 9) (by kernel_rfl) (by kernel_rfl) (by kernel_rfl) (hu.ext h)
        have hc2 := fun (W : World) (h : Ext wr W) => run_conv_rd (P := Tryz.prog) (src := 24) (e := 5) (dst := 9) (by kernel_rfl) (by kernel_rfl) (by kernel_rfl) (hu'.ext h)
        obtain ⟨au, nu, cu, rfl⟩ := hu.shape
        obtain ⟨au', nu', cu', rfl⟩ := hu'.shape
        have HC1 := Lib.hid hc1
        have HC2 := Lib.hid hc2
        have hN := Lib.hid hne
        have hT1 := Lib.hid ht1
        have hT2 := Lib.hid ht2
        clear hu hu' hc1 hc2 hne ht1 ht2
        go_upto_region 6 with (fail)
        rcases hkd : (kx != ky) with _ | _
        · have hK0 := Lib.hid (show kx = ky by simpa using hkd)
          rcases hd : decide (lx = ly) with _ | _
          · rw [hd] at hs
            have hD := Lib.hid (hN.out (by simp at hd; simp [hd]))
            clear hd
            refine wp_region_grow [] lasts_nil (by kernel_rfl) (by kernel_rfl) ?_
            iterate 10
              apply wpL_none rfl rfl
              · intro w' hw' hn'; have e0 := Ext.cell hw' e0; have y0 := Ext.cell hw' y0; go_simp; exact rfl
              intro K hK; go_simp; refine hK _ _ ?_; clear hK K
            iterate 2
              apply wpL_none rfl rfl
              · intro w' hw' hn'; go_simp; exact rfl
              intro K hK; go_simp; refine hK _ _ ?_; clear hK K
            iterate 5
              apply wpL_none rfl rfl
              · intro w' hw' hn'; have e1 := Ext.cell hw' e1; go_simp; exact rfl
              intro K hK; go_simp; refine hK _ _ ?_; clear hK K
            apply wpL_none rfl rfl
            · intro w' hw' hn'; have q := HC1.out w' hw'; go_simp; exact rfl
            intro K hK; go_simp; refine hK _ _ ?_; clear hK K
            iterate 5
              apply wpL_none rfl rfl
              · intro w' hw' hn'; have y1 := Ext.cell hw' y1; go_simp; exact rfl
              intro K hK; go_simp; refine hK _ _ ?_; clear hK K
            apply wpL_none rfl rfl
            · intro w' hw' hn'; have q := HC2.out w' hw'; go_simp; exact rfl
            intro K hK; go_simp; refine hK _ _ ?_; clear hK K
            iterate 2
              apply wpL_none rfl rfl
              · intro w' hw' hn'; go_simp; exact rfl
              intro K hK; go_simp; refine hK _ _ ?_; clear hK K
            refine wpL_nil ?_
            intro w5 hw5 hD5
            clear hD5 e0 e1 y0 y1
            go_wp2_with fail
            go_ret
            exact ⟨by rw [hD.out]; rfl, hx.tr hw5⟩
          · rw [hd] at hs
            have he : lx = ly := by simpa using hd
            have hT : Hid (a.take (k + 1) = b.take (k + 1)) := by unfold Hid; rw [hT1.out, hT2.out, hpre.out, he, hK0.out]
            clear hd he
            refine wp_region_grow [] lasts_nil (by kernel_rfl) (by kernel_rfl) ?_
            iterate 10
              apply wpL_none rfl rfl
              · intro w' hw' hn'; have e0 := Ext.cell hw' e0; have y0 := Ext.cell hw' y0; go_simp; exact rfl
              intro K hK; go_simp; refine hK _ _ ?_; clear hK K
            iterate 2
              apply wpL_none rfl rfl
              · intro w' hw' hn'; go_simp; exact rfl
              intro K hK; go_simp; refine hK _ _ ?_; clear hK K
            iterate 5
              apply wpL_none rfl rfl
              · intro w' hw' hn'; have e1 := Ext.cell hw' e1; go_simp; exact rfl
              intro K hK; go_simp; refine hK _ _ ?_; clear hK K
            apply wpL_none rfl rfl
            · intro w' hw' hn'; have q := HC1.out w' hw'; go_simp; exact rfl
            intro K hK; go_simp; refine hK _ _ ?_; clear hK K
            iterate 5
              apply wpL_none rfl rfl
              · intro w' hw' hn'; have y1 := Ext.cell hw' y1; go_simp; exact rfl
              intro K hK; go_simp; refine hK _ _ ?_; clear hK K
            apply wpL_none rfl rfl
            · intro w' hw' hn'; have q := HC2.out w' hw'; go_simp; exact rfl
            intro K hK; go_simp; refine hK _ _ ?_; clear hK K
            iterate 2
              apply wpL_none rfl rfl
              · intro w' hw' hn'; go_simp; exact rfl
              intro K hK; go_simp; refine hK _ _ ?_; clear hK K
            refine wpL_nil ?_
            intro w5 hw5 hD5
            clear hD5 e0 e1 y0 y1
            go_wp2_with fail
            case roundEnd => exact ⟨⟨k + 1, by omega, by go_num, hT, hx.tr hw5⟩, by simp [intOf]; omega⟩
        · have hD := Lib.hid (hN.out (by simp at hkd; simp [hkd]))
          refine wp_region_grow [] lasts_nil (by kernel_rfl) (by kernel_rfl) ?_
          iterate 10
            apply wpL_none rfl rfl
            · intro w' hw' hn'; have e0 := Ext.cell hw' e0; have y0 := Ext.cell hw' y0; go_simp; exact rfl
            intro K hK; go_simp; refine hK _ _ ?_; clear hK K
          iterate 2
            apply wpL_none rfl rfl
            · intro w' hw' hn'; go_simp; exact rfl
            intro K hK; go_simp; refine hK _ _ ?_; clear hK K
          iterate 13
            with_reducible refine wpL_skip ?_ ?_
            · rfl
            intro K hK; go_simp; refine hK _ _ ?_; clear hK K
          iterate 1
            apply wpL_none rfl rfl
            · intro w' hw' hn'; go_simp; exact rfl
            intro K hK; go_simp; refine hK _ _ ?_; clear hK K
          refine wpL_nil ?_
          intro w5 hw5 hD5
          clear hD5 e0 e1 y0 y1
          go_wp2_with fail
          go_ret
          exact ⟨by rw [hD.out]; rfl, hx.tr hw5⟩
      · obtain rfl : k = a.length := by omega
        have hT : Hid (decide (a = b) = true) := by
          unfold Hid
          have h := hpre.out
          rw [List.take_length, HL.out, List.take_length] at h
          simpa using h
        go_wp2_with fail
        go_ret
        exact ⟨by rw [hT.out]; rfl, hx⟩
  · have hD : Hid (decide (a = b) = false) := by
      unfold Hid; rw [decide_eq_false_iff_not]; rintro rfl; exact hl rfl
    have hl' : ((a.length : Int) != (b.length : Int)) = true := by simp; omega
    go_enter Tryz.func58, Tryz.ntmps58
    clear hl
    go_wp2_with fail
    go_ret
    exact ⟨by rw [hD.out]; rfl, Ext.rfl' _⟩

/-- A value made of a kind and own data. -/
def AggO (base : Nat) (k : Int) (D : List Int) (v : Value) (w : World) : Prop := ∃ u, v = .agg #[.int .u8 k, u] ∧ Fr w base 5 .u8 u D
/-- One option in new memory. -/
def NewO (base : Nat) (k : Int) (D : List Int) (v : Value) (w : World) : Prop := ∃ g u, v = .slice (some ⟨g, 0, none⟩) 1 1 ∧ w.heap[g]? = some (.cells #[.int .u8 k, u] 48) ∧ Fr w base 5 .u8 u D
theorem AggO.ext {base : Nat} {k : Int} {D : List Int} {v : Value} {w w' : World} (h : AggO base k D v w) (hx : Ext w w') : AggO base k D v w' := by
  obtain ⟨u, h1, h2⟩ := h; exact ⟨u, h1, h2.kept hx⟩
theorem NewO.ext {base : Nat} {k : Int} {D : List Int} {v : Value} {w w' : World} (h : NewO base k D v w) (hx : Ext w w') : NewO base k D v w' := by
  obtain ⟨g, u, h1, h2, h3⟩ := h; exact ⟨g, u, h1, hx.block h2, h3.kept hx⟩

theorem vupon_appO {w : World} {o : Oper} {a : Act} {K : Act → World → Prop} (s x : Operand)
    (ho : o.op = .call { callee := .builtin .append, args := #[s, x], argTypes := #[27, 27] }) (base : Nat) (v : Value) (os : List Op1) (hs : a.eval s = v) (h : FrO w base v os) (bs : Nat) (hx : a.eval x = .slice (some ⟨bs, 0, none⟩) 1 1)
    (k : Int) (u : Value) (l : List Int) (hu : Fr w base 5 .u8 u l) (hbs : w.heap[bs]? = some (.cells #[.int .u8 k, u] 48)) (hn : os.length ≤ 100000) (hbase : base ≤ w.heap.size)
    (hc : ∀ v' w', FrO w' base v' (os ++ [(k, l)]) → w.grownBy w' v.ownBlock → (∀ j, v.ownBlock = some j → base ≤ j) → K (a.put o.dst v') w') : Loose.vUpon Tryz.prog o a K ((execOp a.eval o).run Tryz.prog w) := by
  obtain ⟨v', w', hrun, h2, h3, -, h5⟩ := run_appO w base o.type v os h bs k u l hu hbs hn hbase
  unfold execOp
  simp only [ho, resolve, invoke, builtin, Sem.run_bind, Sem.run_pure, Result.andThen_ok, List.map_toArray, List.map_cons, List.map_nil, hs, hx, hrun, Loose.vUpon]
  exact hc v' w' h2 h3 h5

theorem all_no {l : List Int} {i j : Nat} (hij : i ≤ j) (hj : j < l.length) (h : (l.getD j 0 == 0) = false) : (l.drop i).all (· == 0) = false := by
  rw [List.all_eq_false]
  refine ⟨l[j], ?_, by simpa [List.getD, hj] using h⟩
  rw [List.mem_iff_getElem]
  exact ⟨j - i, by rw [List.length_drop]; omega, by rw [List.getElem_drop]; congr 1; omega⟩
theorem all_yes {l : List Int} {i : Nat} (h : ∀ x, i ≤ x → x < l.length → l.getD x 0 = 0) : (l.drop i).all (· == 0) = true := by
  rw [List.all_eq_true]
  intro x hx
  obtain ⟨k, hk, rfl⟩ := List.mem_iff_getElem.1 hx
  rw [List.length_drop] at hk
  have := h (i + k) (by omega) (by omega)
  rw [List.getElem_drop]
  simpa [List.getD, show i + k < l.length by omega] using this

end Go.Proofs.YtbaidlkjbdeceaaGreat
