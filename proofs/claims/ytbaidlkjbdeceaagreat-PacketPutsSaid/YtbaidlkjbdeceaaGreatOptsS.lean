/-
  Proved here: what opts.Same computes. Condition: kinds and data are bytes.
-/
import Derived.Test.YtbaidlkjbdeceaaGreatOpts
namespace Go.Proofs.YtbaidlkjbdeceaaGreat
set_option maxRecDepth 200000
open Go.ChangeShapes Go.WideShapes Go.ChangeAt Go.RowKit Go.Cul
set_option linter.unusedVariables false

theorem same1_any (k k' : Int) (u u' : Value) (l l' : List Int) (w : World) (hu : Rd .u8 w u l) (hu' : Rd .u8 w u' l') (hb : Byt l) (hb' : Byt l') :
    Calls Tryz.prog 89 #[.agg #[.int .u8 k, u], .agg #[.int .u8 k', u']] w fun e w' => e = .returned (.bool (decide (((k, l) : Op1) = (k', l')))) ∧ Ext w w' := by
  have hx : Ext w ((w.alloc (.cells #[.int .u8 k, u] 48)).alloc (.cells #[.int .u8 k', u'] 48)) := (Ext.new _ _).al _
  have h1 := hu.ext hx
  have h2 := hu'.ext hx
  obtain ⟨a, c, rfl, -, -, -⟩ := hu
  obtain ⟨a', c', rfl, -, -, -⟩ := hu'
  have HX := Lib.hid hx
  have HB := Lib.hid hb
  have HB' := Lib.hid hb'
  clear hx hb hb'
  rcases hk : (k == k') with _ | _
  · have hD : Hid (decide (((k, l) : Op1) = (k', l')) = false) := by
      unfold Hid
      rw [decide_eq_false_iff_not]
      intro he
      cases he
      simp at hk
    clear h1 h2
    go_enter Tryz.func89, Tryz.ntmps89
    go_wp2_with fail
    go_ret
    exact ⟨by rw [hD.out]; rfl, HX.out⟩
  · have hD : Hid (decide (((k, l) : Op1) = (k', l')) = decide (l = l')) := by
      unfold Hid
      have : k = k' := by simpa using hk
      subst this
      congr 1
      simp
    have H1 := Lib.hid h1
    have H2 := Lib.hid h2
    clear h1 h2
    go_enter Tryz.func89, Tryz.ntmps89
    go_wp2_with fail
    refine (beq_any _ _ l l' _ H1.out H2.out HB.out HB'.out).mono ?_
    rintro e w1 ⟨rfl, hx1⟩
    go_wp2_with fail
    go_ret
    exact ⟨by rw [hD.out]; rfl, HX.out.tr hx1⟩

theorem oeqf_any (v1 v2 : Value) (a b : List Op1) (w : World) (h1 : RdO w v1 a) (h2 : RdO w v2 b) (ha : BytO a) (hb : BytO b) :
    Calls Tryz.prog 88 #[v1, v2, .func (.func 89) #[] #[]] w fun e w' => e = .returned (.bool (decide (a = b))) ∧ Ext w w' := by
  obtain ⟨p1, c1, rfl, q1, q2, r1⟩ := h1
  obtain ⟨p2, c2, rfl, q3, q4, r2⟩ := h2
  have R1 := Lib.hid r1
  have R2 := Lib.hid r2
  have HA := Lib.hid ha
  have HB := Lib.hid hb
  clear r1 r2 ha hb
  unfold maxLen at q2 q4
  by_cases hl : a.length = b.length
  · go_enter Tryz.func88, Tryz.ntmps88
    have hl' : ((a.length : Int) != (b.length : Int)) = false := by simp [hl]
    have HL := Lib.hid hl
    clear hl
    go_wp2_with fail
    go_loopw [17] (fun i wr => ∃ k : Nat, k ≤ a.length ∧ i = .int .i64 k ∧ Hid (a.take k = b.take k) ∧ Ext w wr) (fun i _ => a.length - (intOf i).toNat)
    case atStart => exact ⟨0, Nat.zero_le _, rfl, rfl, Ext.rfl' w⟩
    case round =>
      obtain ⟨k, hk, rfl, hpre, hx⟩ := hrel
      by_cases hlt : k < a.length
      · rcases R1.out with h0 | ⟨b1, o1, rfl, hrw1⟩
        · rw [h0] at hlt; simp at hlt
        rcases R2.out with h0 | ⟨b2, o2, rfl, hrw2⟩
        · have := HL.out; rw [h0] at this; simp at this; rw [this] at hlt; simp at hlt
        have hlt2 : k < b.length := by have := HL.out; omega
        obtain ⟨u, e0, e1, hu⟩ := hrw1 k hlt
        obtain ⟨u', y0, y1, hu'⟩ := hrw2 k hlt2
        clear hrw1 hrw2
        have e0 := hx.cell e0
        have e1 := hx.cell e1
        have y0 := hx.cell y0
        have y1 := hx.cell y1
        have hu := hu.ext hx
        have hu' := hu'.ext hx
        have hbu := (HA.out.at k).2
        have hbu' := (HB.out.at k).2
        have ht1 := take_succ_getD' (0, []) a k hlt
        have ht2 := take_succ_getD' (0, []) b k hlt2
        have hkk : (k : Int) < (b.length : Int) := by omega
        have hne : a.getD k (0, []) ≠ b.getD k (0, []) → decide (a = b) = false := fun h => by
          rw [decide_eq_false_iff_not]; rintro rfl; exact h rfl
        generalize a.getD k (0, []) = x at *
        generalize b.getD k (0, []) = y at *
        obtain ⟨kx, lx⟩ := x
        obtain ⟨ky, ly⟩ := y
        dsimp only at e0 y0 hu hu' hbu hbu'
        have hc := fun w h1 h2 => same1_any kx ky u u' lx ly w h1 h2 hbu hbu'
        have hU := Lib.hid hu
        have hU' := Lib.hid hu'
        obtain ⟨au, nu, cu, rfl⟩ := hu.shape
        obtain ⟨au', nu', cu', rfl⟩ := hu'.shape
        clear hu hu' hbu hbu'
        have y0 := fun (o : Obj) => (Ext.new wr o).cell y0
        have y1 := fun (o : Obj) => (Ext.new wr o).cell y1
        rcases hd : decide (((kx, lx) : Op1) = (ky, ly)) with _ | _
        · rw [hd] at hc
          have hD := Lib.hid (hne (by simpa using hd))
          have HC := Lib.hid hc
          clear hc hd hne ht1 ht2
          go_wp2_with fail
          refine (HC.out _ (hU.out.ext ((Ext.new _ _).al _)) (hU'.out.ext ((Ext.new _ _).al _))).mono ?_
          rintro e w1 ⟨rfl, hx1⟩
          go_wp2_with fail
          go_ret
          exact ⟨by rw [hD.out]; rfl, hx.tr (((Ext.new _ _).al _).tr hx1)⟩
        · rw [hd] at hc
          have he : ((kx, lx) : Op1) = (ky, ly) := by simpa using hd
          have hT : Hid (a.take (k + 1) = b.take (k + 1)) := by unfold Hid; rw [ht1, ht2, hpre.out, he]
          have HC := Lib.hid hc
          clear hc hd he hne ht1 ht2
          go_wp2_with fail
          refine (HC.out _ (hU.out.ext ((Ext.new _ _).al _)) (hU'.out.ext ((Ext.new _ _).al _))).mono ?_
          rintro e w1 ⟨rfl, hx1⟩
          go_wp2_with fail
          go_roundw
          case rel => exact ⟨k + 1, by omega, by go_num, hT, hx.tr (((Ext.new _ _).al _).tr hx1)⟩
          case measure => simp [intOf]; omega
      · obtain rfl : k = a.length := by omega
        have hT : Hid (decide (a = b) = true) := by
          unfold Hid
          have h := hpre.out
          rw [List.take_length, HL.out, List.take_length] at h
          simpa using h
        go_wp2_with fail
        go_ret
        exact ⟨by rw [hT.out]; rfl, hx⟩
  · have hD : Hid (decide (a = b) = false) := by
      unfold Hid; rw [decide_eq_false_iff_not]; rintro rfl; exact hl rfl
    have hl' : ((a.length : Int) != (b.length : Int)) = true := by simp; omega
    go_enter Tryz.func88, Tryz.ntmps88
    clear hl
    go_wp2_with fail
    go_ret
    exact ⟨by rw [hD.out]; rfl, Ext.rfl' _⟩

theorem osame_any (v1 v2 : Value) (a b : List Op1) (w : World) (h1 : RdO w v1 a) (h2 : RdO w v2 b) (ha : BytO a) (hb : BytO b) :
    Calls Tryz.prog 57 #[v1, v2] w fun e w' => e = .returned (.bool (decide (a = b))) ∧ Ext w w' := by
  have hc := oeqf_any v1 v2 a b w h1 h2 ha hb
  obtain ⟨p1, c1, rfl⟩ := h1.shape
  obtain ⟨p2, c2, rfl⟩ := h2.shape
  have HC := Lib.hid hc
  clear hc ha hb
  go_enter Tryz.func57, Tryz.ntmps57
  go_wp2_with fail
  refine HC.out.mono ?_
  rintro e w1 ⟨rfl, hx1⟩
  go_wp2_with fail
  go_ret
  exact ⟨rfl, hx1⟩
end Go.Proofs.YtbaidlkjbdeceaaGreat
