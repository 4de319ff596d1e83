/-
  Proved here: what splice's closure lets an end know of a segment that passed. Conditions: numbers within their kinds; a shift that may be.
-/
import Derived.Test.YtgbbpibcmpeneaaSpm
import Derived.Deep.Cut
namespace Go.Proofs.Ytgbbpibcmpeneaa
set_option maxRecDepth 200000
open Go.ChangeShapes Go.WideShapes Go.ChangeAt Go.RowKit Go.Cul Go.Loose
set_option linter.unusedVariables false
attribute [local go_sem] Loose.Still Loose.Upon Loose.vUpon First.pUpon

def knA (e : En) (g : Sg) : En := if sLess g.ack e.ac then e else { e with ac := g.ack, wi := g.win * 2 ^ e.ov.fr.toNat }
def knB (e : En) (bh : Int) : En := { e with se := if sLess e.se bh then bh else e.se }
def knC (e : En) (g : Sg) : En := if fl g.f 1 then { e with en := true, fi := (g.seq + g.data.length) % 4294967296 } else e
def knows (e : En) (g : Sg) (bh : Int) : En := knC (knB (knA e g) bh) g

theorem cellM {b : Nat} {w w' : World} {a : Addr} {v : Value} (h : Mvs (fun j => j = b) w w') (hc : w.cell? a = some v) (ha : a.block ≠ b) : w'.cell? a = some v := by
  have hb := h.block a.block (lt_of_cell hc) ha
  rw [← hc]
  simp only [World.cell?, hb]
theorem Sp.at_put (x : Sp) (k : Bool) (e : En) : (x.put k e).at k = e := by cases k <;> rfl
theorem Sp.put_put (x : Sp) (k : Bool) (e e' : En) : (x.put k e).put k e' = x.put k e' := by cases k <;> rfl
theorem Sp.put_at (x : Sp) (k : Bool) : x.put k (x.at k) = x := by cases k <;> rfl
theorem Sp.at_put_not (x : Sp) (k : Bool) (e : En) : (x.put k e).at (!k) = x.at (!k) := by cases k <;> rfl
theorem set_ac {w : World} {b : Nat} {x : Sp} (h : SpAt w b x) (k : Bool) (v : Int) : SpAt (w.setCell ⟨b, kO k + 2, none⟩ (.int .u32 v)) b (x.put k { x.at k with ac := v }) := by
  cases k
  · exact set_blk h 2 (.int .u32 v)
  · exact set_blk h 15 (.int .u32 v)
theorem set_wi {w : World} {b : Nat} {x : Sp} (h : SpAt w b x) (k : Bool) (v : Int) : SpAt (w.setCell ⟨b, kO k + 3, none⟩ (.int .u32 v)) b (x.put k { x.at k with wi := v }) := by
  cases k
  · exact set_blk h 3 (.int .u32 v)
  · exact set_blk h 16 (.int .u32 v)
theorem set_se {w : World} {b : Nat} {x : Sp} (h : SpAt w b x) (k : Bool) (v : Int) : SpAt (w.setCell ⟨b, kO k + 4, none⟩ (.int .u32 v)) b (x.put k { x.at k with se := v }) := by
  cases k
  · exact set_blk h 4 (.int .u32 v)
  · exact set_blk h 17 (.int .u32 v)
theorem set_en {w : World} {b : Nat} {x : Sp} (h : SpAt w b x) (k : Bool) (v : Bool) : SpAt (w.setCell ⟨b, kO k + 5, none⟩ (.bool v)) b (x.put k { x.at k with en := v }) := by
  cases k
  · exact set_blk h 5 (.bool v)
  · exact set_blk h 18 (.bool v)
theorem set_fi {w : World} {b : Nat} {x : Sp} (h : SpAt w b x) (k : Bool) (v : Int) : SpAt (w.setCell ⟨b, kO k + 6, none⟩ (.int .u32 v)) b (x.put k { x.at k with fi := v }) := by
  cases k
  · exact set_blk h 6 (.int .u32 v)
  · exact set_blk h 19 (.int .u32 v)

theorem knA_ok {e : En} {g : Sg} (h : e.ok) (hg : g.ok) : (knA e g).ok := by
  unfold knA
  split
  · exact h
  · refine ⟨h.lo, h.re, hg.ack, ?_, h.se, h.fi, h.ov, h.may⟩
    obtain ⟨t, f, -, -, hf, hf14⟩ := may_to h.may
    dsimp only
    rw [hf, Int.toNat_natCast]
    have h1 : (2 : Int) ^ f ≤ 16384 := by
      have : 2 ^ f ≤ 2 ^ 14 := Nat.pow_le_pow_right (by decide) (by omega)
      have h2 : ((2 ^ f : Nat) : Int) = (2 : Int) ^ f := by simp
      rw [← h2]; omega
    have h0 : (0 : Int) ≤ (2 : Int) ^ f := Int.pow_nonneg (by decide)
    have h2 : g.win * 2 ^ f ≤ 65535 * 16384 := Int.le_trans (Int.mul_le_mul_of_nonneg_left h1 hg.win.1) (Int.mul_le_mul_of_nonneg_right hg.win.2 (by decide))
    have h3 : 0 ≤ g.win * 2 ^ f := Int.mul_nonneg hg.win.1 h0
    omega
theorem knB_ok {e : En} {bh : Int} (h : e.ok) (hb : 0 ≤ bh ∧ bh ≤ 4294967295) : (knB e bh).ok := by
  refine ⟨h.lo, h.re, h.ac, h.wi, ?_, h.fi, h.ov, h.may⟩
  have := h.se
  unfold knB
  dsimp only
  split <;> omega
theorem knC_ok {e : En} {g : Sg} (h : e.ok) : (knC e g).ok := by
  unfold knC
  split
  · exact ⟨h.lo, h.re, h.ac, h.wi, h.se, by dsimp only; omega, h.ov, h.may⟩
  · exact h
theorem knows_ok {e : En} {g : Sg} {bh : Int} (h : e.ok) (hg : g.ok) (hb : 0 ≤ bh ∧ bh ≤ 4294967295) : (knows e g bh).ok := knC_ok (knB_ok (knA_ok h hg) hb)

set_option maxHeartbeats 4000000 in
set_option maxRecDepth 100000 in
theorem knows_any (b N h9 h13 : Nat) (x : Sp) (k : Bool) (g : Sg) (vo vd : Value) (bh : Int) (w : World) (hx : x.ok) (hg : g.ok) (hbh : 0 ≤ bh ∧ bh ≤ 4294967295) (h : SpAt w b x)
    (kN : w.heap[N]? = some (.cells (g.cells vo vd) 51)) (hvd : ∃ a c, vd = .slice a g.data.length c) (c9 : w.cell? ⟨h9, 0, none⟩ = some (.pointer (some ⟨b, kO k, none⟩))) (c13 : w.cell? ⟨h13, 0, none⟩ = some (.int .u32 bh)) (hN : N ≠ b) (hn9 : h9 ≠ b) (hn13 : h13 ≠ b) (hl : g.data.length ≤ 1000000) :
    Calls Try.prog 37 #[.pointer (some ⟨N, 0, none⟩), .pointer (some ⟨h9, 0, none⟩), .pointer (some ⟨h13, 0, none⟩)] w fun e w' => e = .returned (.tuple #[]) ∧ SpAt w' b (x.put k (knows (x.at k) g bh)) ∧ Mvs (fun j => j = b) w w' := by
  obtain ⟨a, cp, rfl⟩ := hvd
  have hag := and1 g.f hg.f
  have HE := Lib.hid (hx.at k)
  have HG := Lib.hid hg
  have HBH := Lib.hid hbh
  obtain ⟨t, f, -, -, hf, hf14⟩ := may_to (hx.at k).may
  have hwb : 0 ≤ g.win * 2 ^ f ∧ g.win * 2 ^ f ≤ 4294967295 := by
    have := knA_ok (e := { x.at k with ac := 0 }) (g := { g with ack := 1 }) ⟨(hx.at k).lo, (hx.at k).re, (show (0 : Int) ≤ 0 ∧ (0 : Int) ≤ 4294967295 by decide), (hx.at k).wi, (hx.at k).se, (hx.at k).fi, (hx.at k).ov, (hx.at k).may⟩ ⟨hg.sp, hg.dp, hg.seq, (show (0 : Int) ≤ 1 ∧ (1 : Int) ≤ 4294967295 by decide), hg.f, hg.win, hg.urg, hg.os, hg.data⟩
    have h0 : sLess 1 0 = false := by decide
    simp only [knA, h0, Bool.false_eq_true, if_false] at this
    have := this.wi
    simpa [hf] using this
  have hwm : IntKind.u32.wrap (g.win * 2 ^ f) = g.win * 2 ^ f := by rw [IntKind.wrap_u32]; omega
  have hmf : ¬ (f : Int) < 0 := by omega
  have hwg : IntKind.u32.wrap g.win = g.win := by have := hg.win; rw [IntKind.wrap_u32]; omega
  have hmin : min f 32 = f := by omega
  clear hx hg hbh hwb hf14
  have hlN := lt_of_block kN
  have hl9 := lt_of_cell c9
  have hl13 := lt_of_cell c13
  have cN2 := cell_blk kN 2
  have cN3 := cell_blk kN 3
  have cN4 := cell_blk kN 4
  have cN5 := cell_blk kN 5
  have cN8 := cell_blk kN 8
  simp at cN2 cN3 cN4 cN5 cN8
  have hlen : IntKind.i64.wrap (g.data.length : Int) = g.data.length := by rw [IntKind.wrap_i64]; omega
  clear kN hl
  have hK : Hid (knows (x.at k) g bh = knC (knB (knA (x.at k) g) bh) g) := rfl
  generalize knows (x.at k) g bh = KN at *
  have hr2 := end_range h k 2 (.int .u32 (x.at k).ac) rfl
  have hr10 := end_range h k 10 (.int .i64 (x.at k).ov.fr) rfl
  rw [hf] at hr10
  have HF := Lib.hid hf
  have HB := Lib.hid h
  have hls := Lib.hid (fun (W : World) => (less_any g.ack (x.at k).ac W HG.out.ack HE.out.ac).mono (R' := fun e w' => e = .returned (.bool (sLess g.ack (x.at k).ac)) ∧ Ext W w') fun e w' h => ⟨h.1, h.2 ▸ Ext.rfl' _⟩)
  have hA : Hid (knA (x.at k) g = if sLess g.ack (x.at k).ac then x.at k else { x.at k with ac := g.ack, wi := g.win * 2 ^ f }) := by unfold Hid knA; rw [hf, Int.toNat_natCast]
  have hse : (knA (x.at k) g).se = (x.at k).se := by unfold knA; split <;> rfl
  have hlt := Lib.hid (fun (W : World) => (later_any (x.at k).se bh W HE.out.se HBH.out).mono (R' := fun e w' => e = .returned (.int .u32 (knB (knA (x.at k) g) bh).se) ∧ Ext W w') fun e w' h => ⟨by rw [h.1]; show _ = Ending.returned (.int .u32 (if sLess (knA (x.at k) g).se bh then bh else (knA (x.at k) g).se)); rw [hse], h.2 ▸ Ext.rfl' _⟩)
  have hsa := Lib.hid (fun (W : World) => (sadd_any g.seq g.data.length W).mono (R' := fun e w' => e = .returned (.int .u32 ((g.seq + g.data.length) % 4294967296)) ∧ Ext W w') fun e w' h => ⟨h.1, h.2 ▸ Ext.rfl' _⟩)
  have hB2 : Hid (knB (knA (x.at k) g) bh = { knA (x.at k) g with se := (knB (knA (x.at k) g) bh).se }) := rfl
  have hC : Hid (KN = if fl g.f 1 then { knB (knA (x.at k) g) bh with en := true, fi := (g.seq + g.data.length) % 4294967296 } else knB (knA (x.at k) g) bh) := hK.out
  clear h hf hK
  generalize hac : (x.at k).ac = ac at *
  have HAC := Lib.hid hac
  clear hac
  generalize sLess g.ack ac = L at *
  generalize (g.seq + g.data.length) % 4294967296 = FI at *
  generalize hF1 : fl g.f 1 = F1 at *
  clear hF1
  generalize hEA : knA (x.at k) g = EA at *
  generalize hEB : knB EA bh = EB at *
  clear hEA hEB
  generalize hSE : EB.se = SE at *
  have HSE := Lib.hid hse
  clear hSE hse
  cases k
  · dsimp only [kO] at *
    simp only [↓reduceIte, Bool.false_eq_true, Nat.zero_add] at c9 hr2 hr10
    go_enter Try.func37, Try.ntmps37
    go_upto_region 0 with (fail)
    refine wp_region_grow [(6, Loose.is (.bool L))] (lasts_is lasts_nil) (by kernel_rfl) (by kernel_rfl) ?_
    iterate 1
      apply wpL_none rfl rfl
      · intro w' hw' hn'; go_simp; exact rfl
      intro K hK; go_simp; refine hK _ _ ?_; clear hK K
    iterate 1
      apply wpL_none rfl rfl
      · intro w' hw' hn'; have cN3 := Ext.cell hw' cN3; go_simp; exact rfl
      intro K hK; go_simp; refine hK _ _ ?_; clear hK K
    iterate 1
      apply wpL_none rfl rfl
      · intro w' hw' hn'; have c9 := Ext.cell hw' c9; go_simp; exact rfl
      intro K hK; go_simp; refine hK _ _ ?_; clear hK K
    iterate 2
      apply wpL_none rfl rfl
      · intro w' hw' hn'; go_simp; exact rfl
      intro K hK; go_simp; refine hK _ _ ?_; clear hK K
    iterate 1
      apply wpL_none rfl rfl
      · intro w' hw' hn'; have hr2 := Ext.cell hw' hr2; go_simp; exact rfl
      intro K hK; go_simp; refine hK _ _ ?_; clear hK K
    apply wpL_some rfl rfl
    · intro w' hw' hn'
      go_simp
      refine ⟨Ext.rfl' _, ?_⟩
      refine (hls.out _).mono ?_
      rintro e w2 ⟨rfl, hx⟩
      exact ⟨_, rfl, hx, rfl⟩
    intro v w' hw' hD' hv
    obtain rfl : v = _ := hv
    clear hw' hD' w'
    intro K hK; go_simp; refine hK _ _ ?_; clear hK K
    iterate 1
      apply wpL_none rfl rfl
      · intro w' hw' hn'; go_simp; exact rfl
      intro K hK; go_simp; refine hK _ _ ?_; clear hK K
    refine wpL_nil ?_
    intro w1 hx1 _
    have hx1 : Ext w w1 := hx1
    go_upto_if 10 with (fail)
    go_cut [] from 3 (fun wc => SpAt wc b (x.put false EA) ∧ Mvs (fun j => j = b) w wc)
    case first =>
      cases L
      · have hAA := hA.out
        simp only [Bool.false_eq_true, if_false] at hAA
        have hb1 := hx1.block HB.out
        have HB1 := Lib.hid hb1
        have c9 := hx1.cell c9
        have cN3 := hx1.cell cN3
        have cN5 := hx1.cell cN5
        have hr10 := hx1.cell hr10
        have HAA := Lib.hid hAA
        clear hAA hb1 hr2
        go_upto_region 1 with (fail)
        refine Order.wp_region_order [0, 1, 2, 3, 4, 5, 6, 7, 8, 9, 10, 11, 12] [13, 14, 15, 16, 17, 18] 18 (fun w' => Mvs (fun j => j = b) w1 w' ∧ w'.cell? ⟨b, 10, none⟩ = some (.int .i64 f)) (fun _ _ => False) (fun _ _ _ _ h => h.elim) (fun _ h => ⟨Mvs.ofExt h, Ext.cell h hr10⟩) (by kernel_rfl) (by kernel_rfl) (by kernel_rfl) rfl (by kernel_rfl) ?_
        intro wd hwd
        have hwd : Ext w1 wd := hwd
        iterate 13
          apply Order.wpH_some rfl rfl
          · intro w' hw'; have c9 := cellM hw'.1 c9 hn9; have cN3 := cellM hw'.1 cN3 hN; have cN5 := cellM hw'.1 cN5 hN; have hr10 := hw'.2; go_simp; exact rfl
          intro K hK; go_simp; refine hK _ ?_; clear hK K
        refine Order.wpH_nil ?_
        have hbd := hwd.block HB1.out
        have hJ1 : Mvs (fun j => j = b) w1 wd ∧ wd.cell? ⟨b, 10, none⟩ = some (.int .i64 f) := ⟨Mvs.ofExt hwd, hwd.cell hr10⟩
        have HJ1 := Lib.hid hJ1
        clear hJ1
        iterate 2
          apply Order.wpI_step rfl rfl
          intro K hK
          go_simp
          refine hK _ _ (fun _ => HJ1.out) ?_
          clear hK K
        refine Order.wpI_set_cell 22 rfl b 2 _ _ (.int .u32 g.ack) rfl rfl hbd (by kernel_rfl) (by show 2 < 28; decide) rfl rfl ?_
        have q1 : SpAt (wd.setCell ⟨b, 2, none⟩ (.int .u32 g.ack)) b (x.put false { x.at false with ac := g.ack }) := set_ac hbd false g.ack
        have m1 : Mvs (fun j => j = b) w1 (wd.setCell ⟨b, 2, none⟩ (.int .u32 g.ack)) := HJ1.out.1.tr (Mvs.set _ _ _ rfl)
        have r1 : (wd.setCell ⟨b, 2, none⟩ (.int .u32 g.ack)).cell? ⟨b, 10, none⟩ = some (.int .i64 f) := by rw [World.cell?_setCell_other _ _ _ _ (by simp)]; exact HJ1.out.2
        generalize wd.setCell ⟨b, 2, none⟩ (.int .u32 g.ack) = V1 at *
        intro K hK
        refine hK _ _ (fun _ => ⟨m1, r1⟩) ?_
        clear hK K
        have HJ2 := Lib.hid (And.intro m1 r1)
        iterate 2
          apply Order.wpI_step rfl rfl
          intro K hK
          go_simp
          refine hK _ _ (fun _ => HJ2.out) ?_
          clear hK K
        refine Order.wpI_set_cell 22 rfl b 3 _ _ (.int .u32 (g.win * 2 ^ f)) rfl rfl q1 (by kernel_rfl) (by show 3 < 28; decide) rfl rfl ?_
        have q2 : SpAt (V1.setCell ⟨b, 3, none⟩ (.int .u32 (g.win * 2 ^ f))) b ((x.put false { x.at false with ac := g.ack }).put false { (x.put false { x.at false with ac := g.ack }).at false with wi := g.win * 2 ^ f }) := set_wi q1 false (g.win * 2 ^ f)
        have m2 : Mvs (fun j => j = b) w1 (V1.setCell ⟨b, 3, none⟩ (.int .u32 (g.win * 2 ^ f))) := m1.tr (Mvs.set _ _ _ rfl)
        generalize V1.setCell ⟨b, 3, none⟩ (.int .u32 (g.win * 2 ^ f)) = V2 at *
        intro K hK
        refine hK _ _ (fun h => absurd rfl h) ?_
        clear hK K
        refine Order.wpI_nil ?_
        rw [Sp.put_put, Sp.at_put] at q2
        have HQ := Lib.hid q2
        clear q1 q2 r1 hbd HJ1 HJ2 m1
        go_wp2_with fail
        go_meet
        case rel => exact ⟨by rw [HAA.out]; exact HQ.out, (Mvs.ofExt hx1).tr m2⟩
      · have hAA := hA.out
        simp only [if_true] at hAA
        have HAA := Lib.hid hAA
        have hb1 := Lib.hid (hx1.block HB.out)
        clear hAA
        go_wp2_with fail
        go_meet
        case rel => exact ⟨by rw [HAA.out, Sp.put_at]; exact hb1.out, Mvs.ofExt hx1⟩
    obtain ⟨hb2, m2⟩ := hcut
    obtain ⟨w2, rfl⟩ : ∃ w2 : World, w2 = wc := ⟨_, rfl⟩
    have c9 := cellM m2 c9 hn9
    have c13 := cellM m2 c13 hn13
    have cN2 := cellM m2 cN2 hN
    have cN4 := cellM m2 cN4 hN
    have cN8 := cellM m2 cN8 hN
    have hr4 : w2.cell? ⟨b, 4, none⟩ = some (.int .u32 (x.at false).se) := by rw [← HSE.out]; exact end_range hb2 false 4 (.int .u32 EA.se) rfl
    clear cN3 cN5 hr2 hr10 hls hA HB hx1
    go_upto_region 2 with (fail)
    refine Order.wp_region_order [0, 1, 2, 3, 4, 5] [6, 7, 8, 9] 9 (fun w' => Ext w2 w') (fun _ _ => False) (fun _ _ _ _ h => h.elim) (fun _ h => h) (by kernel_rfl) (by kernel_rfl) (by kernel_rfl) rfl (by kernel_rfl) ?_
    intro wd hwd
    have hwd : Ext w2 wd := hwd
    iterate 6
      apply Order.wpH_some rfl rfl
      · intro w' hw'; have c9 := Ext.cell hw' c9; have hr4 := Ext.cell hw' hr4; have c13 := Ext.cell hw' c13; go_simp; exact rfl
      intro K hK; go_simp; refine hK _ ?_; clear hK K
    refine Order.wpH_nil ?_
    apply Order.wpI_step rfl rfl
    intro K hK
    go_simp
    refine (hlt.out _).mono ?_
    rintro e w3 ⟨rfl, hx3⟩
    have hx3 := hwd.tr hx3
    first | refine ⟨_, rfl, hK _ _ (fun _ => hx3) ?_⟩ | refine .inl ⟨_, rfl, hK _ _ (fun _ => hx3) ?_⟩
    clear hK K
    iterate 2
      apply Order.wpI_step rfl rfl
      intro K hK
      go_simp
      refine hK _ _ (fun _ => hx3) ?_
      clear hK K
    have hb3 := hx3.block hb2
    refine Order.wpI_set_cell 22 rfl b 4 _ _ (.int .u32 SE) rfl rfl hb3 (by kernel_rfl) (by show 4 < 28; decide) rfl rfl ?_
    have q1 : SpAt (w3.setCell ⟨b, 4, none⟩ (.int .u32 SE)) b ((x.put false EA).put false { (x.put false EA).at false with se := SE }) := set_se hb3 false SE
    rw [Sp.put_put, Sp.at_put, ← hB2.out] at q1
    have m3 : Mvs (fun j => j = b) w (w3.setCell ⟨b, 4, none⟩ (.int .u32 SE)) := (m2.tr (Mvs.ofExt hx3)).tr (Mvs.set _ _ _ rfl)
    have m3' : Mvs (fun j => j = b) w2 (w3.setCell ⟨b, 4, none⟩ (.int .u32 SE)) := (Mvs.ofExt hx3).tr (Mvs.set _ _ _ rfl)
    have c9 := cellM m3' c9 hn9
    have cN2 := cellM m3' cN2 hN
    have cN4 := cellM m3' cN4 hN
    have cN8 := cellM m3' cN8 hN
    generalize w3.setCell ⟨b, 4, none⟩ (.int .u32 SE) = w4 at *
    intro K hK
    refine hK _ _ (fun h => absurd rfl h) ?_
    clear hK K
    refine Order.wpI_nil ?_
    clear hb2 m2 hx3 hb3 m3' hr4 hwd hlt c13 hB2
    have HQ := Lib.hid q1
    clear q1
    cases F1
    · simp only [Bool.false_eq_true, if_false] at hag
      have hCC := Lib.hid (hC.out.trans (if_neg (by decide)))
      clear hC
      go_wp2_with fail
      refine bodyPost_end (results_none rfl _ _ _) rfl ?_
      exact ⟨rfl, by rw [hCC.out]; exact HQ.out, m3⟩
    · simp only [if_true] at hag
      have hCC := Lib.hid (hC.out.trans (if_pos rfl))
      clear hC
      go_upto_region 4 with (fail)
      refine Order.wp_region_order [0, 1, 2, 3, 4, 5, 6] [7, 8, 9, 10, 11, 12, 13] 13 (fun w' => Mvs (fun j => j = b) w4 w') (fun _ _ => False) (fun _ _ _ _ h => h.elim) (fun _ h => Mvs.ofExt h) (by kernel_rfl) (by kernel_rfl) (by kernel_rfl) rfl (by kernel_rfl) ?_
      intro wd hwd
      have hwd : Ext w4 wd := hwd
      iterate 7
        apply Order.wpH_some rfl rfl
        · intro w' hw'; have c9 := cellM hw' c9 hn9; have cN2 := cellM hw' cN2 hN; have cN8 := cellM hw' cN8 hN; go_simp; exact rfl
        intro K hK; go_simp; refine hK _ ?_; clear hK K
      refine Order.wpH_nil ?_
      apply Order.wpI_step rfl rfl
      intro K hK
      go_simp
      refine (hsa.out _).mono ?_
      rintro e w5 ⟨rfl, hx5⟩
      have hx5 := hwd.tr hx5
      first | refine ⟨_, rfl, hK _ _ (fun _ => Mvs.ofExt hx5) ?_⟩ | refine .inl ⟨_, rfl, hK _ _ (fun _ => Mvs.ofExt hx5) ?_⟩
      clear hK K
      iterate 2
        apply Order.wpI_step rfl rfl
        intro K hK
        go_simp
        refine hK _ _ (fun _ => Mvs.ofExt hx5) ?_
        clear hK K
      have hb5 := hx5.block HQ.out
      refine Order.wpI_set_cell 4 rfl b 5 _ _ (.bool true) rfl rfl hb5 (by kernel_rfl) (by show 5 < 28; decide) rfl rfl ?_
      have q1 : SpAt (w5.setCell ⟨b, 5, none⟩ (.bool true)) b ((x.put false EB).put false { (x.put false EB).at false with en := true }) := set_en hb5 false true
      rw [Sp.put_put, Sp.at_put] at q1
      have m5 : Mvs (fun j => j = b) w4 (w5.setCell ⟨b, 5, none⟩ (.bool true)) := (Mvs.ofExt hx5).tr (Mvs.set _ _ _ rfl)
      generalize w5.setCell ⟨b, 5, none⟩ (.bool true) = w6 at *
      intro K hK
      refine hK _ _ (fun _ => m5) ?_
      clear hK K
      have HM := Lib.hid m5
      iterate 2
        apply Order.wpI_step rfl rfl
        intro K hK
        go_simp
        refine hK _ _ (fun _ => HM.out) ?_
        clear hK K
      refine Order.wpI_set_cell 22 rfl b 6 _ _ (.int .u32 FI) rfl rfl q1 (by kernel_rfl) (by show 6 < 28; decide) rfl rfl ?_
      have q2 : SpAt (w6.setCell ⟨b, 6, none⟩ (.int .u32 FI)) b ((x.put false { EB with en := true }).put false { (x.put false { EB with en := true }).at false with fi := FI }) := set_fi q1 false FI
      rw [Sp.put_put, Sp.at_put] at q2
      have m6 : Mvs (fun j => j = b) w (w6.setCell ⟨b, 6, none⟩ (.int .u32 FI)) := (m3.tr m5).tr (Mvs.set _ _ _ rfl)
      generalize w6.setCell ⟨b, 6, none⟩ (.int .u32 FI) = w7 at *
      intro K hK
      refine hK _ _ (fun h => absurd rfl h) ?_
      clear hK K
      refine Order.wpI_nil ?_
      have HQ2 := Lib.hid q2
      clear q1 q2 m5 hb5 hx5 hwd HM
      go_wp2_with fail
      refine bodyPost_end (results_none rfl _ _ _) rfl ?_
      exact ⟨rfl, by rw [hCC.out]; exact HQ2.out, m6⟩
  · dsimp only [kO] at *
    simp only [↓reduceIte, Nat.reduceAdd] at c9 hr2 hr10
    go_enter Try.func37, Try.ntmps37
    go_upto_region 0 with (fail)
    refine wp_region_grow [(6, Loose.is (.bool L))] (lasts_is lasts_nil) (by kernel_rfl) (by kernel_rfl) ?_
    iterate 1
      apply wpL_none rfl rfl
      · intro w' hw' hn'; go_simp; exact rfl
      intro K hK; go_simp; refine hK _ _ ?_; clear hK K
    iterate 1
      apply wpL_none rfl rfl
      · intro w' hw' hn'; have cN3 := Ext.cell hw' cN3; go_simp; exact rfl
      intro K hK; go_simp; refine hK _ _ ?_; clear hK K
    iterate 1
      apply wpL_none rfl rfl
      · intro w' hw' hn'; have c9 := Ext.cell hw' c9; go_simp; exact rfl
      intro K hK; go_simp; refine hK _ _ ?_; clear hK K
    iterate 2
      apply wpL_none rfl rfl
      · intro w' hw' hn'; go_simp; exact rfl
      intro K hK; go_simp; refine hK _ _ ?_; clear hK K
    iterate 1
      apply wpL_none rfl rfl
      · intro w' hw' hn'; have hr2 := Ext.cell hw' hr2; go_simp; exact rfl
      intro K hK; go_simp; refine hK _ _ ?_; clear hK K
    apply wpL_some rfl rfl
    · intro w' hw' hn'
      go_simp
      refine ⟨Ext.rfl' _, ?_⟩
      refine (hls.out _).mono ?_
      rintro e w2 ⟨rfl, hx⟩
      exact ⟨_, rfl, hx, rfl⟩
    intro v w' hw' hD' hv
    obtain rfl : v = _ := hv
    clear hw' hD' w'
    intro K hK; go_simp; refine hK _ _ ?_; clear hK K
    iterate 1
      apply wpL_none rfl rfl
      · intro w' hw' hn'; go_simp; exact rfl
      intro K hK; go_simp; refine hK _ _ ?_; clear hK K
    refine wpL_nil ?_
    intro w1 hx1 _
    have hx1 : Ext w w1 := hx1
    go_upto_if 10 with (fail)
    go_cut [] from 3 (fun wc => SpAt wc b (x.put true EA) ∧ Mvs (fun j => j = b) w wc)
    case first =>
      cases L
      · have hAA := hA.out
        simp only [Bool.false_eq_true, if_false] at hAA
        have hb1 := hx1.block HB.out
        have HB1 := Lib.hid hb1
        have c9 := hx1.cell c9
        have cN3 := hx1.cell cN3
        have cN5 := hx1.cell cN5
        have hr10 := hx1.cell hr10
        have HAA := Lib.hid hAA
        clear hAA hb1 hr2
        go_upto_region 1 with (fail)
        refine Order.wp_region_order [0, 1, 2, 3, 4, 5, 6, 7, 8, 9, 10, 11, 12] [13, 14, 15, 16, 17, 18] 18 (fun w' => Mvs (fun j => j = b) w1 w' ∧ w'.cell? ⟨b, 23, none⟩ = some (.int .i64 f)) (fun _ _ => False) (fun _ _ _ _ h => h.elim) (fun _ h => ⟨Mvs.ofExt h, Ext.cell h hr10⟩) (by kernel_rfl) (by kernel_rfl) (by kernel_rfl) rfl (by kernel_rfl) ?_
        intro wd hwd
        have hwd : Ext w1 wd := hwd
        iterate 13
          apply Order.wpH_some rfl rfl
          · intro w' hw'; have c9 := cellM hw'.1 c9 hn9; have cN3 := cellM hw'.1 cN3 hN; have cN5 := cellM hw'.1 cN5 hN; have hr10 := hw'.2; go_simp; exact rfl
          intro K hK; go_simp; refine hK _ ?_; clear hK K
        refine Order.wpH_nil ?_
        have hbd := hwd.block HB1.out
        have hJ1 : Mvs (fun j => j = b) w1 wd ∧ wd.cell? ⟨b, 23, none⟩ = some (.int .i64 f) := ⟨Mvs.ofExt hwd, hwd.cell hr10⟩
        have HJ1 := Lib.hid hJ1
        clear hJ1
        iterate 2
          apply Order.wpI_step rfl rfl
          intro K hK
          go_simp
          refine hK _ _ (fun _ => HJ1.out) ?_
          clear hK K
        refine Order.wpI_set_cell 22 rfl b 15 _ _ (.int .u32 g.ack) rfl rfl hbd (by kernel_rfl) (by show 15 < 28; decide) rfl rfl ?_
        have q1 : SpAt (wd.setCell ⟨b, 15, none⟩ (.int .u32 g.ack)) b (x.put true { x.at true with ac := g.ack }) := set_ac hbd true g.ack
        have m1 : Mvs (fun j => j = b) w1 (wd.setCell ⟨b, 15, none⟩ (.int .u32 g.ack)) := HJ1.out.1.tr (Mvs.set _ _ _ rfl)
        have r1 : (wd.setCell ⟨b, 15, none⟩ (.int .u32 g.ack)).cell? ⟨b, 23, none⟩ = some (.int .i64 f) := by rw [World.cell?_setCell_other _ _ _ _ (by simp)]; exact HJ1.out.2
        generalize wd.setCell ⟨b, 15, none⟩ (.int .u32 g.ack) = V1 at *
        intro K hK
        refine hK _ _ (fun _ => ⟨m1, r1⟩) ?_
        clear hK K
        have HJ2 := Lib.hid (And.intro m1 r1)
        iterate 2
          apply Order.wpI_step rfl rfl
          intro K hK
          go_simp
          refine hK _ _ (fun _ => HJ2.out) ?_
          clear hK K
        refine Order.wpI_set_cell 22 rfl b 16 _ _ (.int .u32 (g.win * 2 ^ f)) rfl rfl q1 (by kernel_rfl) (by show 16 < 28; decide) rfl rfl ?_
        have q2 : SpAt (V1.setCell ⟨b, 16, none⟩ (.int .u32 (g.win * 2 ^ f))) b ((x.put true { x.at true with ac := g.ack }).put true { (x.put true { x.at true with ac := g.ack }).at true with wi := g.win * 2 ^ f }) := set_wi q1 true (g.win * 2 ^ f)
        have m2 : Mvs (fun j => j = b) w1 (V1.setCell ⟨b, 16, none⟩ (.int .u32 (g.win * 2 ^ f))) := m1.tr (Mvs.set _ _ _ rfl)
        generalize V1.setCell ⟨b, 16, none⟩ (.int .u32 (g.win * 2 ^ f)) = V2 at *
        intro K hK
        refine hK _ _ (fun h => absurd rfl h) ?_
        clear hK K
        refine Order.wpI_nil ?_
        rw [Sp.put_put, Sp.at_put] at q2
        have HQ := Lib.hid q2
        clear q1 q2 r1 hbd HJ1 HJ2 m1
        go_wp2_with fail
        go_meet
        case rel => exact ⟨by rw [HAA.out]; exact HQ.out, (Mvs.ofExt hx1).tr m2⟩
      · have hAA := hA.out
        simp only [if_true] at hAA
        have HAA := Lib.hid hAA
        have hb1 := Lib.hid (hx1.block HB.out)
        clear hAA
        go_wp2_with fail
        go_meet
        case rel => exact ⟨by rw [HAA.out, Sp.put_at]; exact hb1.out, Mvs.ofExt hx1⟩
    obtain ⟨hb2, m2⟩ := hcut
    obtain ⟨w2, rfl⟩ : ∃ w2 : World, w2 = wc := ⟨_, rfl⟩
    have c9 := cellM m2 c9 hn9
    have c13 := cellM m2 c13 hn13
    have cN2 := cellM m2 cN2 hN
    have cN4 := cellM m2 cN4 hN
    have cN8 := cellM m2 cN8 hN
    have hr4 : w2.cell? ⟨b, 17, none⟩ = some (.int .u32 (x.at true).se) := by rw [← HSE.out]; exact end_range hb2 true 4 (.int .u32 EA.se) rfl
    clear cN3 cN5 hr2 hr10 hls hA HB hx1
    go_upto_region 2 with (fail)
    refine Order.wp_region_order [0, 1, 2, 3, 4, 5] [6, 7, 8, 9] 9 (fun w' => Ext w2 w') (fun _ _ => False) (fun _ _ _ _ h => h.elim) (fun _ h => h) (by kernel_rfl) (by kernel_rfl) (by kernel_rfl) rfl (by kernel_rfl) ?_
    intro wd hwd
    have hwd : Ext w2 wd := hwd
    iterate 6
      apply Order.wpH_some rfl rfl
      · intro w' hw'; have c9 := Ext.cell hw' c9; have hr4 := Ext.cell hw' hr4; have c13 := Ext.cell hw' c13; go_simp; exact rfl
      intro K hK; go_simp; refine hK _ ?_; clear hK K
    refine Order.wpH_nil ?_
    apply Order.wpI_step rfl rfl
    intro K hK
    go_simp
    refine (hlt.out _).mono ?_
    rintro e w3 ⟨rfl, hx3⟩
    have hx3 := hwd.tr hx3
    first | refine ⟨_, rfl, hK _ _ (fun _ => hx3) ?_⟩ | refine .inl ⟨_, rfl, hK _ _ (fun _ => hx3) ?_⟩
    clear hK K
    iterate 2
      apply Order.wpI_step rfl rfl
      intro K hK
      go_simp
      refine hK _ _ (fun _ => hx3) ?_
      clear hK K
    have hb3 := hx3.block hb2
    refine Order.wpI_set_cell 22 rfl b 17 _ _ (.int .u32 SE) rfl rfl hb3 (by kernel_rfl) (by show 17 < 28; decide) rfl rfl ?_
    have q1 : SpAt (w3.setCell ⟨b, 17, none⟩ (.int .u32 SE)) b ((x.put true EA).put true { (x.put true EA).at true with se := SE }) := set_se hb3 true SE
    rw [Sp.put_put, Sp.at_put, ← hB2.out] at q1
    have m3 : Mvs (fun j => j = b) w (w3.setCell ⟨b, 17, none⟩ (.int .u32 SE)) := (m2.tr (Mvs.ofExt hx3)).tr (Mvs.set _ _ _ rfl)
    have m3' : Mvs (fun j => j = b) w2 (w3.setCell ⟨b, 17, none⟩ (.int .u32 SE)) := (Mvs.ofExt hx3).tr (Mvs.set _ _ _ rfl)
    have c9 := cellM m3' c9 hn9
    have cN2 := cellM m3' cN2 hN
    have cN4 := cellM m3' cN4 hN
    have cN8 := cellM m3' cN8 hN
    generalize w3.setCell ⟨b, 17, none⟩ (.int .u32 SE) = w4 at *
    intro K hK
    refine hK _ _ (fun h => absurd rfl h) ?_
    clear hK K
    refine Order.wpI_nil ?_
    clear hb2 m2 hx3 hb3 m3' hr4 hwd hlt c13 hB2
    have HQ := Lib.hid q1
    clear q1
    cases F1
    · simp only [Bool.false_eq_true, if_false] at hag
      have hCC := Lib.hid (hC.out.trans (if_neg (by decide)))
      clear hC
      go_wp2_with fail
      refine bodyPost_end (results_none rfl _ _ _) rfl ?_
      exact ⟨rfl, by rw [hCC.out]; exact HQ.out, m3⟩
    · simp only [if_true] at hag
      have hCC := Lib.hid (hC.out.trans (if_pos rfl))
      clear hC
      go_upto_region 4 with (fail)
      refine Order.wp_region_order [0, 1, 2, 3, 4, 5, 6] [7, 8, 9, 10, 11, 12, 13] 13 (fun w' => Mvs (fun j => j = b) w4 w') (fun _ _ => False) (fun _ _ _ _ h => h.elim) (fun _ h => Mvs.ofExt h) (by kernel_rfl) (by kernel_rfl) (by kernel_rfl) rfl (by kernel_rfl) ?_
      intro wd hwd
      have hwd : Ext w4 wd := hwd
      iterate 7
        apply Order.wpH_some rfl rfl
        · intro w' hw'; have c9 := cellM hw' c9 hn9; have cN2 := cellM hw' cN2 hN; have cN8 := cellM hw' cN8 hN; go_simp; exact rfl
        intro K hK; go_simp; refine hK _ ?_; clear hK K
      refine Order.wpH_nil ?_
      apply Order.wpI_step rfl rfl
      intro K hK
      go_simp
      refine (hsa.out _).mono ?_
      rintro e w5 ⟨rfl, hx5⟩
      have hx5 := hwd.tr hx5
      first | refine ⟨_, rfl, hK _ _ (fun _ => Mvs.ofExt hx5) ?_⟩ | refine .inl ⟨_, rfl, hK _ _ (fun _ => Mvs.ofExt hx5) ?_⟩
      clear hK K
      iterate 2
        apply Order.wpI_step rfl rfl
        intro K hK
        go_simp
        refine hK _ _ (fun _ => Mvs.ofExt hx5) ?_
        clear hK K
      have hb5 := hx5.block HQ.out
      refine Order.wpI_set_cell 4 rfl b 18 _ _ (.bool true) rfl rfl hb5 (by kernel_rfl) (by show 18 < 28; decide) rfl rfl ?_
      have q1 : SpAt (w5.setCell ⟨b, 18, none⟩ (.bool true)) b ((x.put true EB).put true { (x.put true EB).at true with en := true }) := set_en hb5 true true
      rw [Sp.put_put, Sp.at_put] at q1
      have m5 : Mvs (fun j => j = b) w4 (w5.setCell ⟨b, 18, none⟩ (.bool true)) := (Mvs.ofExt hx5).tr (Mvs.set _ _ _ rfl)
      generalize w5.setCell ⟨b, 18, none⟩ (.bool true) = w6 at *
      intro K hK
      refine hK _ _ (fun _ => m5) ?_
      clear hK K
      have HM := Lib.hid m5
      iterate 2
        apply Order.wpI_step rfl rfl
        intro K hK
        go_simp
        refine hK _ _ (fun _ => HM.out) ?_
        clear hK K
      refine Order.wpI_set_cell 22 rfl b 19 _ _ (.int .u32 FI) rfl rfl q1 (by kernel_rfl) (by show 19 < 28; decide) rfl rfl ?_
      have q2 : SpAt (w6.setCell ⟨b, 19, none⟩ (.int .u32 FI)) b ((x.put true { EB with en := true }).put true { (x.put true { EB with en := true }).at true with fi := FI }) := set_fi q1 true FI
      rw [Sp.put_put, Sp.at_put] at q2
      have m6 : Mvs (fun j => j = b) w (w6.setCell ⟨b, 19, none⟩ (.int .u32 FI)) := (m3.tr m5).tr (Mvs.set _ _ _ rfl)
      generalize w6.setCell ⟨b, 19, none⟩ (.int .u32 FI) = w7 at *
      intro K hK
      refine hK _ _ (fun h => absurd rfl h) ?_
      clear hK K
      refine Order.wpI_nil ?_
      have HQ2 := Lib.hid q2
      clear q1 q2 m5 hb5 hx5 hwd HM
      go_wp2_with fail
      refine bodyPost_end (results_none rfl _ _ _) rfl ?_
      exact ⟨rfl, by rw [hCC.out]; exact HQ2.out, m6⟩
end Go.Proofs.Ytgbbpibcmpeneaa
