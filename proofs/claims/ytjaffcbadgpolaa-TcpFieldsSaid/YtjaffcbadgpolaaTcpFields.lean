/-
  Proved here: the law TcpFields returns true. Condition: each slice at most 2^47 - 4096 bytes (the form's own reach).
-/
import Derived.Test.YtjaffcbadgpolaaTcpW
import Derived.BigRegion
import Derived.Deep.Cut
namespace Go.Proofs.Ytjaffcbadgpolaa.tcpFields
open Go.ChangeShapes Go.WideShapes Go.ChangeAt Go.RowKit Go.Cul Go.Loose
set_option linter.unusedVariables false
attribute [local go_sem] Loose.Still Loose.Upon Loose.vUpon

theorem sameQ (i j : Nat) (B1 B2 : Nat) (v1 v2 : Value) (l1 l2 : List Int) (w : World) (k1 : w.heap[B1]? = some (.cells #[v1] 25)) (k2 : w.heap[B2]? = some (.cells #[v2] 25)) (h1 : Rd .u8 w v1 l1) (h2 : Rd .u8 w v2 l2)
    (b1 : Byt l1) (b2 : Byt l2) (hij : i ≤ j) (hj1 : j ≤ l1.length) (hj2 : j ≤ l2.length) {r : Bool} (hr : decide ((l1.drop i).take (j - i) = (l2.drop i).take (j - i)) = r) :
    Calls Try.prog 11 #[.int .i64 i, .int .i64 j, .pointer (some ⟨B1, 0, none⟩), .pointer (some ⟨B2, 0, none⟩)] w fun e w' => e = .returned (.bool r) ∧ Ext w w' := by
  rw [← hr]; exact sameAt_any i j B1 B2 v1 v2 l1 l2 w k1 k2 h1 h2 b1 b2 hij hj1 hj2

abbrev sameB (l1 l2 : List Int) (i j : Nat) : Bool := decide ((l1.drop i).take (j - i) = (l2.drop i).take (j - i))

set_option maxHeartbeats 4000000 in
set_option maxRecDepth 100000 in
theorem walk (w : World) (s : Int) (hs : 0 ≤ s ∧ s ≤ 4294967295) (d : Int) (hd : 0 ≤ d ∧ d ≤ 4294967295) (cs2 : Array Value) (h2 : Reads w segSh cs2.toList) (cs3 : Array Value) (h3 : Reads w segSh cs3.toList) :
    Calls Try.prog 3 #[.int .u32 s, .int .u32 d, .agg cs2, .agg cs3] w fun e w' => e = .returned (.bool true) ∧ Ext w w' := by
  obtain ⟨g, vo, vd, rfl, hg, hvo, hvd, hn, hno⟩ := open_segment h2
  obtain ⟨g', vo', vd', rfl, hg', hvo', hvd', -, -⟩ := open_segment h3
  clear h2 h3
  obtain ⟨ao, co, rfl⟩ := hvo.shape
  obtain ⟨ao', co', rfl⟩ := hvo'.shape
  obtain ⟨ad, cd, rfl, hd1, hd2, -⟩ := id hvd
  obtain ⟨ad', cd', rfl, -, -, -⟩ := id hvd'
  obtain ⟨sp, dp, seq, ack, f, win, urg, os, data⟩ := g
  obtain ⟨sp', dp', seq', ack', f', win', urg', os', data'⟩ := g'
  simp only [Sg.cells] at *
  go_enter Try.func3, Try.ntmps3
  go_wp2_with fail
  generalize hW : (w.alloc _).alloc _ = W
  have hxW : Ext w W := by rw [← hW]; exact (Ext.new w _).al _
  have k1 : W.heap[w.heap.size]? = some (.cells #[.int .u16 sp, .int .u16 dp, .int .u32 seq, .int .u32 ack, .int .u8 f, .int .u16 win, .int .u16 urg, .slice ao os.length co, .slice ad data.length cd] 27) := by rw [← hW]; simp only [heap_alloc_at, World.size_alloc]; repeat (first | rfl | rw [if_pos (by first | trivial | omega)] | rw [if_neg (by omega)])
  have k2 : W.heap[w.heap.size + 1]? = some (.cells #[.int .u16 sp', .int .u16 dp', .int .u32 seq', .int .u32 ack', .int .u8 f', .int .u16 win', .int .u16 urg', .slice ao' os'.length co', .slice ad' data'.length cd'] 27) := by rw [← hW]; simp only [heap_alloc_at, World.size_alloc]; repeat (first | rfl | rw [if_pos (by first | trivial | omega)] | rw [if_neg (by omega)])
  clear hW
  have e7 := cell_blk k1 7
  have e8 := cell_blk k1 8
  simp at e7 e8
  have y7 := cell_blk k2 7
  have y8 := cell_blk k2 8
  simp at y7 y8
  have fz := fz_blk k2
  go_region
  have hBs := lt_of_block k1
  have hBt := lt_of_block k2
  generalize hV : ((W.setCell ⟨w.heap.size + 1, 7, none⟩ (.slice ao os.length co)).setCell ⟨w.heap.size + 1, 8, none⟩ (.slice ad data.length cd)).drew = V
  have hV' : Ext ((W.setCell ⟨w.heap.size + 1, 7, none⟩ (.slice ao os.length co)).setCell ⟨w.heap.size + 1, 8, none⟩ (.slice ad data.length cd)) V := by rw [← hV]; exact (Ext.rfl' _).dr
  have k1 := hV'.block (set_oth (set_oth k1 (by omega) 7 (.slice ao os.length co)) (by omega) 8 (.slice ad data.length cd))
  have k2 := hV'.block (set_blk (set_blk k2 7 (.slice ao os.length co)) 8 (.slice ad data.length cd))
  have hxV : Ext w V := Ext.tr (Below.setCell (Below.setCell hxW (Nat.le_succ _) _) (Nat.le_succ _) _) hV'
  simp at k2
  clear hV hV' e7 e8 y7 y8 fz hxW
  have hg2 : (Sg.mk sp' dp' seq' ack' f' win' urg' os data).ok := ⟨hg'.sp, hg'.dp, hg'.seq, hg'.ack, hg'.f, hg'.win, hg'.urg, hg.os, hg.data⟩
  have hP1 := fun (w : World) (h1 : RdO w _ os) (h2 : Rd .u8 w _ data) => tput_any s d (Sg.mk sp dp seq ack f win urg os data) (.slice ao os.length co) (.slice ad data.length cd) w hg h1 h2 hs hd hn
  have hP2 := fun (w : World) (h1 : RdO w _ os) (h2 : Rd .u8 w _ data) => tput_any s d (Sg.mk sp' dp' seq' ack' f' win' urg' os data) (.slice ao os.length co) (.slice ad data.length cd) w hg2 h1 h2 hs hd hn
  have hTC := tput_cases hg hs hd
  rcases hTC with ⟨E, hE, hT, hT2⟩ | ⟨O, hO, hOb, hO4, -, hfit, hT, hF, hT2⟩
  · have hT2 := hT2 s d (Sg.mk sp' dp' seq' ack' f' win' urg' os data) rfl rfl
    rw [hT] at hP1
    rw [hT2] at hP2
    have HP1 := Lib.hid hP1
    have HP2 := Lib.hid hP2
    have hE' : (E != 0) = true := by simpa using hE
    clear hP1 hP2 hT hT2 hE hg hg' hg2
    have e0 := cell_blk k1 0
    have e1 := cell_blk k1 1
    have e2 := cell_blk k1 2
    have e3 := cell_blk k1 3
    have e4 := cell_blk k1 4
    have e5 := cell_blk k1 5
    have e6 := cell_blk k1 6
    have e7 := cell_blk k1 7
    have e8 := cell_blk k1 8
    simp at e0 e1 e2 e3 e4 e5 e6 e7 e8
    go_wp2_with fail
    refine (HP1.out _ (hvo.ext hxV) (hvd.ext hxV)).mono ?_
    rintro e w1 ⟨u1, rfl, hu1, hx1⟩
    obtain ⟨a1, n1, c1, rfl⟩ := hu1.rd.shape
    have k2 := (hx1.al (.cells #[.slice a1 n1 c1] 25)).block k2
    clear e0 e1 e2 e3 e4 e5 e6 e7 e8
    have e0 := cell_blk k2 0
    have e1 := cell_blk k2 1
    have e2 := cell_blk k2 2
    have e3 := cell_blk k2 3
    have e4 := cell_blk k2 4
    have e5 := cell_blk k2 5
    have e6 := cell_blk k2 6
    have e7 := cell_blk k2 7
    have e8 := cell_blk k2 8
    simp at e0 e1 e2 e3 e4 e5 e6 e7 e8
    go_wp2_with fail
    refine (HP2.out _ (hvo.ext (hxV.tr (hx1.al _))) (hvd.ext (hxV.tr (hx1.al _)))).mono ?_
    rintro e w2 ⟨u2, rfl, hu2, hx2⟩
    obtain ⟨a2, n2, c2, rfl⟩ := hu2.rd.shape
    go_wp2_with fail
    refine (wakes6_any _).mono ?_
    rintro e w3 ⟨rfl, hx3⟩
    go_wp2_with fail
    go_ret
    exact ⟨rfl, hxV.tr ((hx1.al _).tr ((hx2.al _).tr hx3))⟩
  have hT2 := hT2 s d (Sg.mk sp' dp' seq' ack' f' win' urg' os data) rfl rfl
  have hF2 := field_bd hg2 hs hd hOb hO4
  generalize (Sg.mk sp dp seq ack f win urg os data).field s d O = F at *
  generalize (Sg.mk sp' dp' seq' ack' f' win' urg' os data).field s d O = F' at *
  rw [hT] at hP1
  rw [hT2] at hP2
  have hq0 : sameB ((Sg.mk sp dp seq ack f win urg os data).lay O F) ((Sg.mk sp' dp' seq' ack' f' win' urg' os data).lay O F') 0 2 = (sp == sp') := by2_inj hg.sp hg'.sp
  have hq2 : sameB ((Sg.mk sp dp seq ack f win urg os data).lay O F) ((Sg.mk sp' dp' seq' ack' f' win' urg' os data).lay O F') 2 4 = (dp == dp') := by2_inj hg.dp hg'.dp
  have hq4 : sameB ((Sg.mk sp dp seq ack f win urg os data).lay O F) ((Sg.mk sp' dp' seq' ack' f' win' urg' os data).lay O F') 4 8 = (seq == seq') := by4_inj hg.seq hg'.seq
  have hq8 : sameB ((Sg.mk sp dp seq ack f win urg os data).lay O F) ((Sg.mk sp' dp' seq' ack' f' win' urg' os data).lay O F') 8 12 = (ack == ack') := by4_inj hg.ack hg'.ack
  have hq12 : sameB ((Sg.mk sp dp seq ack f win urg os data).lay O F) ((Sg.mk sp' dp' seq' ack' f' win' urg' os data).lay O F') 12 13 = true := decide_eq_true rfl
  have hq13 : sameB ((Sg.mk sp dp seq ack f win urg os data).lay O F) ((Sg.mk sp' dp' seq' ack' f' win' urg' os data).lay O F') 13 14 = (f == f') := one_inj
  have hq14 : sameB ((Sg.mk sp dp seq ack f win urg os data).lay O F) ((Sg.mk sp' dp' seq' ack' f' win' urg' os data).lay O F') 14 16 = (win == win') := by2_inj hg.win hg'.win
  have hq18 : sameB ((Sg.mk sp dp seq ack f win urg os data).lay O F) ((Sg.mk sp' dp' seq' ack' f' win' urg' os data).lay O F') 18 20 = (urg == urg') := by2_inj hg.urg hg'.urg
  have hq20 : ∀ N, sameB ((Sg.mk sp dp seq ack f win urg os data).lay O F) ((Sg.mk sp' dp' seq' ack' f' win' urg' os data).lay O F') 20 N = true := fun N => decide_eq_true rfl
  have hB1 := lay_byt hg hOb hO4 hF
  have hB2 := lay_byt hg2 hOb hO4 hF2
  have hl1 := lay_len (Sg.mk sp dp seq ack f win urg os data) O F
  have hl2 := lay_len (Sg.mk sp' dp' seq' ack' f' win' urg' os data) O F'
  have hgf := hg.f
  dsimp only at hl1 hl2 hgf hP1 hP2
  generalize hL1 : (Sg.mk sp dp seq ack f win urg os data).lay O F = L1 at *
  generalize hL2 : (Sg.mk sp' dp' seq' ack' f' win' urg' os data).lay O F' = L2 at *
  generalize hN : 20 + O.length + data.length = N at *
  have hN20 : 20 ≤ N := by omega
  have hdl : data.length ≤ 1480 := by omega
  have HB1 := Lib.hid hB1
  have HB2 := Lib.hid hB2
  have HL1 := Lib.hid hl1
  have HL2 := Lib.hid hl2
  have HQ := Lib.hid (⟨hq0, hq2, hq4, hq8, hq12, hq13, hq14, hq18, hq20⟩ : _ ∧ _ ∧ _ ∧ _ ∧ _ ∧ _ ∧ _ ∧ _ ∧ _)
  have HP1 := Lib.hid hP1
  have HP2 := Lib.hid hP2
  have HG := Lib.hid hgf
  clear hP1 hP2 hT hT2 hL1 hL2 hN hB1 hB2 hl1 hl2 hq0 hq2 hq4 hq8 hq12 hq13 hq14 hq18 hq20 hO hOb hO4 hF hF2 hg hg' hg2 hgf
  have hNi : ¬ ((N : Int) < 20) := by omega
  have e0 := cell_blk k1 0
  have e1 := cell_blk k1 1
  have e2 := cell_blk k1 2
  have e3 := cell_blk k1 3
  have e4 := cell_blk k1 4
  have e5 := cell_blk k1 5
  have e6 := cell_blk k1 6
  have e7 := cell_blk k1 7
  have e8 := cell_blk k1 8
  simp at e0 e1 e2 e3 e4 e5 e6 e7 e8
  go_wp2_with fail
  refine (HP1.out _ (hvo.ext hxV) (hvd.ext hxV)).mono ?_
  rintro e w1 ⟨u1, rfl, hu1, hx1⟩
  have hr1 := hu1.rd
  obtain ⟨a1, c1, hue, -, -, -⟩ := id hr1
  rw [HL1.out] at hue
  subst hue
  clear hu1
  go_upto_region 3 with (fail)
  generalize hW1 : w1.alloc _ = W1
  have hx1W : Ext w1 W1 := by rw [← hW1]; exact Ext.new _ _
  have b1 : W1.heap[w1.heap.size]? = some (.cells #[.slice a1 N c1] 25) := by rw [← hW1]; exact heap_alloc_new _ _
  have k1 := (hx1.tr hx1W).block k1
  have k2 := (hx1.tr hx1W).block k2
  have hxW1 := hxV.tr (hx1.tr hx1W)
  have hr1 := hr1.ext hx1W
  clear hW1 hx1W hx1 e0 e1 e2 e3 e4 e5 e6 e7 e8
  generalize w1.heap.size = Ba at *
  have e0 := cell_blk k2 0
  have e1 := cell_blk k2 1
  have e2 := cell_blk k2 2
  have e3 := cell_blk k2 3
  have e4 := cell_blk k2 4
  have e5 := cell_blk k2 5
  have e6 := cell_blk k2 6
  have e7 := cell_blk k2 7
  have e8 := cell_blk k2 8
  simp at e0 e1 e2 e3 e4 e5 e6 e7 e8
  go_wp2_with fail
  refine (HP2.out _ (hvo.ext hxW1) (hvd.ext hxW1)).mono ?_
  rintro e w2 ⟨u2, rfl, hu2, hx2⟩
  have hr2 := hu2.rd
  obtain ⟨a2, c2, hue, -, -, -⟩ := id hr2
  rw [HL2.out] at hue
  subst hue
  clear hu2
  go_upto_region 4 with (fail)
  generalize hW1 : w2.alloc _ = W2
  have hx2W : Ext w2 W2 := by rw [← hW1]; exact Ext.new _ _
  have b2 : W2.heap[w2.heap.size]? = some (.cells #[.slice a2 N c2] 25) := by rw [← hW1]; exact heap_alloc_new _ _
  have k1 := (hx2.tr hx2W).block k1
  have k2 := (hx2.tr hx2W).block k2
  have b1 := (hx2.tr hx2W).block b1
  have hxW2 := hxW1.tr (hx2.tr hx2W)
  have hr1 := hr1.ext (hx2.tr hx2W)
  have hr2 := hr2.ext hx2W
  clear hW1 hx2W hx2 e0 e1 e2 e3 e4 e5 e6 e7 e8 hxW1 hxV
  generalize w2.heap.size = Bb at *
  have e0 := cell_blk k1 0
  have e1 := cell_blk k1 1
  have e2 := cell_blk k1 2
  have e3 := cell_blk k1 3
  have e4 := cell_blk k1 4
  have e5 := cell_blk k1 5
  have e6 := cell_blk k1 6
  have e7 := cell_blk k1 7
  have e8 := cell_blk k1 8
  simp at e0 e1 e2 e3 e4 e5 e6 e7 e8
  have y0 := cell_blk k2 0
  have y1 := cell_blk k2 1
  have y2 := cell_blk k2 2
  have y3 := cell_blk k2 3
  have y4 := cell_blk k2 4
  have y5 := cell_blk k2 5
  have y6 := cell_blk k2 6
  simp at y0 y1 y2 y3 y4 y5 y6
  have z1 := cell_blk b1 0
  simp at z1
  have z2 := cell_blk b2 0
  simp at z2
  have ha1 := and1 f HG.out
  have ha2 := and2 f HG.out
  have hS : Hid (∀ m1 m2 : Int, (m1 = if fl f 1 then 1 else 0) → (m2 = if fl f 2 then 1 else 0) → sLen (data.length : Int) f = data.length + (m2 + m1)) := by
    intro m1 m2 h1 h2
    unfold sLen
    rw [← h1, ← h2]
    have h3 : 0 ≤ m1 ∧ m1 ≤ 1 := by subst h1; split <;> decide
    have h4 : 0 ≤ m2 ∧ m2 ≤ 1 := by subst h2; split <;> decide
    omega
  obtain ⟨m1, hk1⟩ : ∃ k : Int, k = if fl f 1 then 1 else 0 := ⟨_, rfl⟩
  obtain ⟨m2, hk2⟩ : ∃ k : Int, k = if fl f 2 then 1 else 0 := ⟨_, rfl⟩
  have hS := Lib.hid (hS.out m1 m2 hk1 hk2)
  go_upto_if 55 with (fail)
  go_cut [14] from 15 (fun v wc => v = .int .u32 m2 ∧ wc = W2)
  case first =>
    rcases hf2 : fl f 2 with _ | _ <;> rw [hf2] at ha2 hk2 <;> simp only [if_true, if_false, Bool.false_eq_true] at ha2 hk2
    all_goals
      subst hk2
      go_wp2_with fail
      go_meet
      case rel => exact ⟨rfl, rfl⟩
  obtain ⟨rfl, rfl⟩ := hcut
  obtain ⟨W3, rfl⟩ : ∃ W3 : World, W3 = wc := ⟨_, rfl⟩
  have hk2b : m2 = 0 ∨ m2 = 1 := by rw [hk2]; split <;> simp
  clear hk2
  go_upto_if 61 with (fail)
  go_cut [14] from 15 (fun v wc => v = .int .u32 (m2 + m1) ∧ wc = W3)
  case first =>
    rcases hf1 : fl f 1 with _ | _ <;> rw [hf1] at ha1 hk1 <;> simp only [if_true, if_false, Bool.false_eq_true] at ha1 hk1
    all_goals
      subst hk1
      go_wp2_with fail
      go_meet
      case rel => exact ⟨by first | rfl | simp, rfl⟩
  obtain ⟨rfl, rfl⟩ := hcut
  obtain ⟨W4, rfl⟩ : ∃ W4 : World, W4 = wc := ⟨_, rfl⟩
  have hk1b : m1 = 0 ∨ m1 = 1 := by rw [hk1]; split <;> simp
  have hkb : 0 ≤ m2 + m1 ∧ m2 + m1 ≤ 2 := by omega
  clear hk1 hk1b hk2b ha1 ha2
  generalize m2 + m1 = k at *
  go_upto_region 16 with (fail)
  have hw0 : IntKind.u32.wrap (data.length : Int) = data.length := by rw [IntKind.wrap_u32]; omega
  have hw1 : IntKind.u32.wrap ((data.length : Int) + k) = data.length + k := by rw [IntKind.wrap_u32]; omega
  clear hdl hNi hkb
  refine wp_region_grow [(1, is (.bool (sp == sp'))), (10, is (.bool (dp == dp'))), (20, is (.bool (seq == seq'))), (30, is (.bool (ack == ack'))), (40, is (.bool true)), (44, is (.bool (f == f'))), (54, is (.bool (win == win'))), (64, is (.bool (urg == urg'))), (76, is (.bool true)), (80, is (.int .u32 ((data.length : Int) + k))), (90, is (.bool true))] (lasts_is (lasts_is (lasts_is (lasts_is (lasts_is (lasts_is (lasts_is (lasts_is (lasts_is (lasts_is (lasts_is (lasts_nil)))))))))))) (by kernel_rfl) (by kernel_rfl) ?_
  iterate 1
    apply wpL_none rfl rfl
    · intro w' hw' hn'; go_simp; exact rfl
    intro K hK; go_simp; refine hK _ _ ?_; clear hK K
  apply wpL_some rfl rfl
  · intro w' hw' hn'
    go_simp
    refine ⟨Ext.rfl' _, ?_⟩
    refine (sameQ 0 2 Ba Bb _ _ L1 L2 _ (Ext.block hw' b1) (Ext.block hw' b2) (hr1.ext hw') (hr2.ext hw') HB1.out HB2.out (by omega) (by have := HL1.out; omega) (by have := HL2.out; omega) HQ.out.1).mono ?_
    rintro e w2 ⟨rfl, hx⟩
    exact ⟨_, rfl, hx, rfl⟩
  intro v w' hw' hD' hv
  obtain rfl : v = _ := hv
  clear hw' hD' w'
  intro K hK; go_simp; refine hK _ _ ?_; clear hK K
  iterate 1
    apply wpL_none rfl rfl
    · intro w' hw' hn'; go_simp; exact rfl
    intro K hK; go_simp; refine hK _ _ ?_; clear hK K
  iterate 1
    apply wpL_none rfl rfl
    · intro w' hw' hn'; have e0 := Ext.cell hw' e0; go_simp; exact rfl
    intro K hK; go_simp; refine hK _ _ ?_; clear hK K
  iterate 1
    apply wpL_none rfl rfl
    · intro w' hw' hn'; go_simp; exact rfl
    intro K hK; go_simp; refine hK _ _ ?_; clear hK K
  iterate 1
    apply wpL_none rfl rfl
    · intro w' hw' hn'; have y0 := Ext.cell hw' y0; go_simp; exact rfl
    intro K hK; go_simp; refine hK _ _ ?_; clear hK K
  iterate 4
    apply wpL_none rfl rfl
    · intro w' hw' hn'; go_simp; exact rfl
    intro K hK; go_simp; refine hK _ _ ?_; clear hK K
  apply wpL_some rfl rfl
  · intro w' hw' hn'
    go_simp
    refine ⟨Ext.rfl' _, ?_⟩
    refine (sameQ 2 4 Ba Bb _ _ L1 L2 _ (Ext.block hw' b1) (Ext.block hw' b2) (hr1.ext hw') (hr2.ext hw') HB1.out HB2.out (by omega) (by have := HL1.out; omega) (by have := HL2.out; omega) HQ.out.2.1).mono ?_
    rintro e w2 ⟨rfl, hx⟩
    exact ⟨_, rfl, hx, rfl⟩
  intro v w' hw' hD' hv
  obtain rfl : v = _ := hv
  clear hw' hD' w'
  intro K hK; go_simp; refine hK _ _ ?_; clear hK K
  iterate 1
    apply wpL_none rfl rfl
    · intro w' hw' hn'; go_simp; exact rfl
    intro K hK; go_simp; refine hK _ _ ?_; clear hK K
  iterate 1
    apply wpL_none rfl rfl
    · intro w' hw' hn'; have e1 := Ext.cell hw' e1; go_simp; exact rfl
    intro K hK; go_simp; refine hK _ _ ?_; clear hK K
  iterate 1
    apply wpL_none rfl rfl
    · intro w' hw' hn'; go_simp; exact rfl
    intro K hK; go_simp; refine hK _ _ ?_; clear hK K
  iterate 1
    apply wpL_none rfl rfl
    · intro w' hw' hn'; have y1 := Ext.cell hw' y1; go_simp; exact rfl
    intro K hK; go_simp; refine hK _ _ ?_; clear hK K
  iterate 5
    apply wpL_none rfl rfl
    · intro w' hw' hn'; go_simp; exact rfl
    intro K hK; go_simp; refine hK _ _ ?_; clear hK K
  apply wpL_some rfl rfl
  · intro w' hw' hn'
    go_simp
    refine ⟨Ext.rfl' _, ?_⟩
    refine (sameQ 4 8 Ba Bb _ _ L1 L2 _ (Ext.block hw' b1) (Ext.block hw' b2) (hr1.ext hw') (hr2.ext hw') HB1.out HB2.out (by omega) (by have := HL1.out; omega) (by have := HL2.out; omega) HQ.out.2.2.1).mono ?_
    rintro e w2 ⟨rfl, hx⟩
    exact ⟨_, rfl, hx, rfl⟩
  intro v w' hw' hD' hv
  obtain rfl : v = _ := hv
  clear hw' hD' w'
  intro K hK; go_simp; refine hK _ _ ?_; clear hK K
  iterate 1
    apply wpL_none rfl rfl
    · intro w' hw' hn'; go_simp; exact rfl
    intro K hK; go_simp; refine hK _ _ ?_; clear hK K
  iterate 1
    apply wpL_none rfl rfl
    · intro w' hw' hn'; have e2 := Ext.cell hw' e2; go_simp; exact rfl
    intro K hK; go_simp; refine hK _ _ ?_; clear hK K
  iterate 1
    apply wpL_none rfl rfl
    · intro w' hw' hn'; go_simp; exact rfl
    intro K hK; go_simp; refine hK _ _ ?_; clear hK K
  iterate 1
    apply wpL_none rfl rfl
    · intro w' hw' hn'; have y2 := Ext.cell hw' y2; go_simp; exact rfl
    intro K hK; go_simp; refine hK _ _ ?_; clear hK K
  iterate 5
    apply wpL_none rfl rfl
    · intro w' hw' hn'; go_simp; exact rfl
    intro K hK; go_simp; refine hK _ _ ?_; clear hK K
  apply wpL_some rfl rfl
  · intro w' hw' hn'
    go_simp
    refine ⟨Ext.rfl' _, ?_⟩
    refine (sameQ 8 12 Ba Bb _ _ L1 L2 _ (Ext.block hw' b1) (Ext.block hw' b2) (hr1.ext hw') (hr2.ext hw') HB1.out HB2.out (by omega) (by have := HL1.out; omega) (by have := HL2.out; omega) HQ.out.2.2.2.1).mono ?_
    rintro e w2 ⟨rfl, hx⟩
    exact ⟨_, rfl, hx, rfl⟩
  intro v w' hw' hD' hv
  obtain rfl : v = _ := hv
  clear hw' hD' w'
  intro K hK; go_simp; refine hK _ _ ?_; clear hK K
  iterate 1
    apply wpL_none rfl rfl
    · intro w' hw' hn'; go_simp; exact rfl
    intro K hK; go_simp; refine hK _ _ ?_; clear hK K
  iterate 1
    apply wpL_none rfl rfl
    · intro w' hw' hn'; have e3 := Ext.cell hw' e3; go_simp; exact rfl
    intro K hK; go_simp; refine hK _ _ ?_; clear hK K
  iterate 1
    apply wpL_none rfl rfl
    · intro w' hw' hn'; go_simp; exact rfl
    intro K hK; go_simp; refine hK _ _ ?_; clear hK K
  iterate 1
    apply wpL_none rfl rfl
    · intro w' hw' hn'; have y3 := Ext.cell hw' y3; go_simp; exact rfl
    intro K hK; go_simp; refine hK _ _ ?_; clear hK K
  iterate 5
    apply wpL_none rfl rfl
    · intro w' hw' hn'; go_simp; exact rfl
    intro K hK; go_simp; refine hK _ _ ?_; clear hK K
  apply wpL_some rfl rfl
  · intro w' hw' hn'
    go_simp
    refine ⟨Ext.rfl' _, ?_⟩
    refine (sameQ 12 13 Ba Bb _ _ L1 L2 _ (Ext.block hw' b1) (Ext.block hw' b2) (hr1.ext hw') (hr2.ext hw') HB1.out HB2.out (by omega) (by have := HL1.out; omega) (by have := HL2.out; omega) HQ.out.2.2.2.2.1).mono ?_
    rintro e w2 ⟨rfl, hx⟩
    exact ⟨_, rfl, hx, rfl⟩
  intro v w' hw' hD' hv
  obtain rfl : v = _ := hv
  clear hw' hD' w'
  intro K hK; go_simp; refine hK _ _ ?_; clear hK K
  iterate 3
    apply wpL_none rfl rfl
    · intro w' hw' hn'; go_simp; exact rfl
    intro K hK; go_simp; refine hK _ _ ?_; clear hK K
  apply wpL_some rfl rfl
  · intro w' hw' hn'
    go_simp
    refine ⟨Ext.rfl' _, ?_⟩
    refine (sameQ 13 14 Ba Bb _ _ L1 L2 _ (Ext.block hw' b1) (Ext.block hw' b2) (hr1.ext hw') (hr2.ext hw') HB1.out HB2.out (by omega) (by have := HL1.out; omega) (by have := HL2.out; omega) HQ.out.2.2.2.2.2.1).mono ?_
    rintro e w2 ⟨rfl, hx⟩
    exact ⟨_, rfl, hx, rfl⟩
  intro v w' hw' hD' hv
  obtain rfl : v = _ := hv
  clear hw' hD' w'
  intro K hK; go_simp; refine hK _ _ ?_; clear hK K
  iterate 1
    apply wpL_none rfl rfl
    · intro w' hw' hn'; go_simp; exact rfl
    intro K hK; go_simp; refine hK _ _ ?_; clear hK K
  iterate 1
    apply wpL_none rfl rfl
    · intro w' hw' hn'; have e4 := Ext.cell hw' e4; go_simp; exact rfl
    intro K hK; go_simp; refine hK _ _ ?_; clear hK K
  iterate 1
    apply wpL_none rfl rfl
    · intro w' hw' hn'; go_simp; exact rfl
    intro K hK; go_simp; refine hK _ _ ?_; clear hK K
  iterate 1
    apply wpL_none rfl rfl
    · intro w' hw' hn'; have y4 := Ext.cell hw' y4; go_simp; exact rfl
    intro K hK; go_simp; refine hK _ _ ?_; clear hK K
  iterate 5
    apply wpL_none rfl rfl
    · intro w' hw' hn'; go_simp; exact rfl
    intro K hK; go_simp; refine hK _ _ ?_; clear hK K
  apply wpL_some rfl rfl
  · intro w' hw' hn'
    go_simp
    refine ⟨Ext.rfl' _, ?_⟩
    refine (sameQ 14 16 Ba Bb _ _ L1 L2 _ (Ext.block hw' b1) (Ext.block hw' b2) (hr1.ext hw') (hr2.ext hw') HB1.out HB2.out (by omega) (by have := HL1.out; omega) (by have := HL2.out; omega) HQ.out.2.2.2.2.2.2.1).mono ?_
    rintro e w2 ⟨rfl, hx⟩
    exact ⟨_, rfl, hx, rfl⟩
  intro v w' hw' hD' hv
  obtain rfl : v = _ := hv
  clear hw' hD' w'
  intro K hK; go_simp; refine hK _ _ ?_; clear hK K
  iterate 1
    apply wpL_none rfl rfl
    · intro w' hw' hn'; go_simp; exact rfl
    intro K hK; go_simp; refine hK _ _ ?_; clear hK K
  iterate 1
    apply wpL_none rfl rfl
    · intro w' hw' hn'; have e5 := Ext.cell hw' e5; go_simp; exact rfl
    intro K hK; go_simp; refine hK _ _ ?_; clear hK K
  iterate 1
    apply wpL_none rfl rfl
    · intro w' hw' hn'; go_simp; exact rfl
    intro K hK; go_simp; refine hK _ _ ?_; clear hK K
  iterate 1
    apply wpL_none rfl rfl
    · intro w' hw' hn'; have y5 := Ext.cell hw' y5; go_simp; exact rfl
    intro K hK; go_simp; refine hK _ _ ?_; clear hK K
  iterate 5
    apply wpL_none rfl rfl
    · intro w' hw' hn'; go_simp; exact rfl
    intro K hK; go_simp; refine hK _ _ ?_; clear hK K
  apply wpL_some rfl rfl
  · intro w' hw' hn'
    go_simp
    refine ⟨Ext.rfl' _, ?_⟩
    refine (sameQ 18 20 Ba Bb _ _ L1 L2 _ (Ext.block hw' b1) (Ext.block hw' b2) (hr1.ext hw') (hr2.ext hw') HB1.out HB2.out (by omega) (by have := HL1.out; omega) (by have := HL2.out; omega) HQ.out.2.2.2.2.2.2.2.1).mono ?_
    rintro e w2 ⟨rfl, hx⟩
    exact ⟨_, rfl, hx, rfl⟩
  intro v w' hw' hD' hv
  obtain rfl : v = _ := hv
  clear hw' hD' w'
  intro K hK; go_simp; refine hK _ _ ?_; clear hK K
  iterate 1
    apply wpL_none rfl rfl
    · intro w' hw' hn'; go_simp; exact rfl
    intro K hK; go_simp; refine hK _ _ ?_; clear hK K
  iterate 1
    apply wpL_none rfl rfl
    · intro w' hw' hn'; have e6 := Ext.cell hw' e6; go_simp; exact rfl
    intro K hK; go_simp; refine hK _ _ ?_; clear hK K
  iterate 1
    apply wpL_none rfl rfl
    · intro w' hw' hn'; go_simp; exact rfl
    intro K hK; go_simp; refine hK _ _ ?_; clear hK K
  iterate 1
    apply wpL_none rfl rfl
    · intro w' hw' hn'; have y6 := Ext.cell hw' y6; go_simp; exact rfl
    intro K hK; go_simp; refine hK _ _ ?_; clear hK K
  iterate 5
    apply wpL_none rfl rfl
    · intro w' hw' hn'; go_simp; exact rfl
    intro K hK; go_simp; refine hK _ _ ?_; clear hK K
  iterate 1
    apply wpL_none rfl rfl
    · intro w' hw' hn'; have z1 := Ext.cell hw' z1; go_simp; exact rfl
    intro K hK; go_simp; refine hK _ _ ?_; clear hK K
  iterate 1
    apply wpL_none rfl rfl
    · intro w' hw' hn'; go_simp; exact rfl
    intro K hK; go_simp; refine hK _ _ ?_; clear hK K
  apply wpL_some rfl rfl
  · intro w' hw' hn'
    go_simp
    refine ⟨Ext.rfl' _, ?_⟩
    refine (sameQ 20 N Ba Bb _ _ L1 L2 _ (Ext.block hw' b1) (Ext.block hw' b2) (hr1.ext hw') (hr2.ext hw') HB1.out HB2.out (by omega) (by have := HL1.out; omega) (by have := HL2.out; omega) (HQ.out.2.2.2.2.2.2.2.2 N)).mono ?_
    rintro e w2 ⟨rfl, hx⟩
    exact ⟨_, rfl, hx, rfl⟩
  intro v w' hw' hD' hv
  obtain rfl : v = _ := hv
  clear hw' hD' w'
  intro K hK; go_simp; refine hK _ _ ?_; clear hK K
  iterate 2
    apply wpL_none rfl rfl
    · intro w' hw' hn'; go_simp; exact rfl
    intro K hK; go_simp; refine hK _ _ ?_; clear hK K
  iterate 1
    apply wpL_none rfl rfl
    · intro w' hw' hn'; have e0 := Ext.cell hw' e0; have e1 := Ext.cell hw' e1; have e2 := Ext.cell hw' e2; have e3 := Ext.cell hw' e3; have e4 := Ext.cell hw' e4; have e5 := Ext.cell hw' e5; have e6 := Ext.cell hw' e6; have e7 := Ext.cell hw' e7; have e8 := Ext.cell hw' e8; go_simp; exact rfl
    intro K hK; go_simp; refine hK _ _ ?_; clear hK K
  apply wpL_some rfl rfl
  · intro w' hw' hn'
    go_simp
    refine ⟨Ext.rfl' _, ?_⟩
    refine (length_any _ _ _ _ _ _ _ f _ _ _ _ HG.out).mono ?_
    rw [hS.out]
    rintro e w2 ⟨rfl, hx⟩
    exact ⟨_, rfl, hx, rfl⟩
  intro v w' hw' hD' hv
  obtain rfl : v = _ := hv
  clear hw' hD' w'
  intro K hK; go_simp; refine hK _ _ ?_; clear hK K
  iterate 1
    apply wpL_none rfl rfl
    · intro w' hw' hn'; go_simp; exact rfl
    intro K hK; go_simp; refine hK _ _ ?_; clear hK K
  iterate 1
    apply wpL_none rfl rfl
    · intro w' hw' hn'; have e8 := Ext.cell hw' e8; go_simp; exact rfl
    intro K hK; go_simp; refine hK _ _ ?_; clear hK K
  iterate 7
    apply wpL_none rfl rfl
    · intro w' hw' hn'; go_simp; exact rfl
    intro K hK; go_simp; refine hK _ _ ?_; clear hK K
  apply wpL_some rfl rfl
  · intro w' hw' hn'
    go_simp
    refine ⟨Ext.rfl' _, ?_⟩
    refine (wakes6_any _).mono ?_
    rintro e w2 ⟨rfl, hx⟩
    exact ⟨_, rfl, hx, rfl⟩
  intro v w' hw' hD' hv
  obtain rfl : v = _ := hv
  clear hw' hD' w'
  intro K hK; go_simp; refine hK _ _ ?_; clear hK K
  iterate 2
    apply wpL_none rfl rfl
    · intro w' hw' hn'; go_simp; exact rfl
    intro K hK; go_simp; refine hK _ _ ?_; clear hK K
  refine wpL_nil ?_
  intro w' hw' hD'
  go_wp2_with fail
  go_ret
  exact ⟨rfl, hxW2.tr hw'⟩
end Go.Proofs.Ytjaffcbadgpolaa.tcpFields
