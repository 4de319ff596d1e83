/-
  Proved here: the law SpliceBegins returns true.
-/
import Derived.Test.YtgbbpibcmpeneaaLegs
import Derived.Deep.Cut
namespace Go.Proofs.Ytgbbpibcmpeneaa.spliceBegins
set_option maxRecDepth 200000
open Go.ChangeShapes Go.WideShapes Go.ChangeAt Go.RowKit Go.Cul Go.Loose
set_option linter.unusedVariables false
attribute [local go_sem] Loose.Still Loose.Upon Loose.vUpon

theorem new2a (w : World) (o1 o2 : Obj) : ((w.alloc o1).alloc o2).heap[w.heap.size]? = some o1 := by simp only [heap_alloc_at, World.size_alloc]; simp
theorem new2b (w : World) (o1 o2 : Obj) : ((w.alloc o1).alloc o2).heap[w.heap.size + 1]? = some o2 := by simp only [heap_alloc_at, World.size_alloc]; simp

set_option maxHeartbeats 8000000 in
set_option maxRecDepth 200000 in
theorem walk (w : World) (cs0 : Array Value) (g0 : Reads w legSh cs0.toList) : Calls Try.prog 4 #[.agg cs0] w fun e w' => e = .returned (.bool true) ∧ Ext w w' := by
  obtain ⟨l, rfl, hl⟩ := open_legs g0
  clear g0
  have hj := Lib.hid (fun (W : World) => joined_any l W hl)
  have hlone : l.cells.all (·.oneCell') = true := by simp [Value.oneCell']
  go_enter Try.func4, Try.ntmps4
  go_upto_region 1 with (fail)
  generalize hW : w.alloc _ = W
  have hxW : Ext w W := by rw [← hW]; exact Ext.new _ _
  have kN : W.heap[w.heap.size]? = some (.cells l.cells 30) := by rw [← hW]; exact heap_alloc_new w _
  clear hW
  have HL := Lib.hid hl
  clear hl hlone
  go_wp2_with (refine wpList_load_bigG 30 w.heap.size _ _ _ rfl kN rfl Try.underlying30 rfl (by kernel_rfl) ?_)
  refine (hj.out W).mono ?_
  clear hj
  rintro e v1 ⟨hx1, h | h⟩
  · obtain ⟨-, rfl⟩ := h
    have hx := Lib.hid (hxW.tr hx1)
    clear kN hxW hx1
    go_wp2_with fail
    refine (wakes26_any v1).mono ?_
    rintro e v2 ⟨rfl, hx2⟩
    go_wp2_with fail
    go_ret
    exact ⟨rfl, hx.out.tr hx2⟩
  obtain ⟨herr, bb, rfl, -, hB⟩ := h
  obtain ⟨hsc, hss, hn⟩ := err_sc HL.out herr
  have hok := Lib.hid (Lg.sp_ok HL.out herr)
  have kN := hx1.block kN
  have hx := hxW.tr hx1
  clear hx1 hxW herr
  have hwn : IntKind.u32.wrap l.n = l.n := by rw [IntKind.wrap_u32]; omega
  have HN := Lib.hid hn
  have HSC := Lib.hid hsc
  have HSS := Lib.hid hss
  clear hn hsc hss
  have e30 := cell_blk kN 30
  simp at e30
  go_wp2_with fail
  refine (upds_any bb l.sp v1 hB hok.out).mono ?_
  rw [upd_c HL.out, upd_s HL.out]
  rintro e v2 ⟨rfl, hx2⟩
  have kN := hx2.block kN
  have hB := hx2.block hB
  have hx := hx.tr hx2
  clear hx2 e30 hwn
  have hw1 := lgW_le (a := l.c) (o := l.s) (sc := l.cs.sc) HL.out.s
  have hw2 := lgW_le (a := l.s) (o := l.c) (sc := l.ss.sc) HL.out.c
  have hv1 : l.c.sc = -1 → 65535 < l.s.win ∨ lgW l.c l.s l.cs.sc = l.s.win := fun h => lgW_one HL.out.s h
  generalize lgW l.c l.s l.cs.sc = W1 at *
  generalize lgW l.s l.c l.ss.sc = W2 at *
  have HW1 := Lib.hid hw1
  have HW2 := Lib.hid hw2
  have HV1 := Lib.hid hv1
  clear hw1 hw2 hv1
  go_upto_region 6 with (first | (refine wpList_put_row 51 v2.heap.size _ (Sg.cells ⟨l.cs.lo, l.cs.re, (l.c.iss + 1) % 4294967296, (l.c.irs + 1 + l.n) % 4294967296, 16, W1, 0, [], []⟩ nos nos) _ rfl rfl (new2a _ _ _) (by kernel_rfl) rfl (by simp [Value.oneCell']) ?_; intro V3 k6 m3) | (refine wpList_put_row 51 (v2.heap.size + 1) _ (Sg.cells ⟨l.ss.lo, l.ss.re, (l.s.iss + 1 + l.n) % 4294967296, (l.s.irs + 1) % 4294967296, 16, W2, 0, [], []⟩ nos nos) _ rfl rfl (m3.keep (new2b _ _ _) (by omega)) (by kernel_rfl) rfl (by simp [Value.oneCell']) ?_; intro V4 k7 m4))
  have hlN := lt_of_block kN
  have hlB := lt_of_block hB
  have k6 := m4.keep k6 (by omega)
  have hxx := (Ext.new v2 (.cells (Sg.none.cells nos nos) 51)).al (.cells (Sg.none.cells nos nos) 51)
  have hx4 : Ext v2 V4 := m4.ext (m3.ext hxx (fun k hk => by omega)) (fun k hk => by omega)
  have kN := hx4.block kN
  have hB := hx4.block hB
  have hx := hx.tr hx4
  generalize v2.heap.size = b6 at *
  clear m3 m4 hxx hx4
  obtain ⟨v4, rfl⟩ : ∃ v4 : World, v4 = V4 := ⟨_, rfl⟩
  go_wp2_with fail
  refine (rsts_any bb l.sp v4 hB hok.out).mono ?_
  rw [rst_c HL.out, rst_s HL.out]
  rintro e v5 ⟨rfl, hx5⟩
  have kN := hx5.block kN
  have hB := hx5.block hB
  have k6 := hx5.block k6
  have k7 := hx5.block k7
  have hx := hx.tr hx5
  clear hx5
  go_upto_region 7 with (first | (refine wpList_put_row 51 v5.heap.size _ (Sg.cells ⟨l.cs.lo, l.cs.re, (l.c.iss + 1) % 4294967296, (l.c.irs + 1 + l.n) % 4294967296, 20, 0, 0, [], []⟩ nos nos) _ rfl rfl (new2a _ _ _) (by kernel_rfl) rfl (by simp [Value.oneCell']) ?_; intro V6 k8 m6) | (refine wpList_put_row 51 (v5.heap.size + 1) _ (Sg.cells ⟨l.ss.lo, l.ss.re, (l.s.iss + 1 + l.n) % 4294967296, (l.s.irs + 1) % 4294967296, 20, 0, 0, [], []⟩ nos nos) _ rfl rfl (m6.keep (new2b _ _ _) (by omega)) (by kernel_rfl) rfl (by simp [Value.oneCell']) ?_; intro V7 k9 m7))
  have hl5 := lt_of_block k7
  have hlN := lt_of_block kN
  have hlB := lt_of_block hB
  have k8 := m7.keep k8 (by omega)
  have hxx := (Ext.new v5 (.cells (Sg.none.cells nos nos) 51)).al (.cells (Sg.none.cells nos nos) 51)
  have hx7 : Ext v5 V7 := m7.ext (m6.ext hxx (fun k hk => by omega)) (fun k hk => by omega)
  have kN := hx7.block kN
  have hB := hx7.block hB
  have k6 := hx7.block k6
  have k7 := hx7.block k7
  have hx := hx.tr hx7
  generalize v5.heap.size = b8 at *
  clear m6 m7 hxx hx7
  obtain ⟨v7, rfl⟩ : ∃ v7 : World, v7 = V7 := ⟨_, rfl⟩
  have HX := Lib.hid hx
  have HB := Lib.hid hB
  clear hx hB hlB hlN hl5
  have n0 := cell_blk kN 0
  have n1 := cell_blk kN 1
  have n3 := cell_blk kN 3
  have n5 := cell_blk kN 5
  have n6 := cell_blk kN 6
  have n7 := cell_blk kN 7
  have n9 := cell_blk kN 9
  have n11 := cell_blk kN 11
  have n12 := cell_blk kN 12
  have n13 := cell_blk kN 13
  have n16 := cell_blk kN 16
  have n21 := cell_blk kN 21
  have n22 := cell_blk kN 22
  have n25 := cell_blk kN 25
  simp at n0 n1 n3 n5 n6 n7 n9 n11 n12 n13 n16 n21 n22 n25
  have a0 := cell_blk k6 0
  have a1 := cell_blk k6 1
  have a2 := cell_blk k6 2
  have a3 := cell_blk k6 3
  have a4 := cell_blk k6 4
  have a5 := cell_blk k6 5
  have a8 := cell_blk k6 8
  simp at a0 a1 a2 a3 a4 a5 a8
  have b0 := cell_blk k7 0
  have b1 := cell_blk k7 1
  have b2 := cell_blk k7 2
  have b3 := cell_blk k7 3
  have b4 := cell_blk k7 4
  have b5 := cell_blk k7 5
  have b8' := cell_blk k7 8
  simp at b0 b1 b2 b3 b4 b5 b8'
  have c2 := cell_blk k8 2
  have c3 := cell_blk k8 3
  have c5 := cell_blk k8 5
  simp at c2 c3 c5
  have d2 := cell_blk k9 2
  have d3 := cell_blk k9 3
  have d5 := cell_blk k9 5
  simp at d2 d3 d5
  have HKN := Lib.hid kN
  clear kN k6 k7 k8 k9
  go_upto_region 9 with (fail)
  go_upto_region 11 with (fail)
  go_upto_region 13 with (fail)
  have hb1 : IntKind.u32.wrap W1 = W1 := by have := HW1.out; rw [IntKind.wrap_u32]; omega
  have hb2 : IntKind.u32.wrap W2 = W2 := by have := HW2.out; rw [IntKind.wrap_u32]; omega
  refine wp_region_grow [] lasts_nil (by kernel_rfl) (by kernel_rfl) ?_
  iterate 1
    apply wpL_none rfl rfl
    · intro w' hw' hn'; go_simp; exact rfl
    intro K hK; go_simp; refine hK _ _ ?_; clear hK K
  iterate 1
    apply wpL_none rfl rfl
    · intro w' hw' hn'; have a5 := Ext.cell hw' a5; go_simp; exact rfl
    intro K hK; go_simp; refine hK _ _ ?_; clear hK K
  iterate 2
    apply wpL_none rfl rfl
    · intro w' hw' hn'; go_simp; exact rfl
    intro K hK; go_simp; refine hK _ _ ?_; clear hK K
  iterate 1
    apply wpL_none rfl rfl
    · intro w' hw' hn'; have b5 := Ext.cell hw' b5; go_simp; exact rfl
    intro K hK; go_simp; refine hK _ _ ?_; clear hK K
  iterate 3
    apply wpL_none rfl rfl
    · intro w' hw' hn'; go_simp; exact rfl
    intro K hK; go_simp; refine hK _ _ ?_; clear hK K
  refine wpL_nil ?_
  intro v8 hx8 _
  have hx8 : Ext v7 v8 := hx8
  have n3 := hx8.cell n3
  have n5 := hx8.cell n5
  have n9 := hx8.cell n9
  have n11 := hx8.cell n11
  have n16 := hx8.cell n16
  have n25 := hx8.cell n25
  have HX8 := Lib.hid (HX.out.tr hx8)
  have HB8 := Lib.hid (hx8.block HB.out)
  clear hx8 n0 n1 n6 n7 n12 n13 n21 n22 a0 a1 a2 a3 a4 a5 a8 b0 b1 b2 b3 b4 b5 b8' c2 c3 c5 d2 d3 d5 hb1 hb2 HB HX HKN
  go_upto_if 170 with (fail)
  go_cut [10] from 12 (fun v wc => ∃ C, v = .int .u32 C ∧ C ≤ l.s.win ∧ (65535 < l.s.win ∨ 0 ≤ l.c.sc ∨ C = l.s.win) ∧ wc = v8)
  case first =>
    rcases HSC.out with h | ⟨h1, h2, h3⟩
    · have hd : ¬ 0 ≤ l.c.sc := by omega
      have hq : W1 ≤ l.s.win := by have := HW1.out.1; rw [if_pos h] at this; simpa using this
      have hq2 := HV1.out h
      have HQ := Lib.hid (And.intro hq (hq2.imp id (fun h => (.inr h : 0 ≤ l.c.sc ∨ W1 = l.s.win))))
      clear hq hq2 h
      go_wp2_with fail
      go_meet
      case rel => exact ⟨W1, rfl, HQ.out.1, HQ.out.2, rfl⟩
    · obtain ⟨t, ht⟩ := Int.eq_ofNat_of_zero_le h2
      have hne : l.c.sc ≠ -1 := by omega
      have hq := HW1.out
      rw [if_neg hne, ht, Int.toNat_natCast] at hq
      rw [ht] at n16 h3
      have hmin : min t 32 = t := by omega
      have hbt : ¬ (t : Int) < 0 := by omega
      have h0 : 0 ≤ W1 * 2 ^ t := Int.mul_nonneg hq.2.1 (Int.pow_nonneg (by decide))
      have hsw := HL.out.s.win
      have hwr : IntKind.u32.wrap (W1 * 2 ^ t) = W1 * 2 ^ t := by rw [IntKind.wrap_u32]; omega
      have HQ := Lib.hid hq.1
      have H1 := Lib.hid h1
      clear hq h0 hsw ht hne h2 h3
      go_wp2_with fail
      go_meet
      case rel => exact ⟨W1 * 2 ^ t, rfl, HQ.out, .inr (.inl H1.out), rfl⟩
  obtain ⟨C, rfl, hC1, hC2, hwc⟩ := hcut
  obtain rfl : v8 = wc := hwc.symm
  have HC2 := Lib.hid hC2
  clear hC2 hwc
  go_upto_if 179 with (fail)
  go_cut [11] from 12 (fun v wc => ∃ D, v = .int .u32 D ∧ D ≤ l.c.win ∧ wc = v8)
  case first =>
    rcases HSS.out with h | ⟨h1, h2, h3⟩
    · have hd : ¬ 0 ≤ l.s.sc := by omega
      have hq : W2 ≤ l.c.win := by have := HW2.out.1; rw [if_pos h] at this; simpa using this
      have HQ := Lib.hid hq
      clear hq h
      go_wp2_with fail
      go_meet
      case rel => exact ⟨W2, rfl, HQ.out, rfl⟩
    · obtain ⟨t, ht⟩ := Int.eq_ofNat_of_zero_le h2
      have hne : l.s.sc ≠ -1 := by omega
      have hq := HW2.out
      rw [if_neg hne, ht, Int.toNat_natCast] at hq
      rw [ht] at n25 h3
      have hmin : min t 32 = t := by omega
      have hbt : ¬ (t : Int) < 0 := by omega
      have h0 : 0 ≤ W2 * 2 ^ t := Int.mul_nonneg hq.2.1 (Int.pow_nonneg (by decide))
      have hsw := HL.out.c.win
      have hwr : IntKind.u32.wrap (W2 * 2 ^ t) = W2 * 2 ^ t := by rw [IntKind.wrap_u32]; omega
      have HQ := Lib.hid hq.1
      clear hq h0 hsw ht hne h2 h3
      go_wp2_with fail
      go_meet
      case rel => exact ⟨W2 * 2 ^ t, rfl, HQ.out, rfl⟩
  obtain ⟨D, rfl, hD1, hwc⟩ := hcut
  obtain rfl : v8 = wc := hwc.symm
  clear hwc
  have hst := Lib.hid (sstate_any bb l.sp v8 HB8.out hok.out)
  rw [state_new] at hst
  rcases (by by_cases q : 65535 < l.s.win; (· exact .inl q); by_cases q2 : 0 ≤ l.c.sc; (· exact .inr (.inl ⟨q, q2⟩)); exact .inr (.inr ⟨q, q2, (HC2.out.resolve_left q).resolve_left q2⟩) : 65535 < l.s.win ∨ (¬ 65535 < l.s.win ∧ 0 ≤ l.c.sc) ∨ (¬ 65535 < l.s.win ∧ ¬ 0 ≤ l.c.sc ∧ C = l.s.win)) with q | ⟨q, q2⟩ | ⟨q, q2, q3⟩
  · go_wp2_with fail
    refine hst.out.mono ?_
    rintro e v9 ⟨rfl, hx9⟩
    go_wp2_with fail
    refine (wakes26_any v9).mono ?_
    rintro e v10 ⟨rfl, hx10⟩
    go_wp2_with fail
    go_ret
    exact ⟨rfl, HX8.out.tr (hx9.tr hx10)⟩
  · go_wp2_with fail
    refine hst.out.mono ?_
    rintro e v9 ⟨rfl, hx9⟩
    go_wp2_with fail
    refine (wakes26_any v9).mono ?_
    rintro e v10 ⟨rfl, hx10⟩
    go_wp2_with fail
    go_ret
    exact ⟨rfl, HX8.out.tr (hx9.tr hx10)⟩
  · subst q3
    go_wp2_with fail
    refine hst.out.mono ?_
    rintro e v9 ⟨rfl, hx9⟩
    go_wp2_with fail
    refine (wakes26_any v9).mono ?_
    rintro e v10 ⟨rfl, hx10⟩
    go_wp2_with fail
    go_ret
    exact ⟨rfl, HX8.out.tr (hx9.tr hx10)⟩
end Go.Proofs.Ytgbbpibcmpeneaa.spliceBegins
