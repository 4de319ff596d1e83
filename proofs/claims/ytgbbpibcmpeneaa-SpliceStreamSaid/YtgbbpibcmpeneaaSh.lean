/-
  Proved here: what shift.May and Window compute. Condition: numbers within their kinds.
-/
import Derived.Test.YtgbbpibcmpeneaaShL
namespace Go.Proofs.Ytgbbpibcmpeneaa
set_option maxRecDepth 200000
open Go.ChangeShapes Go.WideShapes Go.ChangeAt Go.RowKit Go.Cul Go.Loose
set_option linter.unusedVariables false
attribute [local go_sem] Loose.Still Loose.Upon

theorem may1_any (n : Int) (w : World) : Calls Try.prog 43 #[.int .i64 n] w fun e w' => e = .returned (.bool (decide (0 ≤ n) && decide (n ≤ 14))) ∧ w' = w := by
  by_cases h : 0 ≤ n
  · have hd : (decide (0 ≤ n) && decide (n ≤ 14)) = decide (n ≤ 14) := by simp [h]
    rw [hd]
    go_enter Try.func43, Try.ntmps43
    go_wp2
    go_ret
    exact ⟨rfl, rfl⟩
  · have hd : (decide (0 ≤ n) && decide (n ≤ 14)) = false := by simp [h]
    rw [hd]
    go_enter Try.func43, Try.ntmps43
    go_wp2
    go_ret
    exact ⟨rfl, rfl⟩

set_option maxHeartbeats 1000000 in
theorem smay_any (x : Shf) (w : World) : Calls Try.prog 32 #[.agg x.cells] w fun e w' => e = .returned (.bool x.may) ∧ Ext w w' := by
  have hM : Hid (x.may = ((decide (0 ≤ x.fr) && decide (x.fr ≤ 14)) && (decide (0 ≤ x.to) && decide (x.to ≤ 14)) && decide (1 ≤ x.mss) && decide (x.mss ≤ 1460))) := rfl
  obtain ⟨sq, ak, sack, fr, to, mss⟩ := x
  dsimp only [Shf.cells] at *
  have h1 := fun (W : World) => may1_any fr W
  have h2 := fun (W : World) => may1_any to W
  generalize (decide (0 ≤ fr) && decide (fr ≤ 14)) = q1 at *
  generalize (decide (0 ≤ to) && decide (to ≤ 14)) = q2 at *
  have H1 := Lib.hid h1
  have H2 := Lib.hid h2
  clear h1 h2
  cases q1
  · go_enter Try.func32, Try.ntmps32
    go_wp2_with fail
    refine (H1.out _).mono ?_
    rintro e w1 ⟨rfl, rfl⟩
    go_wp2_with fail
    go_ret
    exact ⟨by rw [hM.out]; rfl, Ext.new _ _⟩
  cases q2
  · go_enter Try.func32, Try.ntmps32
    go_wp2_with fail
    refine (H1.out _).mono ?_
    rintro e w1 ⟨rfl, rfl⟩
    go_wp2_with fail
    refine (H2.out _).mono ?_
    rintro e w1 ⟨rfl, rfl⟩
    go_wp2_with fail
    go_ret
    exact ⟨by rw [hM.out]; rfl, Ext.new _ _⟩
  by_cases h3 : 1 ≤ mss
  · go_enter Try.func32, Try.ntmps32
    go_wp2_with fail
    refine (H1.out _).mono ?_
    rintro e w1 ⟨rfl, rfl⟩
    go_wp2_with fail
    refine (H2.out _).mono ?_
    rintro e w1 ⟨rfl, rfl⟩
    go_wp2_with fail
    go_ret
    exact ⟨by rw [hM.out, decide_eq_true h3]; rfl, Ext.new _ _⟩
  · go_enter Try.func32, Try.ntmps32
    go_wp2_with fail
    refine (H1.out _).mono ?_
    rintro e w1 ⟨rfl, rfl⟩
    go_wp2_with fail
    refine (H2.out _).mono ?_
    rintro e w1 ⟨rfl, rfl⟩
    go_wp2_with fail
    go_ret
    exact ⟨by rw [hM.out, decide_eq_false (by omega)]; rfl, Ext.new _ _⟩

theorem swin_any (x : Shf) (n : Int) (hn : 0 ≤ n ∧ n ≤ 65535) (w : World) : Calls Try.prog 45 #[.agg x.cells, .int .u16 n] w fun e w' => e = .returned (.int .u16 (x.win n)) ∧ Ext w w' := by
  have hW : Hid (x.win n = if x.may then (if 65535 < n * 2 ^ x.fr.toNat / 2 ^ x.to.toNat then 65535 else n * 2 ^ x.fr.toNat / 2 ^ x.to.toNat) else 0) := rfl
  have hm := fun (W : World) => smay_any x W
  have hb : x.may = true → (0 ≤ x.fr ∧ x.fr ≤ 14) ∧ (0 ≤ x.to ∧ x.to ≤ 14) := fun h => by simp [Shf.may] at h; omega
  obtain ⟨sq, ak, sack, fr, to, mss⟩ := x
  dsimp only [Shf.cells] at *
  generalize Shf.may ⟨sq, ak, sack, fr, to, mss⟩ = M at *
  have HM := Lib.hid hm
  clear hm
  have hx0 := Ext.new w (.cells #[.int .u32 sq, .int .u32 ak, .bool sack, .int .i64 fr, .int .i64 to, .int .i64 mss] 40)
  have k0 := heap_alloc_new w (.cells #[.int .u32 sq, .int .u32 ak, .bool sack, .int .i64 fr, .int .i64 to, .int .i64 mss] 40)
  go_enter Try.func45, Try.ntmps45
  go_wp2_with fail
  refine (HM.out _).mono ?_
  rintro e w1 ⟨rfl, hx1⟩
  have k1 := hx1.block k0
  have hx := hx0.tr hx1
  clear k0 hx0 hx1
  cases M
  · go_wp2_with fail
    go_ret
    exact ⟨by rw [hW.out]; rfl, hx⟩
  obtain ⟨⟨f0, f1⟩, t0, t1⟩ := hb rfl
  obtain ⟨f, rfl⟩ := Int.eq_ofNat_of_zero_le f0
  obtain ⟨t, rfl⟩ := Int.eq_ofNat_of_zero_le t0
  have e3 := cell_blk k1 3
  have e4 := cell_blk k1 4
  simp at e3 e4
  go_upto_region 3 with (fail)
  have hp1 : (2 : Int) ^ f ≤ 16384 := by
    have : 2 ^ f ≤ 2 ^ 14 := Nat.pow_le_pow_right (by decide) (by omega)
    have h2 : ((2 ^ f : Nat) : Int) = (2 : Int) ^ f := by simp
    rw [← h2]; omega
  have hp0 : (1 : Int) ≤ (2 : Int) ^ f := by
    have : 1 ≤ 2 ^ f := Nat.one_le_two_pow
    have h2 : ((2 ^ f : Nat) : Int) = (2 : Int) ^ f := by simp
    rw [← h2]; omega
  have ht0 : (1 : Int) ≤ (2 : Int) ^ t := by
    have : 1 ≤ 2 ^ t := Nat.one_le_two_pow
    have h2 : ((2 ^ t : Nat) : Int) = (2 : Int) ^ t := by simp
    rw [← h2]; omega
  have hmu : n * 2 ^ f ≤ 65535 * 16384 := Int.le_trans (Int.mul_le_mul_of_nonneg_left hp1 hn.1) (Int.mul_le_mul_of_nonneg_right hn.2 (by decide))
  have hmu0 : 0 ≤ n * 2 ^ f := Int.mul_nonneg hn.1 (by omega)
  have hw1 : IntKind.u64.wrap n = n := by rw [IntKind.wrap_u64]; omega
  have hw2 : IntKind.u64.wrap (n * 2 ^ f) = n * 2 ^ f := by rw [IntKind.wrap_u64]; omega
  have hq0 : 0 ≤ n * 2 ^ f / 2 ^ t := Int.ediv_nonneg hmu0 (by omega)
  simp only [Int.toNat_natCast] at hW
  obtain ⟨V, hV⟩ : ∃ V : Int, V = if 65535 < n * 2 ^ f / 2 ^ t then 65535 else n * 2 ^ f / 2 ^ t := ⟨_, rfl⟩
  have hVb : 0 ≤ V ∧ V ≤ 65535 := by rw [hV]; split <;> omega
  have hWV : Hid (Shf.win ⟨sq, ak, sack, f, t, mss⟩ n = V) := by unfold Hid; rw [hW.out, hV]; simp
  clear hb
  generalize hPe : n * 2 ^ f = P at *
  generalize hQe : P / 2 ^ t = Q at *
  by_cases hQ : 65535 < Q
  · obtain rfl : V = 65535 := by rw [hV, if_pos hQ]
    have hw3 : IntKind.u16.wrap 65535 = 65535 := rfl
    clear hV
    refine wp_region_grow [] lasts_nil (by kernel_rfl) (by kernel_rfl) ?_
    iterate 3
      apply wpL_none rfl rfl
      · intro w' hw' hn'; go_simp; exact rfl
      intro K hK; go_simp; refine hK _ _ ?_; clear hK K
    iterate 1
      apply wpL_none rfl rfl
      · intro w' hw' hn'; have e3 := Ext.cell hw' e3; go_simp; exact rfl
      intro K hK; go_simp; refine hK _ _ ?_; clear hK K
    iterate 1
      apply wpL_none rfl rfl
      · intro w' hw' hn'; go_simp; exact rfl
      intro K hK; go_simp; refine hK _ _ ?_; clear hK K
    iterate 1
      apply wpL_none rfl rfl
      · intro w' hw' hn'; go_simp; exact rfl
      intro K hK; go_simp; refine hK _ _ ?_; clear hK K
    iterate 1
      apply wpL_none rfl rfl
      · intro w' hw' hn'; have e4 := Ext.cell hw' e4; go_simp; exact rfl
      intro K hK; go_simp; refine hK _ _ ?_; clear hK K
    iterate 1
      apply wpL_none rfl rfl
      · intro w' hw' hn'; go_simp; exact rfl
      intro K hK; go_simp; refine hK _ _ ?_; clear hK K
    iterate 1
      apply wpL_none rfl rfl
      · intro w' hw' hn'; go_simp; exact rfl
      intro K hK; go_simp; refine hK _ _ ?_; clear hK K
    iterate 1
      apply wpL_none rfl rfl
      · intro w' hw' hn'; go_simp; exact rfl
      intro K hK; go_simp; refine hK _ _ ?_; clear hK K
    iterate 1
      apply wpL_none rfl rfl
      · intro w' hw' hn'; go_simp; exact rfl
      intro K hK; go_simp; refine hK _ _ ?_; clear hK K
    refine wpL_nil ?_
    intro w2 hx2 _
    go_wp2_with fail
    go_ret
    exact ⟨by rw [hWV.out]; rfl, hx.tr hx2⟩
  · obtain rfl : V = Q := by rw [hV, if_neg hQ]
    have hw3 : IntKind.u16.wrap V = V := by rw [IntKind.wrap_u16]; omega
    clear hV
    refine wp_region_grow [] lasts_nil (by kernel_rfl) (by kernel_rfl) ?_
    iterate 3
      apply wpL_none rfl rfl
      · intro w' hw' hn'; go_simp; exact rfl
      intro K hK; go_simp; refine hK _ _ ?_; clear hK K
    iterate 1
      apply wpL_none rfl rfl
      · intro w' hw' hn'; have e3 := Ext.cell hw' e3; go_simp; exact rfl
      intro K hK; go_simp; refine hK _ _ ?_; clear hK K
    iterate 1
      apply wpL_none rfl rfl
      · intro w' hw' hn'; go_simp; exact rfl
      intro K hK; go_simp; refine hK _ _ ?_; clear hK K
    iterate 1
      apply wpL_none rfl rfl
      · intro w' hw' hn'; go_simp; exact rfl
      intro K hK; go_simp; refine hK _ _ ?_; clear hK K
    iterate 1
      apply wpL_none rfl rfl
      · intro w' hw' hn'; have e4 := Ext.cell hw' e4; go_simp; exact rfl
      intro K hK; go_simp; refine hK _ _ ?_; clear hK K
    iterate 1
      apply wpL_none rfl rfl
      · intro w' hw' hn'; go_simp; exact rfl
      intro K hK; go_simp; refine hK _ _ ?_; clear hK K
    iterate 1
      apply wpL_none rfl rfl
      · intro w' hw' hn'; go_simp; exact rfl
      intro K hK; go_simp; refine hK _ _ ?_; clear hK K
    iterate 1
      apply wpL_none rfl rfl
      · intro w' hw' hn'; go_simp; exact rfl
      intro K hK; go_simp; refine hK _ _ ?_; clear hK K
    iterate 1
      apply wpL_none rfl rfl
      · intro w' hw' hn'; go_simp; exact rfl
      intro K hK; go_simp; refine hK _ _ ?_; clear hK K
    refine wpL_nil ?_
    intro w2 hx2 _
    go_wp2_with fail
    go_ret
    exact ⟨by rw [hWV.out]; rfl, hx.tr hx2⟩
end Go.Proofs.Ytgbbpibcmpeneaa
