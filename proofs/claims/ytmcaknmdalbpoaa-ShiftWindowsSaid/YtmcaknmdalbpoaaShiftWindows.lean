/-
  Proved here: the law ShiftWindows returns true.
-/
import Derived.Test.YtmcaknmdalbpoaaShX
namespace Go.Proofs.Ytmcaknmdalbpoaa.shiftWindows
set_option maxRecDepth 16000
open Go.ChangeShapes Go.WideShapes Go.ChangeAt Go.RowKit Go.Cul Go.Loose
set_option linter.unusedVariables false
attribute [local go_sem] Loose.Still Loose.Upon

set_option maxHeartbeats 2000000 in
set_option maxRecDepth 100000 in
theorem walk (w : World) (cs : Array Value) (h0 : Reads w shfSh cs.toList) (n : Int) (hn : 0 ≤ n ∧ n ≤ 65535) (m : Int) (hm : 0 ≤ m ∧ m ≤ 65535) :
    Calls Try.prog 4 #[.agg cs, .int .u16 n, .int .u16 m] w fun e w' => e = .returned (.bool true) ∧ Ext w w' := by
  obtain ⟨x, rfl, hx⟩ := open_shift h0
  clear h0
  have hmay := Lib.hid (fun (W : World) => smay_any x W)
  have hwn := Lib.hid (fun (W : World) => swin_any x n hn W)
  have hwm := Lib.hid (fun (W : World) => swin_any x m hm W)
  have hx0 := Ext.new w (.cells x.cells 24)
  have k3 := heap_alloc_new w (.cells x.cells 24)
  go_enter Try.func4, Try.ntmps4
  go_wp2_with fail
  refine (hmay.out _).mono ?_
  rintro e w1 ⟨rfl, hx1⟩
  have k3 := hx1.block k3
  have hx := hx0.tr hx1
  clear hx0 hx1
  rcases hM : x.may with _ | _
  · have hw0 : x.win n = 0 := by unfold Shf.win; rw [if_neg (by rw [hM]; simp)]
    rw [hw0] at hwn
    clear hM hw0
    go_wp2_with fail
    refine (wakes25_any _).mono ?_
    rintro e w2 ⟨rfl, hx2⟩
    have k3 := hx2.block k3
    have e0 := cell_blk k3 0
    have e1 := cell_blk k3 1
    have e2 := cell_blk k3 2
    have e3 := cell_blk k3 3
    have e4 := cell_blk k3 4
    have e5 := cell_blk k3 5
    simp at e0 e1 e2 e3 e4 e5
    go_wp2_with fail
    refine (hwn.out _).mono ?_
    rintro e w3 ⟨rfl, hx3⟩
    go_wp2_with fail
    go_ret
    exact ⟨rfl, hx.tr (hx2.tr hx3)⟩
  obtain ⟨f, t, hf, ht, hf1, ht1, hV⟩ := win_laws hM hn
  obtain ⟨f', t', hf', ht', -, -, hV'⟩ := win_laws hM hm
  obtain rfl : f' = f := by omega
  obtain rfl : t' = t := by omega
  have L1 := win_le hn.1 f' t'
  have L2 := fun h : n ≤ m => win_mono h f' t'
  have L3 := win_near (n := n) f' t'
  rw [← hV] at L1 L3
  rw [← hV, ← hV'] at L2
  have hVb := win_bd x hn
  have hVb' := win_bd x hm
  have hp : ∀ j : Nat, j ≤ 14 → (1 : Int) ≤ 2 ^ j ∧ (2 : Int) ^ j ≤ 16384 := fun j hj => by
    have h1 : 2 ^ j ≤ 2 ^ 14 := Nat.pow_le_pow_right (by decide) hj
    have h0 : 1 ≤ 2 ^ j := Nat.one_le_two_pow
    have h2 : ((2 ^ j : Nat) : Int) = (2 : Int) ^ j := by simp
    rw [← h2]; omega
  obtain ⟨pf0, pf1⟩ := hp f' hf1
  obtain ⟨pt0, pt1⟩ := hp t' ht1
  have hmu : n * 2 ^ f' ≤ 65535 * 16384 := Int.le_trans (Int.mul_le_mul_of_nonneg_left pf1 hn.1) (Int.mul_le_mul_of_nonneg_right hn.2 (by decide))
  have hmu0 : 0 ≤ n * 2 ^ f' := Int.mul_nonneg hn.1 (by omega)
  generalize hVe : x.win n = V at *
  generalize x.win m = V' at *
  have hnu : V * 2 ^ t' ≤ 65535 * 16384 := Int.le_trans (Int.mul_le_mul_of_nonneg_left pt1 hVb.1) (Int.mul_le_mul_of_nonneg_right hVb.2 (by decide))
  have hnu0 : 0 ≤ V * 2 ^ t' := Int.mul_nonneg hVb.1 (by omega)
  have hw1 : IntKind.u64.wrap n = n := by rw [IntKind.wrap_u64]; omega
  have hw2 : IntKind.u64.wrap (n * 2 ^ f') = n * 2 ^ f' := by rw [IntKind.wrap_u64]; omega
  have hw3 : IntKind.u64.wrap V = V := by rw [IntKind.wrap_u64]; omega
  have hw4 : IntKind.u64.wrap (V * 2 ^ t') = V * 2 ^ t' := by rw [IntKind.wrap_u64]; omega
  have e0 := cell_blk k3 0
  have e1 := cell_blk k3 1
  have e2 := cell_blk k3 2
  have e3 := cell_blk k3 3
  have e4 := cell_blk k3 4
  have e5 := cell_blk k3 5
  simp at e0 e1 e2 e3 e4 e5
  rw [hf] at e3
  rw [ht] at e4
  go_upto_region 3 with (fail)
  have hxf := x.fr
  generalize hPe : n * 2 ^ f' = P at *
  generalize hTe : V * 2 ^ t' = T at *
  have HV := Lib.hid hV
  have HL1 := Lib.hid L1
  have HL2 := Lib.hid L2
  have HL3 := Lib.hid L3
  clear hV hV' L1 L2 L3
  have hwn2 := hwn.out
  dsimp only [Shf.cells] at hwn2
  rw [hf, ht] at hwn2
  have HWN := Lib.hid hwn2
  clear hwn2 hxf
  refine wp_region_grow [(7, Loose.is (.int .u16 V))] (lasts_is lasts_nil) (by kernel_rfl) (by kernel_rfl) ?_
  iterate 3
    apply wpL_none rfl rfl
    · intro w' hw' hn'; go_simp; exact rfl
    intro K hK; go_simp; refine hK _ _ ?_; clear hK K
  iterate 1
    apply wpL_none rfl rfl
    · intro w' hw' hn'; have e3 := Ext.cell hw' e3; go_simp; exact rfl
    intro K hK; go_simp; refine hK _ _ ?_; clear hK K
  iterate 1
    apply wpL_none rfl rfl
    · intro w' hw' hn'; go_simp; exact rfl
    intro K hK; go_simp; refine hK _ _ ?_; clear hK K
  iterate 1
    apply wpL_none rfl rfl
    · intro w' hw' hn'; have e0 := Ext.cell hw' e0; have e1 := Ext.cell hw' e1; have e2 := Ext.cell hw' e2; have e3 := Ext.cell hw' e3; have e4 := Ext.cell hw' e4; have e5 := Ext.cell hw' e5; go_simp; exact rfl
    intro K hK; go_simp; refine hK _ _ ?_; clear hK K
  iterate 1
    apply wpL_none rfl rfl
    · intro w' hw' hn'; go_simp; exact rfl
    intro K hK; go_simp; refine hK _ _ ?_; clear hK K
  apply wpL_some rfl rfl
  · intro w' hw' hn'
    go_simp
    refine ⟨Ext.rfl' _, ?_⟩
    refine (HWN.out _).mono ?_
    rintro e w4 ⟨rfl, hx4⟩
    exact ⟨_, rfl, hx4, rfl⟩
  intro v w' hw' hD' hv
  obtain rfl : v = _ := hv
  clear hw' hD' w'
  intro K hK; go_simp; refine hK _ _ ?_; clear hK K
  iterate 2
    apply wpL_none rfl rfl
    · intro w' hw' hn'; go_simp; exact rfl
    intro K hK; go_simp; refine hK _ _ ?_; clear hK K
  iterate 1
    apply wpL_none rfl rfl
    · intro w' hw' hn'; have e4 := Ext.cell hw' e4; go_simp; exact rfl
    intro K hK; go_simp; refine hK _ _ ?_; clear hK K
  iterate 1
    apply wpL_none rfl rfl
    · intro w' hw' hn'; go_simp; exact rfl
    intro K hK; go_simp; refine hK _ _ ?_; clear hK K
  iterate 2
    apply wpL_none rfl rfl
    · intro w' hw' hn'; go_simp; exact rfl
    intro K hK; go_simp; refine hK _ _ ?_; clear hK K
  refine wpL_nil ?_
  intro w3 hx3 _
  have hTP : T ≤ P := HL1.out
  have hx3 : Ext w1 w3 := hx3
  have k3 := hx3.block k3
  have e0 := hx3.cell e0
  have e1 := hx3.cell e1
  have e2 := hx3.cell e2
  have e3 := hx3.cell e3
  have e4 := hx3.cell e4
  have e5 := hx3.cell e5
  have hx := hx.tr hx3
  clear hx3
  have hwm2 := hwm.out
  dsimp only [Shf.cells] at hwm2
  rw [hf, ht] at hwm2
  have HWM := Lib.hid hwm2
  clear hwm2
  go_upto_region 4 with (fail)
  have hgt : decide (P < T) = false := decide_eq_false (by omega)
  go_cut [47] from 9 (fun v wc => v = .bool false ∧ Ext w3 wc)
  case first =>
    by_cases hnm : n ≤ m
    · have hvv : decide (V' < V) = false := decide_eq_false (by have := HL2.out hnm; omega)
      have hle : decide (n ≤ m) = true := decide_eq_true hnm
      refine wp_region_grow [(10, Loose.is (.int .u16 V)), (13, Loose.is (.int .u16 V'))] (lasts_is (lasts_is lasts_nil)) (by kernel_rfl) (by kernel_rfl) ?_
      iterate 2
        apply wpL_none rfl rfl
        · intro w' hw' hn'; go_simp; exact rfl
        intro K hK; go_simp; refine hK _ _ ?_; clear hK K
      iterate 1
        apply wpL_none rfl rfl
        · intro w' hw' hn'; go_simp; exact rfl
        intro K hK; go_simp; refine hK _ _ ?_; clear hK K
      iterate 3
        apply wpL_none rfl rfl
        · intro w' hw' hn'; go_simp; exact rfl
        intro K hK; go_simp; refine hK _ _ ?_; clear hK K
      iterate 1
        apply wpL_none rfl rfl
        · intro w' hw' hn'; go_simp; exact rfl
        intro K hK; go_simp; refine hK _ _ ?_; clear hK K
      iterate 1
        apply wpL_none rfl rfl
        · intro w' hw' hn'; go_simp; exact rfl
        intro K hK; go_simp; refine hK _ _ ?_; clear hK K
      iterate 1
        apply wpL_none rfl rfl
        · intro w' hw' hn'; have e0 := Ext.cell hw' e0; have e1 := Ext.cell hw' e1; have e2 := Ext.cell hw' e2; have e3 := Ext.cell hw' e3; have e4 := Ext.cell hw' e4; have e5 := Ext.cell hw' e5; go_simp; exact rfl
        intro K hK; go_simp; refine hK _ _ ?_; clear hK K
      iterate 1
        apply wpL_none rfl rfl
        · intro w' hw' hn'; go_simp; exact rfl
        intro K hK; go_simp; refine hK _ _ ?_; clear hK K
      apply wpL_some rfl rfl
      · intro w' hw' hn'
        go_simp
        refine ⟨Ext.rfl' _, ?_⟩
        refine (HWN.out _).mono ?_
        rintro e w4 ⟨rfl, hx4⟩
        exact ⟨_, rfl, hx4, rfl⟩
      intro v w' hw' hD' hv
      obtain rfl : v = _ := hv
      clear hw' hD' w'
      intro K hK; go_simp; refine hK _ _ ?_; clear hK K
      iterate 1
        apply wpL_none rfl rfl
        · intro w' hw' hn'; have e0 := Ext.cell hw' e0; have e1 := Ext.cell hw' e1; have e2 := Ext.cell hw' e2; have e3 := Ext.cell hw' e3; have e4 := Ext.cell hw' e4; have e5 := Ext.cell hw' e5; go_simp; exact rfl
        intro K hK; go_simp; refine hK _ _ ?_; clear hK K
      iterate 1
        apply wpL_none rfl rfl
        · intro w' hw' hn'; go_simp; exact rfl
        intro K hK; go_simp; refine hK _ _ ?_; clear hK K
      apply wpL_some rfl rfl
      · intro w' hw' hn'
        go_simp
        refine ⟨Ext.rfl' _, ?_⟩
        refine (HWM.out _).mono ?_
        rintro e w4 ⟨rfl, hx4⟩
        exact ⟨_, rfl, hx4, rfl⟩
      intro v w' hw' hD' hv
      obtain rfl : v = _ := hv
      clear hw' hD' w'
      intro K hK; go_simp; refine hK _ _ ?_; clear hK K
      iterate 1
        apply wpL_none rfl rfl
        · intro w' hw' hn'; go_simp; exact rfl
        intro K hK; go_simp; refine hK _ _ ?_; clear hK K
      iterate 2
        apply wpL_none rfl rfl
        · intro w' hw' hn'; go_simp; exact rfl
        intro K hK; go_simp; refine hK _ _ ?_; clear hK K
      refine wpL_nil ?_
      intro w5 hx5 _
      go_wp2_with fail
      go_meet
      case rel => exact ⟨rfl, hx5⟩
    · have hle : decide (n ≤ m) = false := decide_eq_false hnm
      refine wp_region_grow [] lasts_nil (by kernel_rfl) (by kernel_rfl) ?_
      iterate 2
        apply wpL_none rfl rfl
        · intro w' hw' hn'; go_simp; exact rfl
        intro K hK; go_simp; refine hK _ _ ?_; clear hK K
      iterate 1
        apply wpL_none rfl rfl
        · intro w' hw' hn'; go_simp; exact rfl
        intro K hK; go_simp; refine hK _ _ ?_; clear hK K
      iterate 3
        apply wpL_none rfl rfl
        · intro w' hw' hn'; go_simp; exact rfl
        intro K hK; go_simp; refine hK _ _ ?_; clear hK K
      iterate 1
        apply wpL_none rfl rfl
        · intro w' hw' hn'; go_simp; exact rfl
        intro K hK; go_simp; refine hK _ _ ?_; clear hK K
      iterate 1
        apply wpL_none rfl rfl
        · intro w' hw' hn'; go_simp; exact rfl
        intro K hK; go_simp; refine hK _ _ ?_; clear hK K
      iterate 7
        with_reducible refine wpL_skip ?_ ?_
        · rfl
        intro K hK; go_simp; refine hK _ _ ?_; clear hK K
      iterate 2
        apply wpL_none rfl rfl
        · intro w' hw' hn'; go_simp; exact rfl
        intro K hK; go_simp; refine hK _ _ ?_; clear hK K
      refine wpL_nil ?_
      intro w5 hx5 _
      go_wp2_with fail
      go_meet
      case rel => exact ⟨rfl, hx5⟩
  obtain ⟨rfl, hx4⟩ := hcut
  have hx := hx.tr hx4
  have k3 := hx4.block k3
  clear e0 e1 e2 e3 e4 e5 hx4 hgt
  obtain ⟨W4, rfl⟩ : ∃ W : World, W = wc := ⟨_, rfl⟩
  have e0 := cell_blk k3 0
  have e1 := cell_blk k3 1
  have e2 := cell_blk k3 2
  have e3 := cell_blk k3 3
  have e4 := cell_blk k3 4
  have e5 := cell_blk k3 5
  simp at e0 e1 e2 e3 e4 e5
  rw [hf] at e3
  rw [ht] at e4
  go_upto_region 6 with (fail)
  by_cases hQ : P / 2 ^ t' ≤ 65535
  · have hlt : P - T < 2 ^ t' := HL3.out hQ
    have hw5 : IntKind.u64.wrap (P - T) = P - T := by rw [IntKind.wrap_u64]; omega
    have hw6 : IntKind.u64.wrap (2 ^ t') = 2 ^ t' := by rw [IntKind.wrap_u64]; omega
    have HLT := Lib.hid hlt
    clear hlt
    go_wp2_with fail
    refine (wakes25_any _).mono ?_
    rintro e w5 ⟨rfl, hx5⟩
    have k3 := hx5.block k3
    clear e0 e1 e2 e3 e4 e5
    have e4 := cell_blk k3 4
    simp at e4
    rw [ht] at e4
    have hlt := HLT.out
    go_wp2_with fail
    go_ret
    exact ⟨rfl, hx.tr hx5⟩
  · have hV5 : V = 65535 := by rw [HV.out, if_pos (by omega)]
    subst hV5
    go_wp2_with fail
    refine (wakes25_any _).mono ?_
    rintro e w5 ⟨rfl, hx5⟩
    have k3 := hx5.block k3
    clear e0 e1 e2 e3 e4 e5
    have e0 := cell_blk k3 0
    have e1 := cell_blk k3 1
    have e2 := cell_blk k3 2
    have e3 := cell_blk k3 3
    have e4 := cell_blk k3 4
    have e5 := cell_blk k3 5
    simp at e0 e1 e2 e3 e4 e5
    rw [hf] at e3
    rw [ht] at e4
    go_wp2_with fail
    refine (HWN.out _).mono ?_
    rintro e w6 ⟨rfl, hx6⟩
    go_wp2_with fail
    go_ret
    exact ⟨rfl, hx.tr (hx5.tr hx6)⟩
end Go.Proofs.Ytmcaknmdalbpoaa.shiftWindows
