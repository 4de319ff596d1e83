/-
  Proved here: culvertlaw09's awake returns true.
-/
import Derived.Test.YtbaidlkjbdeceaaPkX
namespace Go.Proofs.Ytbaidlkjbdeceaa
set_option maxRecDepth 200000
open Go.ChangeShapes Go.WideShapes Go.ChangeAt Go.RowKit Go.Cul Go.Loose
set_option linter.unusedVariables false
attribute [local go_sem] Loose.Still Loose.Upon Loose.vUpon First.pUpon

/-- The document's example, as bytes. -/
abbrev synB : List Int := [69, 0, 0, 40, 0, 0, 64, 0, 64, 6, 58, 206, 0, 0, 0, 1, 0, 0, 0, 2, 0, 3, 0, 4, 0, 0, 0, 0, 0, 0, 0, 0, 80, 2, 0, 0, 175, 217, 0, 0]
abbrev oddP : Pk := ⟨⟨0, 0, true, 64, 17, 1, 2, []⟩, synG, Dg.none, Ms.none⟩
theorem syn_put : pput synP = (synB, 0) := by decide +kernel
theorem odd_put : pput oddP = ([], 1) := by decide +kernel
theorem syn_par : ppar synB = (synP, 0) := by kernel_rfl
theorem syn_err : ierr synB = 0 := by decide +kernel
theorem syn_pro : (ihead synB).proto = 6 := by decide +kernel
theorem synB_byt : Byt synB := byt_of rfl
theorem hd_syn : (ownP 1 2 6).h.ok := ⟨by decide, by decide, by decide, by decide, by decide, by decide, byt0⟩
theorem sg_syn : synG.ok := ⟨by decide, by decide, by decide, by decide, by decide, by decide, by decide, (fun o h => by cases h), byt0⟩
theorem syn_ok : synP.ok := ⟨hd_syn, byt0, sg_syn, dg0, ms0⟩
theorem odd_ok : oddP.ok := ⟨⟨by decide, by decide, by decide, by decide, by decide, by decide, byt0⟩, byt0, sg_syn, dg0, ms0⟩
theorem syn_r (w : World) : PkR w synP nos9 nos9 nos9 nos9 nos9 := ⟨Rd.nil _ _, RdO.nil _, Rd.nil _ _, Rd.nil _ _, Rd.nil _ _⟩
theorem odd_r (w : World) : PkR w oddP nos9 nos9 nos9 nos9 nos9 := ⟨Rd.nil _ _, RdO.nil _, Rd.nil _ _, Rd.nil _ _, Rd.nil _ _⟩
theorem syn_len : synP.len := ⟨by decide, by decide, by decide, by decide⟩
theorem odd_len : oddP.len := ⟨by decide, by decide, by decide, by decide⟩
theorem syn_put_any (w : World) : Calls Try.prog 7 #[.agg (synP.cells nos9 nos9 nos9 nos9 nos9)] w fun e w' => ∃ a c, e = .returned (.tuple #[.slice a 40 c, .int .i64 0]) ∧ Rd .u8 w' (.slice a 40 c) synB ∧ Ext w w' := by
  refine (pput_any synP nos9 nos9 nos9 nos9 nos9 w syn_ok (syn_r w) syn_len).mono ?_
  rintro e w' ⟨u, rfl, hu, hx⟩
  rw [syn_put] at hu ⊢
  have hr := hu.rd
  obtain ⟨a, c, rfl, -⟩ := id hr
  exact ⟨a, c, rfl, hr, hx⟩
theorem odd_put_any (w : World) : Calls Try.prog 7 #[.agg (oddP.cells nos9 nos9 nos9 nos9 nos9)] w fun e w' => ∃ a n c, e = .returned (.tuple #[.slice a n c, .int .i64 1]) ∧ Ext w w' := by
  refine (pput_any oddP nos9 nos9 nos9 nos9 nos9 w odd_ok (odd_r w) odd_len).mono ?_
  rintro e w' ⟨u, rfl, hu, hx⟩
  rw [odd_put] at hu ⊢
  obtain ⟨a, n, c, rfl⟩ := hu.rd.shape
  exact ⟨a, n, c, rfl, hx⟩
theorem syn_parse_any (bv : Value) (w : World) (hv : Rd .u8 w bv synB) : Calls Try.prog 16 #[bv] w fun e w' => ∃ a1 n1 c1 a2 n2 c2 a3 n3 c3, e = .returned (.tuple #[.agg (synP.cells (.slice a1 n1 c1) (.slice a2 n2 c2) (.slice a3 n3 c3) nos9 nos9), .int .i64 0]) ∧ PkR w' synP (.slice a1 n1 c1) (.slice a2 n2 c2) (.slice a3 n3 c3) nos9 nos9 ∧ Ext w w' := by
  refine (pparse_any bv synB w hv synB_byt (by decide) (fun _ _ => syn_pro)).mono ?_
  rintro e w' ⟨a1, n1, c1, a2, n2, c2, a3, n3, c3, rfl, h1, h2, h3, hx⟩
  rw [syn_par] at h1 h2 h3 ⊢
  exact ⟨a1, n1, c1, a2, n2, c2, a3, n3, c3, rfl, ⟨h1, h2, h3, Rd.nil _ _, Rd.nil _ _⟩, hx⟩
theorem syn_same_any (vh vo vg : Value) (w : World) (r : PkR w synP vh vo vg nos9 nos9) : Calls Try.prog 21 #[.agg (synP.cells vh vo vg nos9 nos9), .agg (synP.cells nos9 nos9 nos9 nos9 nos9)] w fun e w' => e = .returned (.bool true) ∧ Ext w w' := by
  refine (psame_any synP synP vh vo vg nos9 nos9 nos9 nos9 nos9 nos9 nos9 w syn_ok syn_ok r (syn_r w)).mono ?_
  rintro e w' ⟨rfl, hx⟩
  exact ⟨by rw [(psame_iff synP synP).2 rfl], hx⟩
theorem odd_set (vh vo vg vd vm : Value) : (synP.cells vh vo vg vd vm).setIfInBounds 4 (.int .u8 17) = oddP.cells vh vo vg vd vm := rfl

set_option maxHeartbeats 8000000
set_option maxRecDepth 100000
theorem awake9_any (w : World) : Calls Try.prog 8 #[] w fun e w' => e = .returned (.bool true) ∧ Ext w w' := by
  go_enter Try.func8, Try.ntmps8
  go_wp2_with fail
  refine (syn_any w).mono ?_
  rintro e w1 ⟨rfl, hx⟩
  go_wp2_with fail
  refine (syn_put_any w1).mono ?_
  rintro e w2 ⟨ab, cb, rfl, rb, hx2⟩
  have hx := hx.tr hx2
  clear hx2
  go_wp2_with fail
  refine (syn_parse_any _ w2 rb).mono ?_
  rintro e w3 ⟨a1, n1, c1, a2, n2, c2, a3, n3, c3, rfl, rp, hx3⟩
  have hx := hx.tr hx3
  clear hx3 rb
  go_upto_region 3 with (refine wpList_put_row 35 w3.heap.size _ (synP.cells (.slice a1 n1 c1) (.slice a2 n2 c2) (.slice a3 n3 c3) nos9 nos9) _ rfl rfl (heap_alloc_new _ _) (by kernel_rfl) rfl (pk_one9 _ _ _ _ _ _ _ _ _ _ _ _ _ _ _ _) ?_; intro w4 k3 m4)
  have hx4 := m4.ext (Ext.new w3 _) (fun j hj => by omega)
  have hx := hx.tr hx4
  have RP := Lib.hid (rp.ext hx4)
  generalize w3.heap.size = b3 at *
  clear m4 hx4 rp
  try simp only [Act.put]
  go_wp2_with fail
  refine (syn_any w4).mono ?_
  rintro e w5 ⟨rfl, hx5⟩
  have hx := hx.tr hx5
  have k3 := hx5.block k3
  have RP := Lib.hid (RP.out.ext hx5)
  clear hx5
  have hb3 := lt_of_block k3
  go_upto_region 4 with (refine wpList_put_row 35 w5.heap.size _ (synP.cells nos9 nos9 nos9 nos9 nos9) _ rfl rfl (heap_alloc_new _ _) (by kernel_rfl) rfl (pk_one9 _ _ _ _ _ _ _ _ _ _ _ _ _ _ _ _) ?_; intro w6 k5 m6)
  have hx6 := m6.ext (Ext.new w5 _) (fun j hj => by omega)
  have hb5 : w5.heap.size < w6.heap.size := lt_of_block k5
  have HX5 := Lib.hid hx6
  have k3 := hx6.block k3
  generalize hB5 : w5.heap.size = b5 at *
  clear m6 hx6
  try simp only [Act.put]
  refine wp_region_lit ?_
  iterate 2
    refine wpList_plain rfl (fun K1 hK1 => ?_)
    go_simp
    refine hK1 _ _ ?_
    clear hK1 K1
  refine wpList_put_cell 5 b5 4 _ _ (.int .u8 17) rfl rfl k5 (by kernel_rfl) (by show 4 < 24; decide) rfl rfl ?_
  intro w7 k5' m7
  rw [odd_set] at k5'
  refine wpList_nil ?_
  have hxx : Ext w5 w7 := m7.ext HX5.out (fun j hj => by omega)
  have k3 := m7.keep k3 (by omega)
  have hx := hx.tr hxx
  have RP := Lib.hid (RP.out.ext hxx)
  clear m7 hxx HX5 k5
  simp only [Act.put]
  go_wp2_with (refine wpList_load_bigG 35 b5 _ _ _ rfl k5' rfl Try.underlying35 rfl (by kernel_rfl) ?_; simp only [Act.put, List.setIfInBounds_toArray, List.set_cons_succ, List.set_cons_zero])
  refine (odd_put_any w7).mono ?_
  rintro e w8 ⟨ao, no, co, rfl, hx8⟩
  have hx := hx.tr hx8
  have k3 := hx8.block k3
  have RP := Lib.hid (RP.out.ext hx8)
  clear hx8 k5'
  go_upto_region 6 with (fail)
  have e9 := cell_blk k3 9
  simp at e9
  have HK3 := Lib.hid k3
  clear k3
  refine wp_region_grow [(8, Loose.is (.agg (synP.cells nos9 nos9 nos9 nos9 nos9))), (9, Loose.is (.bool true))] (lasts_is (lasts_is lasts_nil)) (by kernel_rfl) (by kernel_rfl) ?_
  iterate 7
    apply wpL_none rfl rfl
    · intro w' hw' hn'; go_simp; exact rfl
    intro K hK; go_simp; refine hK _ _ ?_; clear hK K
  apply wpL_none rfl rfl
  · intro w' hw' hn'
    exact still_load 35 _ rfl b3 _ rfl (synP.cells (.slice a1 n1 c1) (.slice a2 n2 c2) (.slice a3 n3 c3) nos9 nos9) _ (fun j v hv => by rw [Nat.zero_add, cell_blk (Ext.block hw' HK3.out)]; simpa using hv) Try.underlying35 rfl (by kernel_rfl)
  intro K hK; go_simp; refine hK _ _ ?_; clear hK K
  apply wpL_some rfl rfl
  · intro w' hw' hn'
    go_simp
    refine ⟨Ext.rfl' _, ?_⟩
    refine ((syn_any w')).mono ?_
    rintro e w2 ⟨rfl, hx⟩
    exact ⟨_, rfl, hx, rfl⟩
  intro v w' hw' hD' hv
  obtain rfl : v = _ := hv
  clear hw' hD' w'
  intro K hK; go_simp; refine hK _ _ ?_; clear hK K
  apply wpL_some rfl rfl
  · intro w' hw' hn'
    go_simp
    refine ⟨Ext.rfl' _, ?_⟩
    refine ((syn_same_any _ _ _ w' (RP.out.ext hw'))).mono ?_
    rintro e w2 ⟨rfl, hx⟩
    exact ⟨_, rfl, hx, rfl⟩
  intro v w' hw' hD' hv
  obtain rfl : v = _ := hv
  clear hw' hD' w'
  intro K hK; go_simp; refine hK _ _ ?_; clear hK K
  iterate 9
    apply wpL_none rfl rfl
    · intro w' hw' hn'; go_simp; exact rfl
    intro K hK; go_simp; refine hK _ _ ?_; clear hK K
  iterate 1
    apply wpL_none rfl rfl
    · intro w' hw' hn'; have e9 := Ext.cell hw' e9; go_simp; exact rfl
    intro K hK; go_simp; refine hK _ _ ?_; clear hK K
  iterate 7
    apply wpL_none rfl rfl
    · intro w' hw' hn'; go_simp; exact rfl
    intro K hK; go_simp; refine hK _ _ ?_; clear hK K
  refine wpL_nil ?_
  intro w9 hx9 _
  have hx9 : Ext w8 w9 := hx9
  go_wp2_with fail
  go_ret
  exact ⟨rfl, hx.tr hx9⟩
end Go.Proofs.Ytbaidlkjbdeceaa
