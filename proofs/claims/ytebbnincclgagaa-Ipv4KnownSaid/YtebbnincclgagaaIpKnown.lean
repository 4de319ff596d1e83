/-
  Proved here: the closed law Ipv4Known returns true. No condition.
-/
import Derived.Test.YtebbnincclgagaaIpW
import Derived.Deep.Cut
namespace Go.Proofs.Ytebbnincclgagaa.ipv4Known
set_option maxRecDepth 16000
open Go.ChangeShapes Go.WideShapes Go.ChangeAt Go.RowKit Go.Cul Go.Loose
set_option linter.unusedVariables false
attribute [local go_sem] Loose.Still Loose.Upon

theorem byt_set {l : List Int} (h : Byt l) (i : Nat) {x : Int} (hx : 0 ≤ x ∧ x ≤ 255) : Byt (l.set i x) := fun y hy => by
  rcases List.mem_or_eq_of_mem_set hy with h' | rfl
  · exact h y h'
  · exact hx

abbrev base22 : List Int := [69, 0, 0, 22, 0, 0, 0, 0, 9, 6, 177, 227, 0, 0, 0, 0, 0, 0, 0, 0, 1, 2]
/-- The bytes with a word another, and the field with it. -/
def spA (at_ : Nat) (is : Int) : List Int := (base22.set at_ (is / 256)).set (at_ + 1) (is % 256)
def spN (at_ : Nat) (was is : Int) : Int := cword ((spA at_ is).getD 10 0 * 256 + (spA at_ is).getD 11 0) was is
def spo (at_ : Nat) (was is : Int) : List Int := ((spA at_ is).set 10 (spN at_ was is / 256)).set 11 (spN at_ was is % 256)

set_option maxHeartbeats 1000000 in
set_option maxRecDepth 100000 in
theorem spoilt_any (at_ : Nat) (hat : at_ + 1 < 22) (was is : Int) (hwas : 0 ≤ was ∧ was ≤ 65535) (his : 0 ≤ is ∧ is ≤ 65535) (n : Int) (he : ierr (spo at_ was is) = n) (w : World) :
    Calls Try.prog 10 #[.int .i64 at_, .int .u16 was, .int .u16 is] w fun e w' => e = .returned (.int .i64 n) ∧ Ext w w' := by
  have hA : Hid (spA at_ is = (base22.set at_ (is / 256)).set (at_ + 1) (is % 256)) := rfl
  have hN : Hid (spN at_ was is = cword ((spA at_ is).getD 10 0 * 256 + (spA at_ is).getD 11 0) was is) := rfl
  have hS : Hid (spo at_ was is = ((spA at_ is).set 10 (spN at_ was is / 256)).set 11 (spN at_ was is % 256)) := rfl
  have hb0 : Byt base22 := byt_of rfl
  have hAb : Byt (spA at_ is) := byt_set (byt_set hb0 _ (by omega)) _ (by omega)
  have hAl : (spA at_ is).length = 22 := by unfold spA; simp
  have hNb : 0 ≤ spN at_ was is ∧ spN at_ was is ≤ 65535 := by
    unfold spN cword
    have := fold16_bd (n := (65535 - ((spA at_ is).getD 10 0 * 256 + (spA at_ is).getD 11 0)) + (65535 - was) + is) (by have := hAb.at 10; have := hAb.at 11; omega)
    omega
  have hSb : Byt (spo at_ was is) := byt_set (byt_set hAb _ (by omega)) _ (by omega)
  have hSl : (spo at_ was is).length = 22 := by unfold spo; simp [hAl]
  have hA10 := hAb.at 10
  have hA11 := hAb.at 11
  obtain ⟨at1, h1⟩ : ∃ b : Nat, b = at_ + 1 := ⟨_, rfl⟩
  rw [← h1] at hA hat
  generalize spA at_ is = A at *
  generalize spN at_ was is = N at *
  generalize spo at_ was is = S at *
  generalize hB22 : base22 = B22 at *
  have hBl : B22.length = 22 := by rw [← hB22]; rfl
  have hput := hput_lit B22 0 ⟨0, 0, false, 9, 6, 0, 0, []⟩ (.slice none 0 0) (.slice (some ⟨w.heap.size, 0, none⟩) 2 2) [1, 2] (w.alloc (.cells #[.int .u8 1, .int .u8 2] 5)) (Rd.nil _ _) (rd_new .u8 _ _ _ _ rfl rfl rfl rfl (by decide)) ⟨by decide, by decide, by decide, by decide, by decide, by decide, byt_of rfl⟩ (by decide) (by decide) (by rw [← hB22]; decide +kernel)
  simp only [Hd.cells] at hput
  have HPUT := Lib.hid hput
  have HE := Lib.hid he
  have HBL := Lib.hid hBl
  have HB22 := Lib.hid hB22
  clear hput he hB22 hBl hb0
  have hati : (at_ : Int) < 22 := by omega
  have hati2 : (at1 : Int) < 22 := by omega
  have hati3 : ¬ (at_ : Int) < 0 := by omega
  have hq1 : IntKind.u8.wrap (is / 256) = is / 256 := by rw [IntKind.wrap_u8]; omega
  have hq2 : IntKind.u8.wrap is = is % 256 := by rw [IntKind.wrap_u8]
  have hq3 : IntKind.u8.wrap (N / 256) = N / 256 := by rw [IntKind.wrap_u8]; omega
  have hq4 : IntKind.u8.wrap N = N % 256 := by rw [IntKind.wrap_u8]
  have hq6 : (at_ : Int) + 1 = (at1 : Int) := by omega
  have hq5 : IntKind.i64.wrap (at1 : Int) = (at1 : Int) := by rw [IntWalk.i64_in _ (by omega)]
  have hati4 : ¬ (at1 : Int) < 0 := by omega
  have H1 := Lib.hid h1
  clear h1
  go_enter Try.func10, Try.ntmps10
  go_wp2_with fail
  refine HPUT.out.mono ?_
  rintro e w1 ⟨u, rfl, hu, hx1⟩
  have hxw1 : Ext w w1 := (Ext.new _ _).tr hx1
  obtain ⟨g, cap, rfl, hg1, hg2, hcell, hfz, hc1, hc2, hset⟩ := hu.open (by rw [HBL.out]; decide)
  rw [HBL.out] at hc1
  simp only [HBL.out]
  have c0 := hcell at_ (by rw [HBL.out]; omega)
  have c1 := hcell at1 (by rw [HBL.out]; omega)
  have f0 := hfz at_
  have f1 := hfz at1
  have hs0 := hset (is / 256) at_ (by rw [HBL.out]; omega)
  obtain ⟨g', cap', he, -, -, -, -, -, -, hset2⟩ := hs0.open (by rw [List.length_set, HBL.out]; decide)
  rw [List.length_set, HBL.out] at he
  simp only [HBL.out] at hs0
  cases he
  have hs1 := hset2 (is % 256) at1 (by rw [List.length_set, HBL.out]; omega)
  rw [HBL.out, ← hA.out] at hs1
  have hne : at1 ≠ at_ := by have := H1.out; omega
  generalize B22.getD at_ 0 = y0 at *
  generalize B22.getD at1 0 = y1 at *
  have hgw : w.heap.size ≤ g := Nat.le_trans (by simp) hg1
  have hx2 : Ext w ((w1.setCell ⟨g, at_, none⟩ (.int .u8 (is / 256))).setCell ⟨g, at1, none⟩ (.int .u8 (is % 256))) := Below.setCell (Below.setCell hxw1 hgw _) hgw _
  have HS1 := Lib.hid hs1
  have HX2 := Lib.hid hx2
  clear hcell hfz hset hset2 hs0 hs1 hx2 hu hx1 hxw1
  go_upto_region 5 with (fail)
  have hs1 := HS1.out
  have hx2 := HX2.out
  clear HS1 HX2 c0 c1 f0 f1 hne hati hati2 hati3 hati4 hq1 hq2 hq5 hq6
  generalize (w1.setCell ⟨g, at_, none⟩ (.int .u8 (is / 256))).setCell ⟨g, at1, none⟩ (.int .u8 (is % 256)) = w2 at *
  obtain ⟨g', cap', he, -, -, hcell, -, -, -, -⟩ := hs1.open (by omega)
  rw [hAl] at he
  cases he
  have c10 := hcell 10 (by omega)
  have c11 := hcell 11 (by omega)
  clear hcell
  generalize A.getD 10 0 = x10 at *
  generalize A.getD 11 0 = x11 at *
  have ho8 := or8_u16 x10 x11 hA10.1 hA10.2 hA11.1 hA11.2
  have hw8 : IntKind.u16.wrap (x10 * 256) = x10 * 256 := by rw [IntKind.wrap_u16]; omega
  have hw10 : IntKind.u16.wrap x10 = x10 := by rw [IntKind.wrap_u16]; omega
  have hw11 : IntKind.u16.wrap x11 = x11 := by rw [IntKind.wrap_u16]; omega
  have HS1 := Lib.hid hs1
  clear hs1
  refine wp_region_grow [(12, Loose.is (.int .u16 N))] (lasts_is lasts_nil) (by kernel_rfl) (by kernel_rfl) ?_
  iterate 2
    apply wpL_none rfl rfl
    · intro w' hw' hn'; go_simp; exact rfl
    intro K hK; go_simp; refine hK _ _ ?_; clear hK K
  iterate 1
    apply wpL_none rfl rfl
    · intro w' hw' hn'; have c10 := Ext.cell hw' c10; go_simp; exact rfl
    intro K hK; go_simp; refine hK _ _ ?_; clear hK K
  iterate 4
    apply wpL_none rfl rfl
    · intro w' hw' hn'; go_simp; exact rfl
    intro K hK; go_simp; refine hK _ _ ?_; clear hK K
  iterate 1
    apply wpL_none rfl rfl
    · intro w' hw' hn'; have c11 := Ext.cell hw' c11; go_simp; exact rfl
    intro K hK; go_simp; refine hK _ _ ?_; clear hK K
  iterate 1
    apply wpL_none rfl rfl
    · intro w' hw' hn'; go_simp; exact rfl
    intro K hK; go_simp; refine hK _ _ ?_; clear hK K
  iterate 3
    apply wpL_none rfl rfl
    · intro w' hw' hn'; go_simp; exact rfl
    intro K hK; go_simp; refine hK _ _ ?_; clear hK K
  apply wpL_some rfl rfl
  · intro w' hw' hn'
    go_simp
    refine ⟨Ext.rfl' _, ?_⟩
    refine (word_any _ _ _ _ (by omega) (by omega) hwas.1 hwas.2 his.1 his.2).mono ?_
    rw [← hN.out]
    rintro e w4 ⟨rfl, rfl⟩
    exact ⟨_, rfl, Ext.rfl' _, rfl⟩
  intro v w' hw' hD' hv
  obtain rfl : v = _ := hv
  clear hw' hD' w'
  intro K hK; go_simp; refine hK _ _ ?_; clear hK K
  iterate 1
    apply wpL_none rfl rfl
    · intro w' hw' hn'; go_simp; exact rfl
    intro K hK; go_simp; refine hK _ _ ?_; clear hK K
  refine wpL_nil ?_
  intro w3 hx3 _
  have hs3 := HS1.out.kept hx3
  have hxw3 := hx2.tr hx3
  clear c10 c11 ho8 hw8 hw10 hw11 HS1 hx3 hx2
  obtain ⟨g', cap', he, hg3, -, hcell, hfz, -, -, hset⟩ := hs3.open (by omega)
  rw [hAl] at he
  cases he
  have c0 := hcell 10 (by omega)
  have c1 := hcell 11 (by omega)
  have f0 := hfz 10
  have f1 := hfz 11
  have hs0 := hset (N / 256) 10 (by omega)
  obtain ⟨g', cap', he, -, -, -, -, -, -, hset2⟩ := hs0.open (by rw [List.length_set]; omega)
  rw [List.length_set, hAl] at he
  cases he
  have hs1 := hset2 (N % 256) 11 (by rw [List.length_set]; omega)
  rw [← hS.out] at hs1
  have hx4 : Ext w ((w3.setCell ⟨g, 10, none⟩ (.int .u8 (N / 256))).setCell ⟨g, 11, none⟩ (.int .u8 (N % 256))) := Below.setCell (Below.setCell hxw3 hgw _) hgw _
  generalize A.getD 10 0 = y0 at *
  generalize A.getD 11 0 = y1 at *
  have HS1 := Lib.hid hs1
  have HX := Lib.hid hx4
  clear hcell hfz hset hset2 hs0 hs1 hx4 hs3 hxw3
  go_upto_region 7 with (fail)
  have hr := HS1.out.rd
  have hx4 := HX.out
  clear HS1 HX c0 c1 f0 f1
  generalize (w3.setCell ⟨g, 10, none⟩ (.int .u8 (N / 256))).setCell ⟨g, 11, none⟩ (.int .u8 (N % 256)) = w5 at *
  go_wp2_with fail
  refine (iparse_err n _ S _ hr hSb (by omega) HE.out).mono ?_
  rintro e w6 ⟨h1, h2, h3, h4, h5, h6, h7, a', m', c', b', k', d', rfl, hx6⟩
  go_wp2_with fail
  go_ret
  exact ⟨rfl, hx4.tr (hx6.al _)⟩

abbrev zeros (n : Nat) : List Int := List.replicate n 0
theorem zeros_byt (n : Nat) : Byt (zeros n) := fun x hx => by
  have := List.eq_of_mem_replicate hx; omega
theorem z16 : (0 : Int) ≤ 0 ∧ (0 : Int) ≤ 65535 := by decide
theorem z32 : (0 : Int) ≤ 0 ∧ (0 : Int) ≤ 4294967295 := by decide
theorem z8 : (0 : Int) ≤ 0 ∧ (0 : Int) ≤ 255 := by decide
/-- A tuple of bytes and an error. -/
def Tup (m : Nat) (n : Int) (v : Value) (w : World) : Prop := ∃ a c, v = .tuple #[.slice a m c, .int .i64 n]

theorem put_z (k q : Nat) (vo vp : Value) (w : World) (hvo : Rd .u8 w vo (zeros k)) (hvp : Rd .u8 w vp (zeros q)) (hk : k ≤ 2000) (hq : q ≤ 2000) (m : Nat) (n ttl : Int) (ht : ttl = 0 ∨ ttl = 1)
    (he : (if (decide (0 < ttl) && (decide (k ≤ 40) && decide (k % 4 = 0))) = false then (0, 1) else if 1500 - (20 + k) < q then (0, 3) else (20 + k + q, 0)) = (m, n)) :
    Calls Try.prog 5 #[.agg #[.int .u8 0, .int .u16 0, .bool false, .int .u8 ttl, .int .u8 0, .int .u32 0, .int .u32 0, vo], vp] w fun e w' => ∃ v, e = .returned v ∧ Ext w w' ∧ Tup m n v w' := by
  have hok : (Hd.mk 0 0 false ttl 0 0 0 (zeros k)).ok := ⟨z8, z16, (by show 0 ≤ ttl ∧ ttl ≤ 255; omega), z8, z32, z32, zeros_byt k⟩
  have h := hput_any ⟨0, 0, false, ttl, 0, 0, 0, zeros k⟩ vo vp (zeros q) w hok hvo hvp (by simp; omega) (by simp; omega)
  have hm : (Hd.mk 0 0 false ttl 0 0 0 (zeros k)).may = (decide (0 < ttl) && (decide (k ≤ 40) && decide (k % 4 = 0))) := by simp [Hd.may]
  have hP : (hput ⟨0, 0, false, ttl, 0, 0, 0, zeros k⟩ (zeros q)).1.length = m ∧ (hput ⟨0, 0, false, ttl, 0, 0, 0, zeros k⟩ (zeros q)).2 = n := by
    unfold hput
    rw [hm]
    simp only [List.length_replicate]
    split at he
    · rename_i hc
      rw [if_pos hc]; obtain ⟨rfl, rfl⟩ := Prod.mk.inj he; exact ⟨rfl, rfl⟩
    · rename_i hc
      rw [if_neg hc]
      split at he
      · rename_i hd
        rw [if_pos hd]; obtain ⟨rfl, rfl⟩ := Prod.mk.inj he; exact ⟨rfl, rfl⟩
      · rename_i hd
        rw [if_neg hd]; obtain ⟨rfl, rfl⟩ := Prod.mk.inj he
        refine ⟨?_, rfl⟩
        rw [List.length_append, Hd.lay_len]; simp
  refine h.mono ?_
  rintro e w' ⟨u, rfl, hu, hx⟩
  obtain ⟨a, c, rfl, -, -, -⟩ := hu.rd
  refine ⟨_, rfl, hx, a, c, ?_⟩
  rw [hP.1, hP.2]

set_option maxHeartbeats 2000000 in
set_option maxRecDepth 100000 in
theorem walk (w : World) : Calls Try.prog 4 #[] w fun e w' => e = .returned (.bool true) ∧ Ext w w' := by
  obtain ⟨w1, hr, ho, hx1⟩ := run_mk (P := Try.prog) isU8 w w.heap.size .i64 .i64 40 (by omega) (by unfold maxLen; omega) (Nat.le_refl _)
  have hr : Sem.run Try.prog (Instr.makeSlice 24 (.int .i64 40) (.int .i64 40)) w = .ok (.slice (some ⟨w.heap.size, 0, none⟩) 40 40) w1 := hr
  have hz40 := ho.rd
  clear ho
  go_enter Try.func4, Try.ntmps4
  go_upto_region 2 with (fail)
  clear hr
  generalize hW : World.alloc w1 _ = W
  have hxW1 : Ext w1 W := by rw [← hW]; exact Ext.new _ _
  have k1 : W.heap[w1.heap.size]? = some (.cells #[.int .u8 0, .int .u16 0, .bool false, .int .u8 1, .int .u8 0, .int .u32 0, .int .u32 0, .slice (some ⟨w.heap.size, 0, none⟩) 40 40] 26) := by rw [← hW]; exact heap_alloc_new _ _
  clear hW
  have hz := hz40.ext hxW1
  have hxW := hx1.tr hxW1
  clear hz40 hx1 hxW1
  generalize w1.heap.size = B1 at *
  generalize w.heap.size = G0 at *
  have e0 := cell_blk k1 0
  have e1 := cell_blk k1 1
  have e2 := cell_blk k1 2
  have e3 := cell_blk k1 3
  have e4 := cell_blk k1 4
  have e5 := cell_blk k1 5
  have e6 := cell_blk k1 6
  have e7 := cell_blk k1 7
  simp at e0 e1 e2 e3 e4 e5 e6 e7
  refine wp_region_grow [(1, fun v w' => Rd .u8 w' v (zeros 1440)), (2, Tup 1500 0)] (lasts_cons (fun _ _ _ hx h => Rd.ext h hx) (lasts_cons (fun _ _ _ hx h => h) lasts_nil)) (by kernel_rfl) (by kernel_rfl) ?_
  iterate 1
    apply wpL_none rfl rfl
    · intro w' hw' hn'; have e0 := Ext.cell hw' e0; have e1 := Ext.cell hw' e1; have e2 := Ext.cell hw' e2; have e3 := Ext.cell hw' e3; have e4 := Ext.cell hw' e4; have e5 := Ext.cell hw' e5; have e6 := Ext.cell hw' e6; have e7 := Ext.cell hw' e7; go_simp; exact rfl
    intro K hK; go_simp; refine hK _ _ ?_; clear hK K
  apply wpL_some rfl rfl
  · intro w' hw' hn'
    obtain ⟨w1, hr, ho, hx⟩ := run_mk (P := Try.prog) isU8 w' w'.heap.size .i64 .i64 1440 (by omega) (by unfold maxLen; omega) (Nat.le_refl _)
    have hr : Sem.run Try.prog (Instr.makeSlice 24 (.int .i64 1440) (.int .i64 1440)) w' = .ok (.slice (some ⟨w'.heap.size, 0, none⟩) 1440 1440) w1 := hr
    have ho := ho.rd
    go_simp
    first | done | exact ⟨hx, ho⟩
  intro v w' hw' hD' hv
  obtain ⟨a0, n0, c0, rfl⟩ := Rd.shape hv
  clear hv hw' hD' w'
  intro K hK; go_simp; refine hK _ _ ?_; clear hK K
  apply wpL_some rfl rfl
  · intro w' hw' hn'
    have hr : Rd .u8 w' (.slice a0 n0 c0) (zeros 1440) := hn' ⟨1, .data⟩ (by simp) rfl
    go_simp
    exact ⟨Ext.rfl' _, put_z 40 1440 _ _ _ (hz.ext hw') hr (by decide) (by decide) 1500 0 1 (.inr rfl) (by decide)⟩
  intro v w' hw' hD' hv
  obtain ⟨a, c, rfl⟩ := hv
  clear hw' hD' w'
  intro K hK; go_simp; refine hK _ _ ?_; clear hK K
  iterate 5
    apply wpL_none rfl rfl
    · intro w' hw' hn'; go_simp; exact rfl
    intro K hK; go_simp; refine hK _ _ ?_; clear hK K
  refine wpL_nil ?_
  intro w3 hx3 _
  have e0 := Ext.cell hx3 e0
  have e1 := Ext.cell hx3 e1
  have e2 := Ext.cell hx3 e2
  have e3 := Ext.cell hx3 e3
  have e4 := Ext.cell hx3 e4
  have e5 := Ext.cell hx3 e5
  have e6 := Ext.cell hx3 e6
  have e7 := Ext.cell hx3 e7
  have hz := hz.ext hx3
  have hxW := hxW.tr hx3
  clear hx3 k1
  go_upto_region 3 with (fail)
  refine wp_region_grow [(1, fun v w' => Rd .u8 w' v (zeros 1441)), (2, Tup 0 3)] (lasts_cons (fun _ _ _ hx h => Rd.ext h hx) (lasts_cons (fun _ _ _ hx h => h) lasts_nil)) (by kernel_rfl) (by kernel_rfl) ?_
  iterate 1
    apply wpL_none rfl rfl
    · intro w' hw' hn'; have e0 := Ext.cell hw' e0; have e1 := Ext.cell hw' e1; have e2 := Ext.cell hw' e2; have e3 := Ext.cell hw' e3; have e4 := Ext.cell hw' e4; have e5 := Ext.cell hw' e5; have e6 := Ext.cell hw' e6; have e7 := Ext.cell hw' e7; go_simp; exact rfl
    intro K hK; go_simp; refine hK _ _ ?_; clear hK K
  apply wpL_some rfl rfl
  · intro w' hw' hn'
    obtain ⟨w1, hr, ho, hx⟩ := run_mk (P := Try.prog) isU8 w' w'.heap.size .i64 .i64 1441 (by omega) (by unfold maxLen; omega) (Nat.le_refl _)
    have hr : Sem.run Try.prog (Instr.makeSlice 24 (.int .i64 1441) (.int .i64 1441)) w' = .ok (.slice (some ⟨w'.heap.size, 0, none⟩) 1441 1441) w1 := hr
    have ho := ho.rd
    go_simp
    first | done | exact ⟨hx, ho⟩
  intro v w' hw' hD' hv
  obtain ⟨a0, n0, c0, rfl⟩ := Rd.shape hv
  clear hv hw' hD' w'
  intro K hK; go_simp; refine hK _ _ ?_; clear hK K
  apply wpL_some rfl rfl
  · intro w' hw' hn'
    have hr : Rd .u8 w' (.slice a0 n0 c0) (zeros 1441) := hn' ⟨1, .data⟩ (by simp) rfl
    go_simp
    exact ⟨Ext.rfl' _, put_z 40 1441 _ _ _ (hz.ext hw') hr (by decide) (by decide) 0 3 1 (.inr rfl) (by decide)⟩
  intro v w' hw' hD' hv
  obtain ⟨a2, c2, rfl⟩ := hv
  clear hw' hD' w'
  intro K hK; go_simp; refine hK _ _ ?_; clear hK K
  iterate 5
    apply wpL_none rfl rfl
    · intro w' hw' hn'; go_simp; exact rfl
    intro K hK; go_simp; refine hK _ _ ?_; clear hK K
  refine wpL_nil ?_
  intro w4 hx4 _
  have hxW := hxW.tr hx4
  clear hx4 e0 e1 e2 e3 e4 e5 e6 e7 hz
  go_wp2_with fail
  refine (put_z 0 0 (.slice none 0 0) (.slice none 0 0) _ (Rd.nil _ _) (Rd.nil _ _) (by decide) (by decide) 0 1 0 (.inl rfl) (by decide)).mono ?_
  rintro e w5 ⟨v5, rfl, hx5, a5, c5, rfl⟩
  have hxW := hxW.tr hx5
  clear hx5
  obtain ⟨x6, hr, ho, hy⟩ := run_mk (P := Try.prog) isU8 w5 w5.heap.size .i64 .i64 3 (by omega) (by unfold maxLen; omega) (Nat.le_refl _)
  have hr : Sem.run Try.prog (Instr.makeSlice 24 (.int .i64 3) (.int .i64 3)) w5 = .ok (.slice (some ⟨w5.heap.size, 0, none⟩) 3 3) x6 := hr
  have hz := ho.rd
  go_wp2_with fail
  clear hr
  refine (put_z 3 0 _ (.slice none 0 0) _ hz (Rd.nil _ _) (by decide) (by decide) 0 1 1 (.inr rfl) (by decide)).mono ?_
  rintro e w7 ⟨v7, rfl, hx7, a7, c7, rfl⟩
  have hxW := hxW.tr (hy.tr hx7)
  clear hx7 hz ho hy
  obtain ⟨x8, hr, ho, hy⟩ := run_mk (P := Try.prog) isU8 w7 w7.heap.size .i64 .i64 44 (by omega) (by unfold maxLen; omega) (Nat.le_refl _)
  have hr : Sem.run Try.prog (Instr.makeSlice 24 (.int .i64 44) (.int .i64 44)) w7 = .ok (.slice (some ⟨w7.heap.size, 0, none⟩) 44 44) x8 := hr
  have hz := ho.rd
  go_wp2_with fail
  clear hr
  refine (put_z 44 0 _ (.slice none 0 0) _ hz (Rd.nil _ _) (by decide) (by decide) 0 1 1 (.inr rfl) (by decide)).mono ?_
  rintro e w9 ⟨v9, rfl, hx9, a9, c9, rfl⟩
  have hxW := hxW.tr (hy.tr hx9)
  clear hx9 hz ho hy
  obtain ⟨x10, hr, ho, hy⟩ := run_mk (P := Try.prog) isU8 w9 w9.heap.size .i64 .i64 1501 (by omega) (by unfold maxLen; omega) (Nat.le_refl _)
  have hr : Sem.run Try.prog (Instr.makeSlice 24 (.int .i64 1501) (.int .i64 1501)) w9 = .ok (.slice (some ⟨w9.heap.size, 0, none⟩) 1501 1501) x10 := hr
  have hz := ho.rd
  go_wp2_with fail
  clear hr
  refine (iparse_err 3 _ (zeros 1501) _ hz (zeros_byt _) (by simp) (by unfold ierr; rw [if_pos (by simp)])).mono ?_
  rintro e w11 ⟨h1, h2, h3, h4, h5, h6, h7, a', m', c', b', k', d', rfl, hx11⟩
  go_upto_region 8 with (fail)
  generalize hV : World.alloc w11 _ = V
  have hV1 : Ext w11 V := by rw [← hV]; exact Ext.new _ _
  have hxW := hxW.tr (hy.tr (hx11.tr hV1))
  clear hV hV1 hx11 hz ho hy
  obtain ⟨x12, hr, ho, hy⟩ := run_mk (P := Try.prog) isU8 V V.heap.size .i64 .i64 19 (by omega) (by unfold maxLen; omega) (Nat.le_refl _)
  have hr : Sem.run Try.prog (Instr.makeSlice 24 (.int .i64 19) (.int .i64 19)) V = .ok (.slice (some ⟨V.heap.size, 0, none⟩) 19 19) x12 := hr
  have hz := ho.rd
  go_wp2_with fail
  clear hr
  refine (iparse_err 4 _ (zeros 19) _ hz (zeros_byt _) (by simp) (by decide +kernel)).mono ?_
  rintro e w13 ⟨i1, i2, i3, i4, i5, i6, i7, ia, im, ic, ib, ik, id', rfl, hx13⟩
  go_upto_region 9 with (fail)
  generalize hV : World.alloc w13 _ = V2
  have hV1 : Ext w13 V2 := by rw [← hV]; exact Ext.new _ _
  have hxW := hxW.tr (hy.tr (hx13.tr hV1))
  clear hV hV1 hx13 hz ho hy
  go_wp2_with fail
  refine (spoilt_any 0 (by decide) 17664 17408 (by decide) (by decide) 5 (by decide +kernel) _).mono ?_
  rintro e y0 ⟨rfl, hx⟩
  have hxW := hxW.tr hx
  clear hx
  go_wp2_with fail
  refine (spoilt_any 0 (by decide) 17664 17920 (by decide) (by decide) 4 (by decide +kernel) _).mono ?_
  rintro e y1 ⟨rfl, hx⟩
  have hxW := hxW.tr hx
  clear hx
  go_wp2_with fail
  refine (spoilt_any 2 (by decide) 22 23 (by decide) (by decide) 4 (by decide +kernel) _).mono ?_
  rintro e y2 ⟨rfl, hx⟩
  have hxW := hxW.tr hx
  clear hx
  go_wp2_with fail
  refine (spoilt_any 2 (by decide) 22 21 (by decide) (by decide) 5 (by decide +kernel) _).mono ?_
  rintro e y3 ⟨rfl, hx⟩
  have hxW := hxW.tr hx
  clear hx
  go_wp2_with fail
  refine (spoilt_any 6 (by decide) 0 32768 (by decide) (by decide) 5 (by decide +kernel) _).mono ?_
  rintro e y4 ⟨rfl, hx⟩
  have hxW := hxW.tr hx
  clear hx
  go_wp2_with fail
  refine (spoilt_any 6 (by decide) 0 8192 (by decide) (by decide) 21 (by decide +kernel) _).mono ?_
  rintro e y5 ⟨rfl, hx⟩
  have hxW := hxW.tr hx
  clear hx
  go_wp2_with fail
  refine (spoilt_any 6 (by decide) 0 1 (by decide) (by decide) 21 (by decide +kernel) _).mono ?_
  rintro e y6 ⟨rfl, hx⟩
  have hxW := hxW.tr hx
  clear hx
  go_wp2_with fail
  refine (spoilt_any 6 (by decide) 0 16384 (by decide) (by decide) 0 (by decide +kernel) _).mono ?_
  rintro e y7 ⟨rfl, hx⟩
  have hxW := hxW.tr hx
  clear hx
  go_wp2_with fail
  refine (spoilt_any 8 (by decide) 2310 6 (by decide) (by decide) 23 (by decide +kernel) _).mono ?_
  rintro e y8 ⟨rfl, hx⟩
  have hxW := hxW.tr hx
  clear hx
  go_wp2_with fail
  refine (wakes4_any _).mono ?_
  rintro e z ⟨rfl, hx⟩
  go_wp2_with fail
  go_ret
  exact ⟨rfl, hxW.tr hx⟩
end Go.Proofs.Ytebbnincclgagaa.ipv4Known
