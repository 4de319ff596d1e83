/-
  Proved here: the law SpliceResets returns true.
-/
import Derived.Test.YtgbbpibcmpeneaaLegs
import Derived.Deep.Cut
namespace Go.Proofs.Ytgbbpibcmpeneaa.spliceResets
set_option maxRecDepth 200000
open Go.ChangeShapes Go.WideShapes Go.ChangeAt Go.RowKit Go.Cul Go.Loose
set_option linter.unusedVariables false
attribute [local go_sem] Loose.Still Loose.Upon Loose.vUpon

theorem new2a (w : World) (o1 o2 : Obj) : ((w.alloc o1).alloc o2).heap[w.heap.size]? = some o1 := by simp only [heap_alloc_at, World.size_alloc]; simp
theorem new2b (w : World) (o1 o2 : Obj) : ((w.alloc o1).alloc o2).heap[w.heap.size + 1]? = some o2 := by simp only [heap_alloc_at, World.size_alloc]; simp

set_option maxHeartbeats 8000000 in
set_option maxRecDepth 200000 in
theorem walk (w : World) (cs0 : Array Value) (g0 : Reads w legSh cs0.toList) (k : Bool) (off : Int) (hoff : 0 ≤ off ∧ off ≤ 4294967295) : Calls Try.prog 5 #[.agg cs0, .bool k, .int .u32 off] w fun e w' => e = .returned (.bool true) ∧ Ext w w' := by
  obtain ⟨l, rfl, hl⟩ := open_legs g0
  clear g0
  have hj := Lib.hid (fun (W : World) => joined_any l W hl)
  have HO := Lib.hid hoff
  clear hoff
  go_enter Try.func5, Try.ntmps5
  go_upto_region 1 with (fail)
  generalize hW : w.alloc _ = W
  have hxW : Ext w W := by rw [← hW]; exact Ext.new _ _
  have kN : W.heap[w.heap.size]? = some (.cells l.cells 30) := by rw [← hW]; exact heap_alloc_new w _
  clear hW
  have HL := Lib.hid hl
  clear hl
  go_wp2_with (refine wpList_load_bigG 30 w.heap.size _ _ _ rfl kN rfl Try.underlying30 rfl (by kernel_rfl) ?_)
  refine (hj.out W).mono ?_
  clear hj
  rintro e v1 ⟨hx1, h | h⟩
  · obtain ⟨-, rfl⟩ := h
    have hx := Lib.hid (hxW.tr hx1)
    clear kN hxW hx1
    go_wp2_with fail
    refine (wakes26_any v1).mono ?_
    rintro e v2 ⟨rfl, hx2⟩
    go_wp2_with fail
    go_ret
    exact ⟨rfl, hx.out.tr hx2⟩
  obtain ⟨herr, bb, rfl, hwbb, hB⟩ := h
  have hwbb := Nat.le_trans hxW.size hwbb
  obtain ⟨hsc, hss, hn⟩ := err_sc HL.out herr
  have hok := Lib.hid (Lg.sp_ok HL.out herr)
  have HERR := Lib.hid herr
  have kN := hx1.block kN
  have hx := hxW.tr hx1
  clear hx1 hxW herr hsc hss
  have hwn : IntKind.u32.wrap l.n = l.n := by rw [IntKind.wrap_u32]; omega
  have HN := Lib.hid hn
  clear hn
  go_wp2_with fail
  refine (shifts_any bb l.sp v1 hB hok.out).mono ?_
  rintro e v2 ⟨rfl, hx2⟩
  have kN := hx2.block kN
  have hB := hx2.block hB
  have hx := hx.tr hx2
  clear hx2
  have hbx : ∀ (y : Shf), y.cells.all (·.oneCell') = true := fun y => by simp [Value.oneCell']
  have HBX := Lib.hid hbx
  clear hbx
  generalize hT : l.sp.c.ov = T at *
  generalize hK : l.sp.s.ov = K at *
  have HT := Lib.hid hT
  have HK := Lib.hid hK
  clear hT hK
  go_upto_region 5 with (first | (refine wpList_put_row 40 v2.heap.size _ T.cells _ rfl rfl (new2a _ _ _) (by kernel_rfl) rfl (HBX.out _) ?_; intro V3 k9 m3) | (refine wpList_put_row 40 (v2.heap.size + 1) _ K.cells _ rfl rfl (m3.keep (new2b _ _ _) (by omega)) (by kernel_rfl) rfl (HBX.out _) ?_; intro V4 k10 m4))
  have hlN := lt_of_block kN
  have hlB := lt_of_block hB
  have k9 := m4.keep k9 (by omega)
  have hxx := (Ext.new v2 (.cells (Shf.cells ⟨0, 0, false, 0, 0, 0⟩) 40)).al (.cells (Shf.cells ⟨0, 0, false, 0, 0, 0⟩) 40)
  have hx4 : Ext v2 V4 := m4.ext (m3.ext hxx (fun k hk => by omega)) (fun k hk => by omega)
  have kN := hx4.block kN
  have hB := hx4.block hB
  have hx := hx.tr hx4
  generalize v2.heap.size = b9 at *
  clear m3 m4 hxx hx4
  obtain ⟨v4, rfl⟩ : ∃ v4 : World, v4 = V4 := ⟨_, rfl⟩
  have hmf : ∀ (fn : Fn) (first cap : Array Value) (w : World), (Instr.makeFunc fn first cap).run Try.prog w = .ok (.func fn first cap) w := fun _ _ _ _ => rfl
  have p1 : IntKind.u32.wrap (l.c.irs + 1) = (l.c.irs + 1) % 4294967296 := rfl
  have p2 : IntKind.u32.wrap ((l.c.irs + 1) % 4294967296 + l.n) = (l.c.irs + 1 + l.n) % 4294967296 := by rw [IntKind.wrap_u32]; omega
  have n1 := cell_blk kN 1
  have n5 := cell_blk kN 5
  have n7 := cell_blk kN 7
  have n11 := cell_blk kN 11
  have n30 := cell_blk kN 30
  simp at n1 n5 n7 n11 n30
  have r9 : v4.rangeAt b9 0 T.cells.toList := fun j v hv => by rw [Nat.zero_add, cell_blk k9]; simpa using hv
  refine Order.wp_region_order [0, 1, 2, 3, 4, 5, 6, 7, 8, 9, 10, 11, 12, 13] [14, 15, 16, 17, 18] 18 (fun w' => Ext v4 w') (fun _ _ => False) (fun _ _ _ _ h => h.elim) (fun _ h => h) (by kernel_rfl) (by kernel_rfl) (by kernel_rfl) rfl (by kernel_rfl) ?_
  intro wd hwd
  have hwd : Ext v4 wd := hwd
  iterate 2
    apply Order.wpH_some rfl rfl
    · intro w' hw'; go_simp; exact rfl
    intro K hK; go_simp; refine hK _ ?_; clear hK K
  iterate 1
    apply Order.wpH_some rfl rfl
    · intro w' hw'; have n1 := Ext.cell hw' n1; go_simp; exact rfl
    intro K hK; go_simp; refine hK _ ?_; clear hK K
  iterate 2
    apply Order.wpH_some rfl rfl
    · intro w' hw'; go_simp; exact rfl
    intro K hK; go_simp; refine hK _ ?_; clear hK K
  iterate 1
    apply Order.wpH_some rfl rfl
    · intro w' hw'; have n30 := Ext.cell hw' n30; go_simp; exact rfl
    intro K hK; go_simp; refine hK _ ?_; clear hK K
  iterate 4
    apply Order.wpH_some rfl rfl
    · intro w' hw'; go_simp; exact rfl
    intro K hK; go_simp; refine hK _ ?_; clear hK K
  iterate 1
    apply Order.wpH_some rfl rfl
    · intro w' hw'; have n11 := Ext.cell hw' n11; go_simp; exact rfl
    intro K hK; go_simp; refine hK _ ?_; clear hK K
  apply Order.wpH_some rfl rfl
  · intro w' hw'
    exact Order.look_load 40 _ rfl b9 0 rfl T.cells _ (range_ext r9 hw') Try.underlying40 rfl (by kernel_rfl)
  intro K hK; go_simp; refine hK _ ?_; clear hK K
  iterate 2
    apply Order.wpH_some rfl rfl
    · intro w' hw'; go_simp; exact rfl
    intro K hK; go_simp; refine hK _ ?_; clear hK K
  refine Order.wpH_nil ?_
  have hsz := hwd.size
  apply Order.wpI_step rfl rfl
  intro K1 hK1
  go_simp
  refine hK1 _ _ (fun _ => hwd.al _) ?_
  clear hK1 K1
  iterate 2
    apply Order.wpI_step rfl rfl
    intro K1 hK1
    go_simp
    refine hK1 _ _ (fun _ => hwd.al _) ?_
    clear hK1 K1
  refine Order.wpI_put_row 40 rfl wd.heap.size _ T.cells _ rfl rfl (heap_alloc_new _ _) (by kernel_rfl) rfl (HBX.out _) ?_
  intro v5 k13 m5 K1 hK1
  have hx5 : Ext v4 v5 := m5.ext (hwd.al _) (fun k hk => by omega)
  refine hK1 _ _ (fun _ => hx5) ?_
  clear hK1 K1
  apply Order.wpI_step rfl rfl
  intro K1 hK1
  go_simp
  refine hK1 _ _ (fun h => absurd rfl h) ?_
  clear hK1 K1
  refine Order.wpI_nil ?_
  have hb9 : b9 + 1 < wd.heap.size := Nat.lt_of_lt_of_le (lt_of_block k10) hsz
  have kN5 := hx5.block kN
  have k10 := hx5.block k10
  have hB5 := Lib.hid (hx5.block hB)
  have hlw := Nat.le_trans (Nat.le_of_lt (lt_of_block k9)) hsz
  have n5 := hx5.cell n5
  have n7 := hx5.cell n7
  clear n1 n11 n30 p1 p2 m5 r9 k9
  generalize wd.heap.size = b13 at *
  go_upto_if 51 with (fail)
  go_cut [11, 12, 14] from 24 (fun p q r wc => p = .int .u32 (l.nx k % 4294967296) ∧ q = .int .u32 (l.wn k) ∧ r = .func (.func (sendF k)) #[spp bb] #[] ∧ wc.heap[b13]? = some (.cells (l.sp.at k).ov.cells 40) ∧ Ext w wc ∧ SpAt wc bb l.sp)
  case first =>
    cases k
    · have HX := Lib.hid (hx.tr hx5)
      have HK13 := Lib.hid k13
      clear k13 k10 hx5
      go_wp2_with fail
      go_meet
      case rel => exact ⟨rfl, rfl, rfl, by have := HK13.out; rw [← HT.out] at this; exact this, HX.out, hB5.out⟩
    · have p1 : IntKind.u32.wrap (l.s.irs + 1) = (l.s.irs + 1) % 4294967296 := rfl
      have HX := Lib.hid (hx.tr hx5)
      have r10 : v5.rangeAt (b9 + 1) 0 K.cells.toList := fun j v hv => by rw [Nat.zero_add, cell_blk k10]; simpa using hv
      clear k10 hx5
      go_upto_region 7 with (fail)
      refine Order.wp_region_order [0, 1, 2, 3, 4, 5, 6, 7, 8, 9] [10, 11, 12, 13] 13 (fun w' => Mvs (fun j => j = b13) v5 w') (fun _ _ => False) (fun _ _ _ _ h => h.elim) (fun _ h => Mvs.ofExt h) (by kernel_rfl) (by kernel_rfl) (by kernel_rfl) rfl (by kernel_rfl) ?_
      intro wd hwd
      have hwd : Ext v5 wd := hwd
      iterate 7
        apply Order.wpH_some rfl rfl
        · intro w' hw'; have n7 := cellM hw' n7 (by dsimp only; omega); have n5 := cellM hw' n5 (by dsimp only; omega); go_simp; exact rfl
        intro K hK; go_simp; refine hK _ ?_; clear hK K
      apply Order.wpH_some rfl rfl
      · intro w' hw'
        exact Order.look_load 40 _ rfl (b9 + 1) 0 rfl K.cells _ (fun j v hv => cellM hw' (r10 j v hv) (by show b9 + 1 ≠ b13; omega)) Try.underlying40 rfl (by kernel_rfl)
      intro K hK; go_simp; refine hK _ ?_; clear hK K
      iterate 2
        apply Order.wpH_some rfl rfl
        · intro w' hw'; go_simp; exact rfl
        intro K hK; go_simp; refine hK _ ?_; clear hK K
      refine Order.wpH_nil ?_
      iterate 2
        apply Order.wpI_step rfl rfl
        intro K1 hK1
        go_simp
        refine hK1 _ _ (fun _ => Mvs.ofExt hwd) ?_
        clear hK1 K1
      refine Order.wpI_put_row 40 rfl b13 _ K.cells _ rfl rfl (hwd.block k13) (by kernel_rfl) rfl (HBX.out _) ?_
      intro v6 k13 m6 K1 hK1
      have m6' := Lib.hid ((Mvs.ofExt hwd).tr m6)
      refine hK1 _ _ (fun _ => m6'.out) ?_
      clear hK1 K1
      apply Order.wpI_step rfl rfl
      intro K1 hK1
      go_simp
      refine hK1 _ _ (fun h => absurd rfl h) ?_
      clear hK1 K1
      refine Order.wpI_nil ?_
      have HK13 := Lib.hid k13
      have HX6 := Lib.hid (m6'.out.ext HX.out (fun k hk => by omega))
      clear k13 m6
      go_wp2_with fail
      go_meet
      case rel => exact ⟨rfl, rfl, rfl, by have := HK13.out; rw [← HK.out] at this; exact this, HX6.out, m6'.out.keep hB5.out (by omega)⟩
  obtain ⟨rfl, rfl, rfl, k13v, hXc, hBc⟩ := hcut
  have hEE := Lib.hid (rst_frM HL.out HERR.out k HO.out)
  obtain ⟨Q, hQ⟩ : ∃ Q : Int, (l.nx k + off) % 4294967296 = Q := ⟨_, rfl⟩
  have hQb : 0 ≤ Q ∧ Q ≤ 4294967295 := by omega
  have hwq : IntKind.u32.wrap (l.nx k % 4294967296 + off) = Q := by rw [IntKind.wrap_u32]; omega
  rw [hQ] at hEE
  have hgq := Lib.hid (wg_ok hQb (by decide) (by decide) : (wg Q 0 4).ok)
  obtain ⟨F, hF⟩ : ∃ F, frM l.sp k (wg Q 0 4) = F := ⟨_, rfl⟩
  obtain ⟨y, U, V, E⟩ := F
  rw [hF] at hEE
  have hyo := frM_ok hok.out k hgq.out
  rw [hF] at hyo
  have HYO := Lib.hid hyo
  have HF := Lib.hid hF
  have hUA := Lib.hid (updG_ok hok.out false)
  have hUB := Lib.hid (updG_ok hok.out true)
  clear hyo hF hQ hQb
  have hV : V = [] ∧ updG y = updG l.sp := by
    have := hEE.out
    split at this
    · cases this; exact ⟨rfl, rfl⟩
    · cases this; exact ⟨rfl, rfl⟩
  obtain ⟨rfl, hyu⟩ := hV
  have HYU := Lib.hid hyu
  clear hyu
  have hEE2 : Hid (((off == 0) = false ∧ decide (off < l.wn k) = false ∧ y = l.sp ∧ U = [] ∧ E = 1) ∨ (((off == 0) = true ∨ (off == 0) = false ∧ decide (off < l.wn k) = true) ∧ y = { l.sp with rs := true } ∧ U = [⟨(l.sp.at (!k)).lo, (l.sp.at (!k)).re, (Q + (l.sp.at k).ov.sq) % 4294967296, 0, 4, (l.sp.at k).ov.win 0, 0, [], []⟩] ∧ E = 0)) := by
    have := hEE.out
    cases h1 : (off == 0) <;> cases h2 : decide (off < l.wn k) <;> rw [h1, h2] at this
    · left; cases this; exact ⟨rfl, rfl, rfl, rfl, rfl⟩
    · right; cases this; exact ⟨.inr ⟨rfl, rfl⟩, rfl, rfl, rfl⟩
    · right; cases this; exact ⟨.inl rfl, rfl, rfl, rfl⟩
    · right; cases this; exact ⟨.inl rfl, rfl, rfl, rfl⟩
  clear hEE
  generalize l.nx k = NX at *
  generalize l.wn k = WN at *
  have hbb13 : bb < b13 := Nat.lt_of_lt_of_le (lt_of_block hB) hsz
  have HBc := Lib.hid hBc
  have HXc := Lib.hid hXc
  clear kN k10 n5 n7 kN5 hB hB5 hmf hwn hx hx5 hXc hlN hlB hb9 hlw
  have hsb := Lib.hid (fun (W : World) (h : SpAt W bb l.sp) => upds_any bb l.sp W h hok.out)
  have hsy := Lib.hid (fun (W : World) (h : SpAt W bb y) => upds_any bb y W h HYO.out)
  have hst := Lib.hid (fun (W : World) (h : SpAt W bb y) => sstate_any bb y W h HYO.out)
  have hrs := Lib.hid (fun (W : World) (h : SpAt W bb y) => rsts_any bb y W h HYO.out)
  rw [HYU.out] at hsy
  have hA0 : (updG l.sp false).os = [] ∧ (updG l.sp false).data = [] := ⟨rfl, rfl⟩
  have hB0 : (updG l.sp true).os = [] ∧ (updG l.sp true).data = [] := ⟨rfl, rfl⟩
  have HA0 := Lib.hid hA0
  have HB0 := Lib.hid hB0
  clear hA0 hB0 HYU
  generalize updG l.sp false = A at *
  generalize updG l.sp true = B at *
  have hone : ∀ g : Sg, (g.cells nos nos).all (·.oneCell') = true := fun g => by simp [Value.oneCell']
  have HONE := Lib.hid hone
  clear hone hBc
  go_wp2_with fail
  refine (hsb.out wc HBc.out).mono ?_
  rintro e v6 ⟨rfl, hx6⟩
  have k13 := hx6.block k13v
  have hB6 := hx6.block HBc.out
  have hX6 := HXc.out.tr hx6
  clear hx6 hsb
  go_upto_region 9 with (first | (refine wpList_put_row 51 v6.heap.size _ (Sg.cells A nos nos) _ rfl rfl (new2a _ _ _) (by kernel_rfl) rfl (HONE.out _) ?_; intro V7 k15 m7) | (refine wpList_put_row 51 (v6.heap.size + 1) _ (Sg.cells B nos nos) _ rfl rfl (m7.keep (new2b _ _ _) (by omega)) (by kernel_rfl) rfl (HONE.out _) ?_; intro V8 k16 m8))
  have hl13 := lt_of_block k13
  have hlB := lt_of_block hB6
  have k15 := m8.keep k15 (by omega)
  have hxx := (Ext.new v6 (.cells (Sg.none.cells nos nos) 51)).al (.cells (Sg.none.cells nos nos) 51)
  have hx8 : Ext v6 V8 := m8.ext (m7.ext hxx (fun k hk => by omega)) (fun k hk => by omega)
  have k13 := hx8.block k13
  have hB8 := hx8.block hB6
  have hX8 := hX6.tr hx8
  generalize v6.heap.size = b15 at *
  clear m7 m8 hxx hx8 hB6 hX6
  obtain ⟨v8, rfl⟩ : ∃ v8 : World, v8 = V8 := ⟨_, rfl⟩
  have HB8 := Lib.hid hB8
  have HX8 := Lib.hid hX8
  clear hB8 hX8
  have hcf := send_enter k
  have hsd := Lib.hid (send_any k HF.out bb nos nos v8 hok.out hgq.out HB8.out (RdO.nil _) (Rd.nil _ _) ⟨Nat.zero_le _, (fun o h => by cases h), Nat.zero_le _⟩)
  go_wp2_with fail
  refine hsd.out.mono ?_
  rintro e v9 ⟨a1, c1, a2, c2, rfl, f1, f2, hB9, m9⟩
  have f1 := f1.lowS (base' := 0) (Nat.zero_le _)
  have k13 := m9.keep k13 (by omega)
  have k15 := m9.keep k15 (by omega)
  have k16 := m9.keep k16 (by omega)
  have hX9 := m9.ext HX8.out (fun k hk => by omega)
  clear f2 m9 hsd hcf
  simp only [List.length_nil] at *
  go_wp2_with fail
  refine (hsy.out v9 hB9).mono ?_
  rintro e w6 ⟨rfl, hx6⟩
  have f1 := f1.keep (Keep.ofExt hx6)
  have k13 := hx6.block k13
  have k15 := hx6.block k15
  have k16 := hx6.block k16
  have hB6 := hx6.block hB9
  have hX6 := hX9.tr hx6
  clear hx6 hsy hB9 hX9
  go_upto_region 11 with (first | (refine wpList_put_row 51 w6.heap.size _ (Sg.cells A nos nos) _ rfl rfl (new2a _ _ _) (by kernel_rfl) rfl (HONE.out _) ?_; intro Va k20 ma) | (refine wpList_put_row 51 (w6.heap.size + 1) _ (Sg.cells B nos nos) _ rfl rfl (ma.keep (new2b _ _ _) (by omega)) (by kernel_rfl) rfl (HONE.out _) ?_; intro Vb k21 mb))
  have hl13 := lt_of_block k13
  have hl15 := lt_of_block k15
  have hl16 := lt_of_block k16
  have hlB := lt_of_block hB6
  have k20 := mb.keep k20 (by omega)
  have hxx := (Ext.new w6 (.cells (Sg.none.cells nos nos) 51)).al (.cells (Sg.none.cells nos nos) 51)
  have hx8 : Ext w6 Vb := mb.ext (ma.ext hxx (fun k hk => by omega)) (fun k hk => by omega)
  have f1 := f1.keep (Keep.ofExt hx8)
  have k13 := hx8.block k13
  have k15 := hx8.block k15
  have k16 := hx8.block k16
  have hB10 := hx8.block hB6
  have hX10 := hX6.tr hx8
  generalize w6.heap.size = b20 at *
  clear ma mb hxx hx8 hB6 hX6
  obtain ⟨v10, rfl⟩ : ∃ v : World, v = Vb := ⟨_, rfl⟩
  go_wp2_with (first | (refine wpList_load_bigG 51 b15 _ _ _ rfl k15 rfl Try.underlying51 rfl (by kernel_rfl) ?_) | (refine wpList_load_bigG 51 (b15 + 1) _ _ _ rfl k16 rfl Try.underlying51 rfl (by kernel_rfl) ?_) | (refine wpList_load_bigG 51 b20 _ _ _ rfl ((Ext.new v10 _).block k20) rfl Try.underlying51 rfl (by kernel_rfl) ?_) | (refine wpList_load_bigG 51 (b20 + 1) _ _ _ rfl ((Ext.new v10 _).block k21) rfl Try.underlying51 rfl (by kernel_rfl) ?_))
  refine (same26_any [A, B] [A, B] _ _ _ ((rds_pair HA0.out HB0.out rfl).ext (Ext.new _ _)) (rds_pair HA0.out HB0.out (by simp)) (OkL.two hUA.out hUB.out) (OkL.two hUA.out hUB.out) (by simp)).mono ?_
  rw [sameL_eq]
  rintro e v11 ⟨rfl, hx11⟩
  have hx11 := ((Ext.new v10 _).al _).tr hx11
  have f1 := f1.keep (Keep.ofExt hx11)
  have k13 := hx11.block k13
  have hB11 := hx11.block hB10
  have hX11 := hX10.tr hx11
  have HX11 := Lib.hid hX11
  have HB11 := Lib.hid hB11
  clear hx11 k15 k16 k20 k21 hB10 hX10 hX11 hB11
  rcases hEE2.out with ⟨h1, h2, rfl, rfl, rfl⟩ | ⟨hh, rfl, rfl, rfl⟩
  · have q1 : off ≠ 0 := by simpa using h1
    have q2 : WN ≤ off := by simpa using h2
    have hs0 := hst.out v11 HB11.out
    rw [state_new] at hs0
    clear hst hrs
    go_wp2_with fail
    refine hs0.mono ?_
    rintro e v12 ⟨rfl, hx12⟩
    go_wp2_with fail
    refine (wakes26_any v12).mono ?_
    rintro e v13 ⟨rfl, hx13⟩
    go_wp2_with fail
    go_ret
    exact ⟨rfl, HX11.out.tr (hx12.tr hx13)⟩
  · have hss : Hid (({ l.sp with rs := true } : Sp).state = 2) := rfl
    have hs0 := Lib.hid (fun (W : World) (h : SpAt W bb { l.sp with rs := true }) => hst.out W h)
    rw [hss.out] at hs0
    have hr0 := Lib.hid (fun (W : World) (h : SpAt W bb { l.sp with rs := true }) => hrs.out W h)
    obtain ⟨g1, _, _, _, he1, -, q1, -, -⟩ := f1.at (i := 0) (Nat.zero_lt_succ _)
    cases he1
    have y2 := q1 2 (by decide)
    have y4 := q1 4 (by decide)
    simp at y2 y4
    have y13 := cell_blk k13 0
    simp at y13
    have hq2 : IntKind.u32.wrap (Q + (l.sp.at k).ov.sq) = (Q + (l.sp.at k).ov.sq) % 4294967296 := by rw [IntKind.wrap_u32]
    have hC0 : (rstG { l.sp with rs := true } false).f = 20 := rfl
    have hD0 : (rstG { l.sp with rs := true } true).f = 20 := rfl
    generalize rstG { l.sp with rs := true } false = C at *
    generalize rstG { l.sp with rs := true } true = D at *
    have HC0 := Lib.hid hC0
    have HD0 := Lib.hid hD0
    generalize (l.sp.at k).ov.sq = SQ at *
    clear hst hrs f1 q1 k13 hC0 hD0 k13v
    simp only [List.length_cons, List.length_nil, Nat.zero_add] at *
    have hcond : (off ≠ 0 ∧ ¬ WN ≤ off) ∨ off = 0 := by
      rcases hh with h | ⟨h1, h2⟩
      · exact .inr (by simpa using h)
      · exact .inl ⟨by simpa using h1, by have := of_decide_eq_true h2; omega⟩
    clear hh
    go_upto_region 13 with (fail)
    go_cut [101] from 102 (fun v wx => v = .bool false ∧ wx = v11)
    case first =>
      rcases hcond with ⟨q1, q2⟩ | q1
      all_goals
        go_wp2_with fail
        go_meet
        case rel => exact ⟨rfl, rfl⟩
    obtain ⟨rfl, hwx⟩ := hcut
    obtain rfl : v11 = wc := hwx.symm
    go_upto_region 15 with (fail)
    refine wp_region_grow [(30, Loose.is (.int .i64 2))] (lasts_is lasts_nil) (by kernel_rfl) (by kernel_rfl) ?_
    iterate 11
      apply wpL_none rfl rfl
      · intro w' hw' hn'; go_simp; exact rfl
      intro K hK; go_simp; refine hK _ _ ?_; clear hK K
    iterate 1
      apply wpL_none rfl rfl
      · intro w' hw' hn'; have y2 := Ext.cell hw' y2; go_simp; exact rfl
      intro K hK; go_simp; refine hK _ _ ?_; clear hK K
    iterate 4
      apply wpL_none rfl rfl
      · intro w' hw' hn'; go_simp; exact rfl
      intro K hK; go_simp; refine hK _ _ ?_; clear hK K
    iterate 1
      apply wpL_none rfl rfl
      · intro w' hw' hn'; have y13 := Ext.cell hw' y13; go_simp; exact rfl
      intro K hK; go_simp; refine hK _ _ ?_; clear hK K
    iterate 7
      apply wpL_none rfl rfl
      · intro w' hw' hn'; go_simp; exact rfl
      intro K hK; go_simp; refine hK _ _ ?_; clear hK K
    iterate 1
      apply wpL_none rfl rfl
      · intro w' hw' hn'; have y4 := Ext.cell hw' y4; go_simp; exact rfl
      intro K hK; go_simp; refine hK _ _ ?_; clear hK K
    iterate 5
      apply wpL_none rfl rfl
      · intro w' hw' hn'; go_simp; exact rfl
      intro K hK; go_simp; refine hK _ _ ?_; clear hK K
    apply wpL_some rfl rfl
    · intro w' hw' hn'
      go_simp
      refine ⟨Ext.rfl' _, ?_⟩
      refine ((hs0.out _ (Ext.block hw' HB11.out))).mono ?_
      rintro e w2 ⟨rfl, hx⟩
      exact ⟨_, rfl, hx, rfl⟩
    intro v w' hw' hD' hv
    obtain rfl : v = _ := hv
    clear hw' hD' w'
    intro K hK; go_simp; refine hK _ _ ?_; clear hK K
    iterate 2
      apply wpL_none rfl rfl
      · intro w' hw' hn'; go_simp; exact rfl
      intro K hK; go_simp; refine hK _ _ ?_; clear hK K
    refine wpL_nil ?_
    intro v12 hx12 _
    have hx12 : Ext v11 v12 := hx12
    have HB12 := Lib.hid (hx12.block HB11.out)
    have HX12 := Lib.hid (HX11.out.tr hx12)
    clear hx12 HB11 HX11 y2 y4 y13
    go_wp2_with fail
    refine (hr0.out v12 HB12.out).mono ?_
    rintro e w6 ⟨rfl, hx6⟩
    have hB6 := hx6.block HB12.out
    have hX6 := HX12.out.tr hx6
    clear hx6 HB12 HX12 hr0
    go_upto_region 18 with (first | (refine wpList_put_row 51 w6.heap.size _ (Sg.cells C nos nos) _ rfl rfl (new2a _ _ _) (by kernel_rfl) rfl (HONE.out _) ?_; intro Va k22 ma) | (refine wpList_put_row 51 (w6.heap.size + 1) _ (Sg.cells D nos nos) _ rfl rfl (ma.keep (new2b _ _ _) (by omega)) (by kernel_rfl) rfl (HONE.out _) ?_; intro Vb k23 mb))
    have k22 := mb.keep k22 (by omega)
    have hxx := (Ext.new w6 (.cells (Sg.none.cells nos nos) 51)).al (.cells (Sg.none.cells nos nos) 51)
    have hx8 : Ext w6 Vb := mb.ext (ma.ext hxx (fun k hk => by omega)) (fun k hk => by omega)
    have hB13 := hx8.block hB6
    have HB13 := Lib.hid hB13
    have HX13 := Lib.hid (hX6.tr hx8)
    generalize w6.heap.size = b22 at *
    clear ma mb hxx hx8 hB6 hX6 hB13
    obtain ⟨v13, rfl⟩ : ∃ v : World, v = Vb := ⟨_, rfl⟩
    have c4 := cell_blk k22 4
    simp at c4
    have d4 := cell_blk k23 4
    simp at d4
    rw [HC0.out] at c4
    rw [HD0.out] at d4
    clear k22 k23
    go_wp2_with fail
    refine (hs0.out v13 HB13.out).mono ?_
    rintro e v14 ⟨rfl, hx14⟩
    go_wp2_with fail
    refine (wakes26_any v14).mono ?_
    rintro e v15 ⟨rfl, hx15⟩
    go_wp2_with fail
    go_ret
    exact ⟨rfl, HX13.out.tr (hx14.tr hx15)⟩
end Go.Proofs.Ytgbbpibcmpeneaa.spliceResets
