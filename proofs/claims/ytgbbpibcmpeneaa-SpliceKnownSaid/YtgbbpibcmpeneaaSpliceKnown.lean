/-
  Proved here: the law SpliceKnown returns true.
-/
import Derived.Test.YtgbbpibcmpeneaaLegs
import Derived.Test.YtgbbpibcmpeneaaSpKn
import Derived.Deep.Cut
import Derived.Deep.WholeRow
namespace Go.Proofs.Ytgbbpibcmpeneaa.spliceKnown
set_option maxRecDepth 200000
open Go.ChangeShapes Go.WideShapes Go.ChangeAt Go.RowKit Go.Cul Go.Loose
set_option linter.unusedVariables false
attribute [local go_sem] Loose.Still Loose.Upon Loose.vUpon

theorem new2a (w : World) (o1 o2 : Obj) : ((w.alloc o1).alloc o2).heap[w.heap.size]? = some o1 := by simp only [heap_alloc_at, World.size_alloc]; simp
theorem new2b (w : World) (o1 o2 : Obj) : ((w.alloc o1).alloc o2).heap[w.heap.size + 1]? = some o2 := by simp only [heap_alloc_at, World.size_alloc]; simp
def zSp : Sp := ⟨⟨0, 0, 0, 0, 0, false, 0, ⟨0, 0, false, 0, 0, 0⟩⟩, ⟨0, 0, 0, 0, 0, false, 0, ⟨0, 0, false, 0, 0, 0⟩⟩, false, false⟩
/-- Legs that cannot be joined. -/
def lgO (i : Nat) : Lg := if i = 0 then { lgK with n := -1 } else if i = 1 then { lgK with n := 16385 } else if i = 2 then { lgK with s := { lgK.s with mss := 0 } } else { lgK with c := { lgK.c with mss := 1461 } }
theorem lgO_err : ∀ i, i < 4 → (lgO i).err = true := by decide +kernel
theorem lgO_ok (i : Nat) : (lgO i).ok := by
  unfold lgO
  split
  · exact ⟨lgK_ok.c, lgK_ok.s, lgK_ok.cs, lgK_ok.ss, by decide⟩
  · split
    · exact ⟨lgK_ok.c, lgK_ok.s, lgK_ok.cs, lgK_ok.ss, by decide⟩
    · split
      · exact ⟨lgK_ok.c, ⟨by decide, by decide, by decide, by decide, by decide⟩, lgK_ok.cs, lgK_ok.ss, lgK_ok.n⟩
      · exact ⟨⟨by decide, by decide, by decide, by decide, by decide⟩, lgK_ok.s, lgK_ok.cs, lgK_ok.ss, lgK_ok.n⟩
def oddZ : Array Value := ((List.replicate 4 (⟨⟨0, 0, 0, 0, false, 0⟩, ⟨0, 0, 0, 0, false, 0⟩, ⟨0, 0, 0, 0, 0, false, 0, 0, 0⟩, ⟨0, 0, 0, 0, 0, false, 0, 0, 0⟩, 0⟩ : Lg).cells.toList).flatten).toArray
def oddK : Array Value := ((List.replicate 4 lgK.cells.toList).flatten).toArray
theorem oddZ_zero : ∀ w, Sem.run Try.prog (zeroValue 73) w = .ok (.agg oddZ) w := (zero_of_info (n := 124) (by kernel_rfl)).1
theorem oddZ_size : oddZ.size = 124 := by decide +kernel
theorem oddK_size : oddK.size = 124 := by decide +kernel
theorem oddK_one : oddK.all (·.oneCell') = true := by decide +kernel
def oddC : Array Value := (((oddK.setIfInBounds 30 (.int .i64 (-1))).setIfInBounds 61 (.int .i64 16385)).setIfInBounds 70 (.int .u16 0)).setIfInBounds 95 (.int .u16 1461)
theorem oddC_at : ∀ i, i < 4 → ((oddC.toList.drop (i * 31)).take 31) = (lgO i).cells.toList := by
  intro i hi
  rcases (by omega : i = 0 ∨ i = 1 ∨ i = 2 ∨ i = 3) with rfl | rfl | rfl | rfl <;> kernel_rfl
theorem odd_range {w : World} {b : Nat} (h : w.heap[b]? = some (.cells oddC 73)) {i : Nat} (hi : i < 4) : w.rangeAt b (i * 31) (lgO i).cells.toList := by
  intro j v hv
  have hj : j < 31 := (List.getElem?_eq_some_iff.1 hv).1
  rw [← oddC_at i hi, List.getElem?_take_of_lt hj, List.getElem?_drop] at hv
  rw [cell_blk h]
  simpa using hv

theorem facts_bd : (Fa.mk 0 0 88 14 true 0).ok := ⟨by decide, by decide, by decide, by decide, by decide⟩
theorem facts_bd2 : (Fa.mk 0 0 88 2 false 0).ok := ⟨by decide, by decide, by decide, by decide, by decide⟩
theorem setup_bd : (Su.mk 0 0 0 0 3 false 0 0 0).ok := ⟨by decide, by decide, by decide⟩
theorem setup_bd2 : (Su.mk 0 0 0 0 14 false 0 0 0).ok := ⟨by decide, by decide, by decide⟩
def fcA : Fa := ⟨0, 0, 88, 14, true, 0⟩
def fcB : Fa := ⟨0, 0, 88, 2, false, 0⟩
def suA : Su := ⟨0, 0, 0, 0, 3, false, 0, 0, 0⟩
def suB : Su := ⟨0, 0, 0, 0, 14, false, 0, 0, 0⟩
theorem new_err : nwE fcA fcB suA suB 0 = false := by decide +kernel
theorem new_shc : (nwSp fcA fcB suA suB 0).c.ov = ⟨0, 0, false, 14, 14, 88⟩ := by kernel_rfl
theorem new_shs : (nwSp fcA fcB suA suB 0).s.ov = ⟨0, 0, false, 2, 3, 88⟩ := by kernel_rfl

def kS1 : Sp := (frM wS0 false (wg 511 101 17)).1
def kS2 : Sp := (frM kS1 false (wg 511 101 17)).1
def kS3 : Sp := (frM kS2 true (wg 701 912 17)).1
def kS4 : Sp := (frM kS3 false (wg 512 102 16)).1
def gD : Sg := ⟨0, 0, 512, 101, 16, 0, 0, [], [1]⟩
theorem kw1 : frM wS0 false (wg 511 101 0) = (wS0, [], [], 1) := by kernel_rfl
theorem kw2 : frM wS0 false (wg 511 102 16) = (wS0, [], [], 1) := by kernel_rfl
theorem kw3 : frM wS0 false (wg 511 101 17) = (kS1, (frM wS0 false (wg 511 101 17)).2.1, [], 0) := by kernel_rfl
theorem kw4 : frM kS1 false (wg 511 101 17) = (kS2, (frM kS1 false (wg 511 101 17)).2.1, [], 0) := by kernel_rfl
theorem kw5 : frM kS2 false gD = (kS2, [], [], 1) := by kernel_rfl
theorem kw6 : frM kS2 true (wg 701 912 17) = (kS3, (frM kS2 true (wg 701 912 17)).2.1, [], 0) := by kernel_rfl
theorem kw7 : frM kS3 false (wg 512 102 16) = (kS4, (frM kS3 false (wg 512 102 16)).2.1, [], 0) := by kernel_rfl
theorem kS1_ok : kS1.ok := frM_ok wS0_ok _ (wg_ok (by decide) (by decide) (by decide))
theorem kS2_ok : kS2.ok := frM_ok kS1_ok _ (wg_ok (by decide) (by decide) (by decide))
theorem kS3_ok : kS3.ok := frM_ok kS2_ok _ (wg_ok (by decide) (by decide) (by decide))
theorem kS4_ok : kS4.ok := frM_ok kS3_ok _ (wg_ok (by decide) (by decide) (by decide))
theorem gD_ok : gD.ok := ⟨by decide, by decide, by decide, by decide, by decide, by decide, by decide, (fun o h => by cases h), (fun o h => by simp [gD] at h; subst h; decide)⟩
theorem kS3_state : kS3.state = 0 := by kernel_rfl
theorem kS4_state : kS4.state = 1 := by kernel_rfl

theorem rds_oneD {w : World} {B : Nat} (hB : w.heap.size = B) : Rd .u8 (w.alloc (.cells #[.int .u8 1] 5)) (.slice (some ⟨B, 0, none⟩) 1 1) gD.data := rd_new .u8 w _ _ [1] hB rfl rfl rfl (by decide)

set_option maxHeartbeats 8000000 in
set_option maxRecDepth 200000 in
theorem walk (w : World) : Calls Try.prog 7 #[] w fun e w' => e = .returned (.bool true) ∧ Ext w w' := by
  have hz := oddZ_zero
  go_enter Try.func7, Try.ntmps7
  go_upto_region 3 with (refine wpList_build_big 70 zSp.cells _ rfl (by kernel_rfl) ?_)
  generalize hW : w.alloc _ = W
  have hx : Ext w W := by rw [← hW]; exact Ext.new _ _
  have kz : W.heap[w.heap.size]? = some (.cells zSp.cells 70) := by rw [← hW]; exact heap_alloc_new w _
  have z27 := cell_blk kz 27
  simp [zSp] at z27
  clear hW kz
  go_wp2_with (refine wpList_build_big 51 (Sg.none.cells nos nos) _ rfl (by kernel_rfl) ?_)
  refine (fromc_nil Sg.none W).mono ?_
  rintro e v1 ⟨rfl, hx1⟩
  have hx := hx.tr hx1
  have z27 := hx1.cell z27
  clear hx1
  go_wp2_with (refine wpList_build_big 51 (Sg.none.cells nos nos) _ rfl (by kernel_rfl) ?_)
  refine (froms_zero w.heap.size Sg.none v1 z27).mono ?_
  rintro e v2 ⟨rfl, hx2⟩
  have hx := hx.tr hx2
  clear hx2 z27
  go_wp2_with fail
  refine (upds_nil v2).mono ?_
  rintro e v3 ⟨rfl, hx3⟩
  have hx := hx.tr hx3
  clear hx3
  have hone : (Sg.none.cells nos nos).all (·.oneCell') = true := by simp [Value.oneCell']
  have HONE := Lib.hid hone
  clear hone
  go_upto_region 6 with (first | (refine wpList_put_row 51 v3.heap.size _ (Sg.none.cells nos nos) _ rfl rfl (new2a _ _ _) (by kernel_rfl) rfl HONE.out ?_; intro V6 k6 m6) | (refine wpList_put_row 51 (v3.heap.size + 1) _ (Sg.none.cells nos nos) _ rfl rfl (m6.keep (new2b _ _ _) (by omega)) (by kernel_rfl) rfl HONE.out ?_; intro V7 k7 m7))
  have k6 := m7.keep k6 (by omega)
  have hxx := (Ext.new v3 (.cells (Sg.none.cells nos nos) 51)).al (.cells (Sg.none.cells nos nos) 51)
  have hx7 : Ext v3 V7 := m7.ext (m6.ext hxx (fun k hk => by omega)) (fun k hk => by omega)
  have hx := hx.tr hx7
  generalize v3.heap.size = b9 at *
  clear m6 m7 hxx hx7
  obtain ⟨v7, rfl⟩ : ∃ v7 : World, v7 = V7 := ⟨_, rfl⟩
  go_wp2_with fail
  refine (sstate_nil v7).mono ?_
  rintro e v8 ⟨rfl, rfl⟩
  go_wp2_with fail
  refine (scopy_nil v8).mono ?_
  rintro e v9 ⟨rfl, rfl⟩
  go_wp2_with (first | (refine wpList_load_bigG 51 b9 _ _ _ rfl k6 rfl Try.underlying51 rfl (by kernel_rfl) ?_; simp only [Act.put, List.setIfInBounds_toArray, List.set_cons_succ, List.set_cons_zero]) | (refine wpList_load_bigG 51 (b9 + 1) _ _ _ rfl k7 rfl Try.underlying51 rfl (by kernel_rfl) ?_; simp only [Act.put, List.setIfInBounds_toArray, List.set_cons_succ, List.set_cons_zero]))
  have hno : Sg.none.os = [] ∧ Sg.none.data = [] := ⟨rfl, rfl⟩
  have hnk : Sg.none.ok := wg_ok (q := 0) (a := 0) (f := 0) (by decide) (by decide) (by decide)
  refine (same26_any [Sg.none, Sg.none] [Sg.none, Sg.none] _ _ _ ((rds_pair hno hno rfl).ext (Ext.new _ _)) (rds_pair hno hno (by simp)) (OkL.two hnk hnk) (OkL.two hnk hnk) (by simp)).mono ?_
  rw [sameL_eq]
  rintro e wa ⟨rfl, hxa⟩
  have hx := hx.tr (((Ext.new v9 _).al _).tr hxa)
  clear hxa k6 k7 hno hnk
  go_wp2_with fail
  refine (legs_any _).mono ?_
  rintro e wb ⟨rfl, hxb⟩
  have hx := hx.tr hxb
  clear hxb
  go_wp2_with fail
  refine (legs_any _).mono ?_
  rintro e wc ⟨rfl, hxb⟩
  have hx := hx.tr hxb
  clear hxb
  go_wp2_with fail
  refine (legs_any _).mono ?_
  rintro e wd ⟨rfl, hxb⟩
  have hx := hx.tr hxb
  clear hxb
  go_wp2_with fail
  refine (legs_any _).mono ?_
  rintro e we ⟨rfl, hxb⟩
  have hx := hx.tr hxb
  clear hxb
  go_upto_region 9 with (first | (refine wpList_build_big 73 oddK _ rfl (by kernel_rfl) ?_) | (refine wpList_store_big 73 oddK rfl rfl (by kernel_rfl) (oddZ_size.trans oddK_size.symm) oddK_one ?_))
  generalize hV : we.alloc _ = V
  have hxV := Ext.new we (.cells oddK 73)
  rw [hV] at hxV
  have ko : V.heap[we.heap.size]? = some (.cells oddK 73) := by rw [← hV]; exact heap_alloc_new we _
  clear hV
  have hwo := hx.size
  generalize we.heap.size = bo at *
  have hx := hx.tr hxV
  clear hxV
  go_upto_region 10 with (first | (refine wpList_put_cell 3 bo 30 _ _ (.int .i64 (-1)) rfl rfl ko (by kernel_rfl) (by decide +kernel) rfl rfl ?_; intro W1 k1 m1) | (refine wpList_put_cell 3 bo 61 _ _ (.int .i64 16385) rfl rfl k1 (by kernel_rfl) (by decide +kernel) rfl rfl ?_; intro W2 k2 m2) | (refine wpList_put_cell 23 bo 70 _ _ (.int .u16 0) rfl rfl k2 (by kernel_rfl) (by decide +kernel) rfl rfl ?_; intro W3 k3 m3) | (refine wpList_put_cell 23 bo 95 _ _ (.int .u16 1461) rfl rfl k3 (by kernel_rfl) (by decide +kernel) rfl rfl ?_; intro W4 k4 m4))
  have kO : W4.heap[bo]? = some (.cells oddC 73) := k4
  have hx : Ext w W4 := m4.ext (m3.ext (m2.ext (m1.ext hx (fun k hk => by omega)) (fun k hk => by omega)) (fun k hk => by omega)) (fun k hk => by omega)
  clear k1 k2 k3 k4 m1 m2 m3 m4 ko
  obtain ⟨vo, rfl⟩ : ∃ v : World, v = W4 := ⟨_, rfl⟩
  go_wp2_with fail
  go_loopw [12] (fun iv wr => ∃ i : Nat, i ≤ 4 ∧ iv = .int .i64 i ∧ Ext vo wr) (fun iv _ => 4 - (intOf iv).toNat)
  case atStart => exact ⟨0, by omega, rfl, Ext.rfl' _⟩
  case round =>
    obtain ⟨i, hi, rfl, hxr⟩ := hrel
    by_cases hlt : i < 4
    · have hlI : (i : Int) < 4 := by omega
      have hrg := odd_range (hxr.block kO) hlt
      go_wp2_with (refine wpList_load_mid rfl 30 _ rfl bo (i * 31) rfl (lgO i).cells.toList _ hrg Try.underlying30 rfl (by kernel_rfl) ?_)
      refine (joined_any (lgO i) _ (lgO_ok i)).mono ?_
      rintro e v1 ⟨hx1, h | h⟩
      · obtain ⟨-, rfl⟩ := h
        have HX := Lib.hid (hxr.tr hx1)
        clear hrg hxr hx1
        go_wp2_with fail
        go_roundw
        case rel => exact ⟨i + 1, by omega, by go_num, HX.out⟩
        case measure => simp [intOf]; omega
      · exact absurd h.1 (by rw [lgO_err i hlt]; decide)
    · obtain rfl : i = 4 := by omega
      have hx := hx.tr hxr
      clear hxr kO
      go_wp2_with fail
      refine (legs_any _).mono ?_
      rintro e wb ⟨rfl, hxb⟩
      have hx := hx.tr hxb
      clear hxb
      go_wp2_with fail
      refine (joined_any lgK _ lgK_ok).mono ?_
      rintro e v1 ⟨hx1, h | h⟩
      · exact absurd h.1 (by rw [lgK_err]; decide)
      obtain ⟨-, bb, rfl, hbb, hB⟩ := h
      have hwb : w.heap.size ≤ bb := Nat.le_trans hx.size hbb
      have hx := hx.tr hx1
      have hB0 : SpAt v1 bb wS0 := hB
      clear hx1 hbb hB
      go_wp2_with fail
      refine (fromc_lit kw1 bb v1 wS0_ok (wg_ok (by decide) (by decide) (by decide)) hB0 rfl rfl).mono ?_
      rintro e v2 ⟨a1, c1, a2, c2, rfl, -, -, hB1, m1⟩
      have hx := m1.ext hx (fun k hk => by omega)
      clear hB0 m1
      go_wp2_with fail
      refine (fromc_lit kw2 bb v2 wS0_ok (wg_ok (by decide) (by decide) (by decide)) hB1 rfl rfl).mono ?_
      rintro e v3 ⟨a1, c1, a2, c2, rfl, -, -, hB2, m1⟩
      have hx := m1.ext hx (fun k hk => by omega)
      clear hB1 m1
      go_wp2_with fail
      refine (fromc_lit kw3 bb v3 wS0_ok (wg_ok (by decide) (by decide) (by decide)) hB2 rfl rfl).mono ?_
      rintro e v4 ⟨a1, c1, a2, c2, rfl, -, -, hB3, m1⟩
      have hx := m1.ext hx (fun k hk => by omega)
      clear hB2 m1
      go_wp2_with fail
      refine (fromc_lit kw4 bb v4 kS1_ok (wg_ok (by decide) (by decide) (by decide)) hB3 rfl rfl).mono ?_
      rintro e v5 ⟨a1, c1, a2, c2, rfl, -, -, hB4, m1⟩
      have hx := m1.ext hx (fun k hk => by omega)
      clear hB3 m1
      have hbx : ∀ (y : Shf), y.cells.all (·.oneCell') = true := fun y => by simp [Value.oneCell']
      have HBX := Lib.hid hbx
      clear hbx
      go_wp2_with fail
      have hcD := fromc_any bb kS2 gD nos (.slice (some ⟨v5.heap.size, 0, none⟩) 1 1) (v5.alloc (.cells #[.int .u8 1] 5)) kS2_ok gD_ok ((Ext.new v5 _).block hB4) (RdO.nil _) (rds_oneD rfl) (Nat.zero_le _) (fun o h => by cases h) (by decide)
      rw [kw5] at hcD
      refine hcD.mono ?_
      clear hcD
      rintro e v6 ⟨u, v, rfl, fU, fV, hB5, m1⟩
      obtain ⟨a1, c1, rfl, -⟩ := fU.shape
      obtain ⟨a2, c2, rfl, -⟩ := fV.shape
      have hx := m1.ext (hx.tr (Ext.new v5 _)) (fun k hk => by omega)
      clear fU fV m1 hB4
      go_wp2_with fail
      refine (froms_lit kw6 bb v6 kS2_ok (wg_ok (by decide) (by decide) (by decide)) hB5 rfl rfl).mono ?_
      rintro e v7 ⟨a1, c1, a2, c2, rfl, -, -, hB6, m1⟩
      have hx := m1.ext hx (fun k hk => by omega)
      clear hB5 m1
      have hst := sstate_any bb kS3 v7 hB6 kS3_ok
      rw [kS3_state] at hst
      go_wp2_with fail
      refine hst.mono ?_
      rintro e v8 ⟨rfl, hx8⟩
      have hx := hx.tr hx8
      have hB7 := hx8.block hB6
      clear hst hx8 hB6
      go_wp2_with fail
      refine (fromc_lit kw7 bb v8 kS3_ok (wg_ok (by decide) (by decide) (by decide)) hB7 rfl rfl).mono ?_
      rintro e v9 ⟨a1, c1, a2, c2, rfl, -, -, hB8, m1⟩
      have hx := m1.ext hx (fun k hk => by omega)
      clear hB7 m1
      go_wp2_with fail
      refine (new_any fcA fcB suA suB 0 v9 facts_bd facts_bd2 setup_bd setup_bd2).mono ?_
      rintro e va ⟨hx1, h | h⟩
      · exact absurd h.1 (by rw [new_err]; decide)
      obtain ⟨herr, by', rfl, -, hY⟩ := h
      have hx := hx.tr hx1
      have hB9 := hx1.block hB8
      clear hx1 hB8
      have hsh := shifts_any by' _ va hY (nwSp_ok facts_bd facts_bd2 setup_bd setup_bd2 herr)
      rw [new_shc, new_shs] at hsh
      go_wp2_with fail
      refine hsh.mono ?_
      rintro e wc ⟨rfl, hxc⟩
      have hB10 := hxc.block hB9
      have hx := hx.tr hxc
      clear hxc hY hsh hB9
      go_upto_region 27 with (first | (refine wpList_put_row 40 wc.heap.size _ (Shf.cells ⟨0, 0, false, 14, 14, 88⟩) _ rfl rfl (new2a _ _ _) (by kernel_rfl) rfl (HBX.out _) ?_; intro Va k28 ma) | (refine wpList_put_row 40 (wc.heap.size + 1) _ (Shf.cells ⟨0, 0, false, 2, 3, 88⟩) _ rfl rfl (ma.keep (new2b _ _ _) (by omega)) (by kernel_rfl) rfl (HBX.out _) ?_; intro Vb k29 mb))
      have hlb := lt_of_block hB10
      replace k28 := mb.keep k28 (by omega)
      have hxx := (Ext.new wc (.cells (Shf.cells ⟨0, 0, false, 0, 0, 0⟩) 40)).al (.cells (Shf.cells ⟨0, 0, false, 0, 0, 0⟩) 40)
      have hx8 : Ext wc Vb := mb.ext (ma.ext hxx (fun k hk => by omega)) (fun k hk => by omega)
      have hB11 := hx8.block hB10
      have hx := hx.tr hx8
      have HX := Lib.hid hx
      have HB := Lib.hid hB11
      generalize wc.heap.size = b28 at *
      clear ma mb hxx hx8 hB10 hB11 hx
      obtain ⟨wd, rfl⟩ : ∃ v : World, v = Vb := ⟨_, rfl⟩
      have s2 := cell_blk k28 2
      have s3 := cell_blk k28 3
      have s4 := cell_blk k28 4
      simp at s2 s3 s4
      have t3 := cell_blk k29 3
      have t4 := cell_blk k29 4
      simp at t3 t4
      clear k28 k29
      have hst := Lib.hid (sstate_any bb kS4 wd HB.out kS4_ok)
      rw [kS4_state] at hst
      go_wp2_with fail
      refine hst.out.mono ?_
      rintro e we' ⟨rfl, hx8⟩
      have s2 := hx8.cell s2
      have s3 := hx8.cell s3
      have s4 := hx8.cell s4
      have t3 := hx8.cell t3
      have t4 := hx8.cell t4
      go_wp2_with fail
      refine (wakes26_any we').mono ?_
      rintro e wf ⟨rfl, hxf⟩
      go_wp2_with fail
      go_ret
      exact ⟨rfl, HX.out.tr (hx8.tr hxf)⟩
end Go.Proofs.Ytgbbpibcmpeneaa.spliceKnown
