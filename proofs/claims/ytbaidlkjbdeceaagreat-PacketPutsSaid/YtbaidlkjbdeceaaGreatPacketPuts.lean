/-
  Proved here: what the document's May and Put of packets compute. (PRINTED BY tools/genpkv.py)
  Proved here: the law PacketPuts returns true. No condition.
-/
import Derived.Test.YtbaidlkjbdeceaaGreatPkR
import Derived.Test.YtbaidlkjbdeceaaGreatPkO
import Derived.Test.YtbaidlkjbdeceaaGreatPkU
import Derived.Test.YtbaidlkjbdeceaaGreatRef6P
import Derived.Test.YtbaidlkjbdeceaaGreatUdpR
import Derived.Test.YtbaidlkjbdeceaaGreatPkW
namespace Go.Proofs.YtbaidlkjbdeceaaGreat
set_option maxRecDepth 200000
open Go.ChangeShapes Go.WideShapes Go.ChangeAt Go.RowKit Go.Cul Go.Loose
set_option linter.unusedVariables false
attribute [local go_sem] Loose.Still Loose.Upon Loose.vUpon First.pUpon

theorem rest_g (p : Pk) : psame ⟨pno.h, Sg.none, p.d, p.m⟩ pno = psame ⟨p.h, p.g, Dg.none, Ms.none⟩ p := by
  obtain ⟨h, g, d, m⟩ := p
  rw [Bool.eq_iff_iff, psame_iff, psame_iff]
  simp only [Pk.mk.injEq, true_and]
  exact ⟨fun h => ⟨h.1.symm, h.2.symm⟩, fun h => ⟨h.1.symm, h.2.symm⟩⟩
theorem rest_d (p : Pk) : psame ⟨pno.h, p.g, Dg.none, p.m⟩ pno = psame ⟨p.h, Sg.none, p.d, Ms.none⟩ p := by
  obtain ⟨h, g, d, m⟩ := p
  rw [Bool.eq_iff_iff, psame_iff, psame_iff]
  simp only [Pk.mk.injEq, true_and]
  exact ⟨fun h => ⟨h.1.symm, h.2.symm⟩, fun h => ⟨h.1.symm, h.2.symm⟩⟩
theorem rest_m (p : Pk) : psame ⟨pno.h, p.g, p.d, Ms.none⟩ pno = psame ⟨p.h, Sg.none, Dg.none, p.m⟩ p := by
  obtain ⟨h, g, d, m⟩ := p
  rw [Bool.eq_iff_iff, psame_iff, psame_iff]
  simp only [Pk.mk.injEq, true_and, and_true]
  exact ⟨fun h => ⟨h.1.symm, h.2.symm⟩, fun h => ⟨h.1.symm, h.2.symm⟩⟩
theorem put9_dat (p : Pk) (d : Dg) (vh vo vg vd vm vd' : Value) : putN9 (p.cells vh vo vg vd vm) 17 (d.cells vd').toList = Pk.cells ⟨p.h, p.g, d, p.m⟩ vh vo vg vd' vm := by simp [putN9]

set_option maxHeartbeats 8000000
set_option maxRecDepth 100000
theorem r9may_any (p : Pk) (vh vo vg vd vm : Value) (w : World) (hp : p.ok) (r : PkR w p vh vo vg vd vm) (hn : p.h.op.length ≤ 140737488351232) :
    Calls Tryz.prog 10 #[.agg (p.cells vh vo vg vd vm)] w fun e w' => e = .returned (.bool p.may) ∧ Ext w w' := by
  have HH := Lib.hid (fun (W : World) (hx : Ext w W) => r4may_any p.h vh W (r.h.ext hx) hp.h hn)
  have R := Lib.hid r
  have HP := Lib.hid hp
  clear r hp hn
  obtain ⟨ah, ch, rfl, -⟩ := id R.out.h
  obtain ⟨ao, co, rfl⟩ := R.out.o.shape
  obtain ⟨ag, cg, rfl, -⟩ := id R.out.g
  obtain ⟨ad, cd, rfl, -⟩ := id R.out.d
  obtain ⟨am, cm, rfl, -⟩ := id R.out.m
  have hU : Hid (p.may = (hasP p.h.proto && p.h.may && psame p.rest pno)) := rfl
  generalize p.may = PM at *
  go_enter Tryz.func10, Tryz.ntmps10
  go_upto_region 1 with (fail)
  generalize hW : World.alloc w _ = W
  have hx : Ext w W := by rw [← hW]; exact Ext.new _ _
  have k1 : W.heap[w.heap.size]? = some (.cells (p.cells (.slice ah p.h.op.length ch) (.slice ao p.g.os.length co) (.slice ag p.g.data.length cg) (.slice ad p.d.data.length cd) (.slice am p.m.data.length cm)) 35) := by rw [← hW]; exact heap_alloc_new w _
  clear hW
  have hl1 := lt_of_block k1
  obtain ⟨rh, -, -, -⟩ := pk_rng k1
  go_upto_region 2 with (first | (refine wpList_load_midG rfl 26 _ rfl w.heap.size 0 rfl _ _ rh Tryz.underlying26 rfl (by kernel_rfl) ?_) | (refine wpList_put_row 26 W.heap.size _ (p.h.cells (.slice ah p.h.op.length ch)) _ rfl rfl (heap_alloc_new _ _) (by kernel_rfl) rfl (by simp [Value.oneCell']) ?_; intro W2 k3 m2))
  have hx2 := m2.ext (Ext.new W _) (fun j hj => by omega)
  have k1 := hx2.block k1
  have hx := hx.tr hx2
  generalize W.heap.size = b3 at *
  clear m2 hx2 rh
  have hl3 := lt_of_block k3
  try simp only [Act.put]
  go_upto_region 3 with (first | (refine wpList_load_bigG 26 b3 _ _ _ rfl k3 rfl Tryz.underlying26 rfl (by kernel_rfl) ?_; simp only [Act.put, List.setIfInBounds_toArray, List.set_cons_succ, List.set_cons_zero]) | (refine wpList_build_big 35 (Pk.cells ⟨p.h, Sg.none, Dg.none, Ms.none⟩ (.slice ah p.h.op.length ch) nos9 nos9 nos9 nos9) _ rfl (by kernel_rfl) ?_) | (refine wpList_put_row 35 W2.heap.size _ (Pk.cells ⟨p.h, Sg.none, Dg.none, Ms.none⟩ (.slice ah p.h.op.length ch) nos9 nos9 nos9 nos9) _ rfl rfl (heap_alloc_new _ _) (by kernel_rfl) rfl (pk_one9 _ _ _ _ _ _ _ _ _ _ _ _ _ _ _ _) ?_; intro W3 k4 m3))
  have hx3 := m3.ext (Ext.new W2 _) (fun j hj => by omega)
  have k1 := hx3.block k1
  have k3 := hx3.block k3
  have hx := hx.tr hx3
  generalize W2.heap.size = b4 at *
  clear m3 hx3
  try simp only [Act.put]
  have c4 := cell_blk k3 4
  simp at c4
  by_cases h6 : p.h.proto = 6
  · have hPM : Hid (PM = (p.h.may && psame ⟨p.h, p.g, Dg.none, Ms.none⟩ p)) := by
      unfold Hid
      rw [hU.out, show p.rest = ⟨pno.h, Sg.none, p.d, p.m⟩ from by unfold Pk.rest; rw [if_pos h6], rest_g, h6]
      rfl
    rw [h6] at c4
    clear h6 hU
    obtain ⟨rh, rg, rd, rm⟩ := pk_rng k1
    go_upto_region 11 with (first | (refine wpList_load_midG rfl 29 _ rfl w.heap.size 8 rfl _ _ rg Tryz.underlying29 rfl (by kernel_rfl) ?_) | (refine wpList_put_mid 29 b4 8 _ (p.g.cells (.slice ao p.g.os.length co) (.slice ag p.g.data.length cg)) _ rfl rfl k4 (by kernel_rfl) (Nat.le_of_ble_eq_true rfl) (by simp [Value.oneCell']) ?_; intro W4 k5 m4; rw [put9_seg] at k5))
    have hx4 := m4.ext hx (fun j hj => by omega)
    have k1 := m4.keep k1 (by omega)
    have k3 := m4.keep k3 (by omega)
    have HK1 := Lib.hid k1
    have HK5 := Lib.hid k5
    clear m4 k4 k5 k1 rh rg rd rm c4
    try simp only [Act.put]
    go_wp2_with (refine wpList_load_bigG 26 b3 _ _ _ rfl k3 rfl Tryz.underlying26 rfl (by kernel_rfl) ?_; simp only [Act.put, List.setIfInBounds_toArray, List.set_cons_succ, List.set_cons_zero])
    refine (HH.out W4 hx4).mono ?_
    rintro e W5 ⟨rfl, hx5⟩
    have hx := hx4.tr hx5
    have HK1 := Lib.hid (hx5.block HK1.out)
    have HK5 := Lib.hid (hx5.block HK5.out)
    clear hx5 k3
    generalize p.h.may = MAY at *
    cases MAY
    · go_wp2_with fail
      go_ret
      exact ⟨by rw [hPM.out]; rfl, hx⟩
    have hxo : Pk.ok ⟨p.h, p.g, Dg.none, Ms.none⟩ := ⟨HP.out.h, HP.out.ho, HP.out.g, dg0, ms0⟩
    have hxr : PkR w ⟨p.h, p.g, Dg.none, Ms.none⟩ (.slice ah p.h.op.length ch) (.slice ao p.g.os.length co) (.slice ag p.g.data.length cg) nos9 nos9 := ⟨R.out.h, R.out.o, R.out.g, Rd.nil _ _, Rd.nil _ _⟩
    have HC := Lib.hid (r9same_any ⟨p.h, p.g, Dg.none, Ms.none⟩ p _ _ _ _ _ _ _ _ _ _ W5 hxo HP.out (hxr.ext hx) (R.out.ext hx))
    have hPM2 : Hid (PM = psame ⟨p.h, p.g, Dg.none, Ms.none⟩ p) := by unfold Hid; rw [hPM.out]; rfl
    rw [← hPM2.out] at HC
    clear hxo hxr hPM hPM2
    go_wp2_with (first | (refine wpList_load_bigG 35 b4 _ _ _ rfl HK5.out rfl Tryz.underlying35 rfl (by kernel_rfl) ?_; simp only [Act.put, List.setIfInBounds_toArray, List.set_cons_succ, List.set_cons_zero]) | (refine wpList_load_bigG 35 w.heap.size _ _ _ rfl HK1.out rfl Tryz.underlying35 rfl (by kernel_rfl) ?_; simp only [Act.put, List.setIfInBounds_toArray, List.set_cons_succ, List.set_cons_zero]))
    refine HC.out.mono ?_
    rintro e W6 ⟨rfl, hx6⟩
    cases PM
    all_goals
      go_wp2_with fail
      go_ret
      exact ⟨rfl, hx.tr hx6⟩
  by_cases h17 : p.h.proto = 17
  · have hPM : Hid (PM = (p.h.may && psame ⟨p.h, Sg.none, p.d, Ms.none⟩ p)) := by
      unfold Hid
      rw [hU.out, show p.rest = ⟨pno.h, p.g, Dg.none, p.m⟩ from by unfold Pk.rest; rw [if_neg h6, if_pos h17], rest_d, h17]
      rfl
    rw [h17] at c4
    clear h17 hU
    obtain ⟨rh, rg, rd, rm⟩ := pk_rng k1
    go_upto_region 11 with (first | (refine wpList_load_midG rfl 31 _ rfl w.heap.size 17 rfl _ _ rd Tryz.underlying31 rfl (by kernel_rfl) ?_) | (refine wpList_put_mid 31 b4 17 _ (p.d.cells (.slice ad p.d.data.length cd)) _ rfl rfl k4 (by kernel_rfl) (Nat.le_of_ble_eq_true rfl) (by simp [Value.oneCell']) ?_; intro W4 k5 m4; rw [put9_dat] at k5))
    have hx4 := m4.ext hx (fun j hj => by omega)
    have k1 := m4.keep k1 (by omega)
    have k3 := m4.keep k3 (by omega)
    have HK1 := Lib.hid k1
    have HK5 := Lib.hid k5
    clear m4 k4 k5 k1 rh rg rd rm c4
    try simp only [Act.put]
    go_wp2_with (refine wpList_load_bigG 26 b3 _ _ _ rfl k3 rfl Tryz.underlying26 rfl (by kernel_rfl) ?_; simp only [Act.put, List.setIfInBounds_toArray, List.set_cons_succ, List.set_cons_zero])
    refine (HH.out W4 hx4).mono ?_
    rintro e W5 ⟨rfl, hx5⟩
    have hx := hx4.tr hx5
    have HK1 := Lib.hid (hx5.block HK1.out)
    have HK5 := Lib.hid (hx5.block HK5.out)
    clear hx5 k3
    generalize p.h.may = MAY at *
    cases MAY
    · go_wp2_with fail
      go_ret
      exact ⟨by rw [hPM.out]; rfl, hx⟩
    have hxo : Pk.ok ⟨p.h, Sg.none, p.d, Ms.none⟩ := ⟨HP.out.h, HP.out.ho, sg0, HP.out.d, ms0⟩
    have hxr : PkR w ⟨p.h, Sg.none, p.d, Ms.none⟩ (.slice ah p.h.op.length ch) nos9 nos9 (.slice ad p.d.data.length cd) nos9 := ⟨R.out.h, RdO.nil _, Rd.nil _ _, R.out.d, Rd.nil _ _⟩
    have HC := Lib.hid (r9same_any ⟨p.h, Sg.none, p.d, Ms.none⟩ p _ _ _ _ _ _ _ _ _ _ W5 hxo HP.out (hxr.ext hx) (R.out.ext hx))
    have hPM2 : Hid (PM = psame ⟨p.h, Sg.none, p.d, Ms.none⟩ p) := by unfold Hid; rw [hPM.out]; rfl
    rw [← hPM2.out] at HC
    clear hxo hxr hPM hPM2
    go_wp2_with (first | (refine wpList_load_bigG 35 b4 _ _ _ rfl HK5.out rfl Tryz.underlying35 rfl (by kernel_rfl) ?_; simp only [Act.put, List.setIfInBounds_toArray, List.set_cons_succ, List.set_cons_zero]) | (refine wpList_load_bigG 35 w.heap.size _ _ _ rfl HK1.out rfl Tryz.underlying35 rfl (by kernel_rfl) ?_; simp only [Act.put, List.setIfInBounds_toArray, List.set_cons_succ, List.set_cons_zero]))
    refine HC.out.mono ?_
    rintro e W6 ⟨rfl, hx6⟩
    cases PM
    all_goals
      go_wp2_with fail
      go_ret
      exact ⟨rfl, hx.tr hx6⟩
  by_cases h1 : p.h.proto = 1
  · have hPM : Hid (PM = (p.h.may && psame ⟨p.h, Sg.none, Dg.none, p.m⟩ p)) := by
      unfold Hid
      rw [hU.out, show p.rest = ⟨pno.h, p.g, p.d, Ms.none⟩ from by unfold Pk.rest; rw [if_neg h6, if_neg h17, if_pos h1], rest_m, h1]
      rfl
    rw [h1] at c4
    clear h1 hU
    obtain ⟨rh, rg, rd, rm⟩ := pk_rng k1
    go_upto_region 11 with (first | (refine wpList_load_midG rfl 33 _ rfl w.heap.size 20 rfl _ _ rm Tryz.underlying33 rfl (by kernel_rfl) ?_) | (refine wpList_put_mid 33 b4 20 _ (p.m.cells (.slice am p.m.data.length cm)) _ rfl rfl k4 (by kernel_rfl) (Nat.le_of_ble_eq_true rfl) (by simp [Value.oneCell']) ?_; intro W4 k5 m4; rw [put9_msg] at k5))
    have hx4 := m4.ext hx (fun j hj => by omega)
    have k1 := m4.keep k1 (by omega)
    have k3 := m4.keep k3 (by omega)
    have HK1 := Lib.hid k1
    have HK5 := Lib.hid k5
    clear m4 k4 k5 k1 rh rg rd rm c4
    try simp only [Act.put]
    go_wp2_with (refine wpList_load_bigG 26 b3 _ _ _ rfl k3 rfl Tryz.underlying26 rfl (by kernel_rfl) ?_; simp only [Act.put, List.setIfInBounds_toArray, List.set_cons_succ, List.set_cons_zero])
    refine (HH.out W4 hx4).mono ?_
    rintro e W5 ⟨rfl, hx5⟩
    have hx := hx4.tr hx5
    have HK1 := Lib.hid (hx5.block HK1.out)
    have HK5 := Lib.hid (hx5.block HK5.out)
    clear hx5 k3
    generalize p.h.may = MAY at *
    cases MAY
    · go_wp2_with fail
      go_ret
      exact ⟨by rw [hPM.out]; rfl, hx⟩
    have hxo : Pk.ok ⟨p.h, Sg.none, Dg.none, p.m⟩ := ⟨HP.out.h, HP.out.ho, sg0, dg0, HP.out.m⟩
    have hxr : PkR w ⟨p.h, Sg.none, Dg.none, p.m⟩ (.slice ah p.h.op.length ch) nos9 nos9 nos9 (.slice am p.m.data.length cm) := ⟨R.out.h, RdO.nil _, Rd.nil _ _, Rd.nil _ _, R.out.m⟩
    have HC := Lib.hid (r9same_any ⟨p.h, Sg.none, Dg.none, p.m⟩ p _ _ _ _ _ _ _ _ _ _ W5 hxo HP.out (hxr.ext hx) (R.out.ext hx))
    have hPM2 : Hid (PM = psame ⟨p.h, Sg.none, Dg.none, p.m⟩ p) := by unfold Hid; rw [hPM.out]; rfl
    rw [← hPM2.out] at HC
    clear hxo hxr hPM hPM2
    go_wp2_with (first | (refine wpList_load_bigG 35 b4 _ _ _ rfl HK5.out rfl Tryz.underlying35 rfl (by kernel_rfl) ?_; simp only [Act.put, List.setIfInBounds_toArray, List.set_cons_succ, List.set_cons_zero]) | (refine wpList_load_bigG 35 w.heap.size _ _ _ rfl HK1.out rfl Tryz.underlying35 rfl (by kernel_rfl) ?_; simp only [Act.put, List.setIfInBounds_toArray, List.set_cons_succ, List.set_cons_zero]))
    refine HC.out.mono ?_
    rintro e W6 ⟨rfl, hx6⟩
    cases PM
    all_goals
      go_wp2_with fail
      go_ret
      exact ⟨rfl, hx.tr hx6⟩
  have hPM : PM = false := by rw [hU.out]; simp [hasP, h6, h17, h1]
  have b6 : (p.h.proto == 6) = false := by simpa using h6
  have b17 : (p.h.proto == 17) = false := by simpa using h17
  have b1 : (p.h.proto == 1) = false := by simpa using h1
  clear h6 h17 h1 hU
  obtain rfl := hPM
  go_wp2_with fail
  go_ret
  exact ⟨rfl, hx⟩

theorem r9put_any (p : Pk) (vh vo vg vd vm : Value) (w : World) (hp : p.ok) (r : PkR w p vh vo vg vd vm) (hn : p.len) (hos : p.g.os.length ≤ 1000000000) :
    Calls Tryz.prog 6 #[.agg (p.cells vh vo vg vd vm)] w fun e w' => ∃ u, e = .returned (.tuple #[u, .int .i64 (pput p).2]) ∧ Fr w' w.heap.size 5 .u8 u (pput p).1 ∧ Ext w w' := by
  have R := Lib.hid r
  have HP := Lib.hid hp
  have HL := Lib.hid hn
  have HOS := Lib.hid hos
  have HC0 := Lib.hid (fun (W : World) (hx : Ext w W) => r9may_any p vh vo vg vd vm W hp (r.ext hx) hn.h)
  have HT := Lib.hid (plput_len p)
  have hU : Hid (pput p = if p.may = false then ([], 1) else if (plput p).2 ≠ 0 then ([], (plput p).2) else hput p.h (plput p).1) := rfl
  have hM : Hid (p.may = true → hasP p.h.proto = true) := fun h => by
    unfold Pk.may at h
    revert h
    cases hasP p.h.proto <;> simp
  generalize pput p = PP at *
  clear r hp hn hos
  obtain ⟨ah, ch, rfl, -⟩ := id R.out.h
  obtain ⟨ao, co, rfl⟩ := R.out.o.shape
  obtain ⟨ag, cg, rfl, -⟩ := id R.out.g
  obtain ⟨ad, cd, rfl, -⟩ := id R.out.d
  obtain ⟨am, cm, rfl, -⟩ := id R.out.m
  generalize p.may = my at *
  go_enter Tryz.func6, Tryz.ntmps6
  go_upto_region 1 with (fail)
  generalize hW : World.alloc w _ = W
  have hxW : Ext w W := by rw [← hW]; exact Ext.new _ _
  have k1 : W.heap[w.heap.size]? = some (.cells (p.cells (.slice ah p.h.op.length ch) (.slice ao p.g.os.length co) (.slice ag p.g.data.length cg) (.slice ad p.d.data.length cd) (.slice am p.m.data.length cm)) 35) := by rw [← hW]; exact heap_alloc_new w _
  clear hW
  go_wp2_with (refine wpList_load_bigG 35 w.heap.size _ _ _ rfl k1 rfl Tryz.underlying35 rfl (by kernel_rfl) ?_; simp only [Act.put, List.setIfInBounds_toArray, List.set_cons_succ, List.set_cons_zero])
  refine (HC0.out W hxW).mono ?_
  clear HC0
  rintro e W1 ⟨rfl, hx1⟩
  have k1 := hx1.block k1
  have hxw := hxW.tr hx1
  clear hxW hx1
  cases my
  · go_wp2_with fail
    go_ret2
    refine ⟨_, by rw [hU.out]; rfl, ?_, hxw⟩
    rw [hU.out]
    exact .inr ⟨_, rfl, rfl⟩
  have hM2 := hM.out rfl
  have hU2 : Hid (PP = if (plput p).2 ≠ 0 then ([], (plput p).2) else hput p.h (plput p).1) := by rw [hU.out]; rfl
  clear hU hM
  have c4 := cell_blk k1 4
  have c5 := cell_blk k1 5
  have c6 := cell_blk k1 6
  simp at c4 c5 c6
  have HK1 := Lib.hid k1
  obtain ⟨rh, rg, rd, rm⟩ := pk_rng k1
  clear k1
  by_cases h6 : p.h.proto = 6
  · have hpl : plput p = tput p.h.src p.h.dst p.g := by unfold plput; rw [if_pos h6]
    have HC := Lib.hid (r6put_any p.h.src p.h.dst p.g _ _ W1 HP.out.g (R.out.o.ext hxw) (R.out.g.ext hxw) HP.out.h.src HP.out.h.dst HL.out.g HOS.out)
    rw [← hpl] at HC
    clear hpl
    generalize plput p = TP at *
    obtain ⟨T, E⟩ := TP
    dsimp only at HC hU2 HT
    rw [h6] at c4
    clear h6
    go_wp2_with (refine wpList_load_midG rfl 29 _ rfl w.heap.size 8 rfl _ _ rg Tryz.underlying29 rfl (by kernel_rfl) ?_)
    refine HC.out.mono ?_
    rintro e W2 ⟨u, rfl, hu, hx2⟩
    have hxw2 := hxw.tr hx2
    have rh := range_ext rh hx2
    obtain ⟨au, nu, cu, rfl⟩ := hu.rd.shape
    clear HC rg rd rm c4 c5 c6
    by_cases hE : E = 0
    · subst hE
      have hU3 : Hid (PP = hput p.h T) := by rw [hU2.out]; rfl
      have HI := Lib.hid (r4put_any p.h _ _ T W2 HP.out.h (R.out.h.ext hxw2) hu.rd HL.out.h HT.out)
      rw [← hU3.out] at HI
      clear hU2 hU3 hx2
      go_wp2_with (refine wpList_load_midG rfl 26 _ rfl w.heap.size 0 rfl _ _ rh Tryz.underlying26 rfl (by kernel_rfl) ?_)
      refine HI.out.mono ?_
      rintro e W3 ⟨v, rfl, hv, hx3⟩
      obtain ⟨a3, n3, c3, rfl⟩ := hv.rd.shape
      clear rh HI
      go_wp2_with fail
      go_ret2
      exact ⟨_, rfl, .inl (hv.low hxw2.size), hxw2.tr hx3⟩
    · have bE : (E != 0) = true := by simpa using hE
      go_wp2_with fail
      go_ret2
      obtain rfl : PP = ([], E) := by rw [hU2.out, if_pos (by simpa using hE)]
      exact ⟨_, rfl, .inr ⟨_, rfl, rfl⟩, hxw2⟩
  by_cases h17 : p.h.proto = 17
  · have hpl : plput p = uput p.h.src p.h.dst p.d.sp p.d.dp p.d.data := by unfold plput; rw [if_neg h6, if_pos h17]
    have HC := Lib.hid (r7put_any p.h.src p.h.dst p.d.sp p.d.dp _ p.d.data W1 (R.out.d.ext hxw) HP.out.d.data HP.out.h.src HP.out.h.dst HP.out.d.sp HP.out.d.dp HL.out.d)
    rw [← hpl] at HC
    clear hpl
    generalize plput p = TP at *
    obtain ⟨T, E⟩ := TP
    dsimp only at HC hU2 HT
    rw [h17] at c4
    clear h17
    go_wp2_with (refine wpList_load_midG rfl 31 _ rfl w.heap.size 17 rfl _ _ rd Tryz.underlying31 rfl (by kernel_rfl) ?_)
    refine HC.out.mono ?_
    rintro e W2 ⟨u, rfl, hu, hx2⟩
    have hxw2 := hxw.tr hx2
    have rh := range_ext rh hx2
    obtain ⟨au, nu, cu, rfl⟩ := hu.rd.shape
    clear HC rg rd rm c4 c5 c6
    by_cases hE : E = 0
    · subst hE
      have hU3 : Hid (PP = hput p.h T) := by rw [hU2.out]; rfl
      have HI := Lib.hid (r4put_any p.h _ _ T W2 HP.out.h (R.out.h.ext hxw2) hu.rd HL.out.h HT.out)
      rw [← hU3.out] at HI
      clear hU2 hU3 hx2
      go_wp2_with (refine wpList_load_midG rfl 26 _ rfl w.heap.size 0 rfl _ _ rh Tryz.underlying26 rfl (by kernel_rfl) ?_)
      refine HI.out.mono ?_
      rintro e W3 ⟨v, rfl, hv, hx3⟩
      obtain ⟨a3, n3, c3, rfl⟩ := hv.rd.shape
      clear rh HI
      go_wp2_with fail
      go_ret2
      exact ⟨_, rfl, .inl (hv.low hxw2.size), hxw2.tr hx3⟩
    · have bE : (E != 0) = true := by simpa using hE
      go_wp2_with fail
      go_ret2
      obtain rfl : PP = ([], E) := by rw [hU2.out, if_pos (by simpa using hE)]
      exact ⟨_, rfl, .inr ⟨_, rfl, rfl⟩, hxw2⟩
  by_cases h1 : p.h.proto = 1
  · have hpl : plput p = mput p.m := by unfold plput; rw [if_neg h6, if_neg h17]
    have HC := Lib.hid (r8put_any p.m _ W1 HP.out.m (R.out.m.ext hxw) HL.out.m)
    rw [← hpl] at HC
    clear hpl
    generalize plput p = TP at *
    obtain ⟨T, E⟩ := TP
    dsimp only at HC hU2 HT
    rw [h1] at c4
    clear h1
    go_wp2_with (refine wpList_load_midG rfl 33 _ rfl w.heap.size 20 rfl _ _ rm Tryz.underlying33 rfl (by kernel_rfl) ?_)
    refine HC.out.mono ?_
    rintro e W2 ⟨u, rfl, hu, hx2⟩
    have hxw2 := hxw.tr hx2
    have rh := range_ext rh hx2
    obtain ⟨au, nu, cu, rfl⟩ := hu.rd.shape
    clear HC rg rd rm c4 c5 c6
    by_cases hE : E = 0
    · subst hE
      have hU3 : Hid (PP = hput p.h T) := by rw [hU2.out]; rfl
      have HI := Lib.hid (r4put_any p.h _ _ T W2 HP.out.h (R.out.h.ext hxw2) hu.rd HL.out.h HT.out)
      rw [← hU3.out] at HI
      clear hU2 hU3 hx2
      go_wp2_with (refine wpList_load_midG rfl 26 _ rfl w.heap.size 0 rfl _ _ rh Tryz.underlying26 rfl (by kernel_rfl) ?_)
      refine HI.out.mono ?_
      rintro e W3 ⟨v, rfl, hv, hx3⟩
      obtain ⟨a3, n3, c3, rfl⟩ := hv.rd.shape
      clear rh HI
      go_wp2_with fail
      go_ret2
      exact ⟨_, rfl, .inl (hv.low hxw2.size), hxw2.tr hx3⟩
    · have bE : (E != 0) = true := by simpa using hE
      go_wp2_with fail
      go_ret2
      obtain rfl : PP = ([], E) := by rw [hU2.out, if_pos (by simpa using hE)]
      exact ⟨_, rfl, .inr ⟨_, rfl, rfl⟩, hxw2⟩
  exact absurd hM2 (by simp [hasP, h6, h17, h1])
end Go.Proofs.YtbaidlkjbdeceaaGreat
namespace Go.Proofs.YtbaidlkjbdeceaaGreat.packetPuts
set_option maxRecDepth 200000
open Go.ChangeShapes Go.WideShapes Go.ChangeAt Go.RowKit Go.Cul Go.Loose
set_option linter.unusedVariables false
attribute [local go_sem] Loose.Still Loose.Upon Loose.vUpon First.pUpon

theorem agg_at {C D : Array Value} (h : Value.agg C = Value.agg D) (i : Nat) : C[i]? = D[i]? := by cases h; rfl
/-- A packet that few told. -/
def FxV (w0 : World) (base : Nat) (q : Pk) (v : Value) (w : World) : Prop := ∃ a1 n1 c1 a2 n2 c2 a3 n3 c3 a4 n4 c4 a5 n5 c5, v = .agg (q.cells (.slice a1 n1 c1) (.slice a2 n2 c2) (.slice a3 n3 c3) (.slice a4 n4 c4) (.slice a5 n5 c5)) ∧ FxR w0 w base q (.slice a1 n1 c1) (.slice a2 n2 c2) (.slice a3 n3 c3) (.slice a4 n4 c4) (.slice a5 n5 c5)
theorem FxV.lasts {w0 : World} {base : Nat} {q : Pk} : ∀ v w w', Ext w w' → FxV w0 base q v w → FxV w0 base q v w' := fun v w w' hx ⟨a1, n1, c1, a2, n2, c2, a3, n3, c3, a4, n4, c4, a5, n5, c5, h1, h2⟩ => ⟨a1, n1, c1, a2, n2, c2, a3, n3, c3, a4, n4, c4, a5, n5, c5, h1, h2.ext hx⟩
theorem FxV.r {w0 w : World} {base : Nat} {q : Pk} {vh vo vg vd vm : Value} (h : FxV w0 base q (.agg (q.cells vh vo vg vd vm)) w) : FxR w0 w base q vh vo vg vd vm := by
  obtain ⟨a1, n1, c1, a2, n2, c2, a3, n3, c3, a4, n4, c4, a5, n5, c5, he, hr⟩ := h
  have e1 : vh = .slice a1 n1 c1 := by simpa using agg_at he 7
  have e2 : vo = .slice a2 n2 c2 := by simpa using agg_at he 15
  have e3 : vg = .slice a3 n3 c3 := by simpa using agg_at he 16
  have e4 : vd = .slice a4 n4 c4 := by simpa using agg_at he 19
  have e5 : vm = .slice a5 n5 c5 := by simpa using agg_at he 23
  rw [e1, e2, e3, e4, e5]
  exact hr
theorem FxR.lowS {w0 w : World} {base base' : Nat} {p : Pk} {vh vo vg vd vm : Value} (h : FxR w0 w base p vh vo vg vd vm) (hb : base' ≤ base) : FxR w0 w base' p vh vo vg vd vm := ⟨h.h, h.o.lowS hb, h.g, h.d, h.m⟩
theorem fx1_idem (o : Op1) : fx1 (fx1 o) = fx1 o := by simp [fx1, List.take_take]
theorem fxO_idem (os : List Op1) : fxO (fxO os) = fxO os := by
  unfold fxO
  rw [← List.map_take, List.take_take, List.map_map]
  exact List.map_congr_left (fun o _ => fx1_idem o)
theorem fxP_idem (p : Pk) : fxP (fxP p) = fxP p := by
  unfold fxP
  simp only [List.take_take, Nat.min_self, fxO_idem]
theorem pput_byt (p : Pk) (ok : p.ok) : Byt (pput p).1 := by
  rcases pput_right p ok with ⟨E, hE, he⟩ | ⟨H, Pl, he, -, -, -, -, -, h1, h2, -⟩
  · rw [he]; exact byt0
  · rw [he]; exact h1.app h2

set_option maxHeartbeats 8000000
set_option maxRecDepth 100000
theorem walk (w : World) (cs0 : Array Value) (g0 : Reads w pkSh cs0.toList) (cs1 : Array Value) (g1 : Reads w pkSh cs1.toList) : Calls Tryz.prog 3 #[.agg cs0, .agg cs1] w fun e w' => e = .returned (.bool true) ∧ Ext w w' := by
  obtain ⟨p, vh, vo, vg, vd, vm, rfl, ok1, r1⟩ := open_pk9 g0
  obtain ⟨q, vh', vo', vg', vd', vm', rfl, ok2, r2⟩ := open_pk9 g1
  have HF1 := Lib.hid (fun (W : World) (hx : Ext w W) => few9_of p vh vo vg vd vm w W hx r1)
  have HF2 := Lib.hid (fun (W : World) (hx : Ext w W) => few9_of q vh' vo' vg' vd' vm' w W hx r2)
  have OK1 := Lib.hid (fxP_ok ok1)
  have OK2 := Lib.hid (fxP_ok ok2)
  have LN1 := Lib.hid (fxP_len p)
  have LO1 : Hid ((fxP p).g.os.length ≤ 1000000000) := Nat.le_trans (fxO_len p.g.os) (by decide)
  have HID := Lib.hid (fxP_idem p)
  have HB1 := Lib.hid (pput_byt _ OK1.out)
  clear g0 g1 ok1 ok2 r1 r2
  generalize fxP p = P at *
  generalize fxP q = R at *
  go_enter Tryz.func3, Tryz.ntmps3
  go_upto_region 1 with (fail)
  generalize hW : World.alloc (World.alloc w _) _ = W
  have hxW : Ext w W := by rw [← hW]; exact (Ext.new _ _).al _
  have k2 : W.heap[w.heap.size]? = some (.cells (p.cells vh vo vg vd vm) 35) := by rw [← hW]; exact new9a w _ _
  have k3 : W.heap[w.heap.size + 1]? = some (.cells (q.cells vh' vo' vg' vd' vm') 35) := by rw [← hW]; exact new9b w _ _
  clear hW
  have HK2 := Lib.hid k2
  have HK3 := Lib.hid k3
  have hws := lt_of_block k3
  clear k2 k3
  refine wp_region_tail 4 [(1, FxV w W.heap.size P), (3, FxV w W.heap.size R)] (lasts_cons FxV.lasts (lasts_cons FxV.lasts lasts_nil)) (by kernel_rfl) (by kernel_rfl) (by kernel_rfl) ?_
  simp only [List.take, List.drop]
  apply wpL_none rfl rfl
  · intro w' hw' hn'
    exact still_load 35 _ rfl w.heap.size _ rfl (p.cells vh vo vg vd vm) _ (fun j v hv => by rw [Nat.zero_add, cell_blk (Ext.block hw' HK2.out)]; simpa using hv) Tryz.underlying35 rfl (by kernel_rfl)
  intro K hK; go_simp; refine hK _ _ ?_; clear hK K
  apply wpL_some rfl rfl
  · intro w' hw' hn'
    have hw2 : Ext W w' := hw'
    go_simp
    refine ⟨Ext.rfl' _, ?_⟩
    refine (HF1.out w' (hxW.tr hw2)).mono ?_
    rintro e w2 ⟨a1, n1, c1, a2, n2, c2, a3, n3, c3, a4, n4, c4, a5, n5, c5, rfl, r, hx⟩
    exact ⟨_, rfl, hx, _, _, _, _, _, _, _, _, _, _, _, _, _, _, _, rfl, FxR.lowS r hw2.size⟩
  intro v w' hw' hD' hv
  obtain ⟨a1, n1, c1, a2, n2, c2, a3, n3, c3, a4, n4, c4, a5, n5, c5, rfl, -⟩ := hv
  clear hw' hD' w'
  intro K hK; go_simp; refine hK _ _ ?_; clear hK K
  apply wpL_none rfl rfl
  · intro w' hw' hn'
    exact still_load 35 _ rfl (w.heap.size + 1) _ rfl (q.cells vh' vo' vg' vd' vm') _ (fun j v hv => by rw [Nat.zero_add, cell_blk (Ext.block hw' HK3.out)]; simpa using hv) Tryz.underlying35 rfl (by kernel_rfl)
  intro K hK; go_simp; refine hK _ _ ?_; clear hK K
  apply wpL_some rfl rfl
  · intro w' hw' hn'
    have hw2 : Ext W w' := hw'
    go_simp
    refine ⟨Ext.rfl' _, ?_⟩
    refine (HF2.out w' (hxW.tr hw2)).mono ?_
    rintro e w2 ⟨b1, m1, d1, b2, m2, d2, b3, m3, d3, b4, m4, d4, b5, m5, d5, rfl, r, hx⟩
    exact ⟨_, rfl, hx, _, _, _, _, _, _, _, _, _, _, _, _, _, _, _, rfl, FxR.lowS r hw2.size⟩
  intro v w' hw' hD' hv
  obtain ⟨b1, m1, d1, b2, m2, d2, b3, m3, d3, b4, m4, d4, b5, m5, d5, rfl, -⟩ := hv
  clear hw' hD' w'
  intro K hK; go_simp; refine hK _ _ ?_; clear hK K
  refine wpL_nil ?_
  intro w' hw' hD'
  have hw' : Ext W w' := hw'
  have f1 := hD' 1
  have f2 := hD' 3
  simp [Loose.upd] at f1 f2
  have f1 := FxV.r f1
  have f2 := FxV.r f2
  clear hD' HF1 HF2
  refine wpVL_put_row 35 w.heap.size _ (P.cells (.slice a1 n1 c1) (.slice a2 n2 c2) (.slice a3 n3 c3) (.slice a4 n4 c4) (.slice a5 n5 c5)) _ rfl rfl (hw'.block HK2.out) (by kernel_rfl) rfl (pk_one9 _ _ _ _ _ _ _ _ _ _ _ _ _ _ _ _) ?_
  intro V1 k2 m1'
  refine wpVL_put_row 35 (w.heap.size + 1) _ (R.cells (.slice b1 m1 d1) (.slice b2 m2 d2) (.slice b3 m3 d3) (.slice b4 m4 d4) (.slice b5 m5 d5)) _ rfl rfl (m1'.keep (hw'.block HK3.out) (by omega)) (by kernel_rfl) rfl (pk_one9 _ _ _ _ _ _ _ _ _ _ _ _ _ _ _ _) ?_
  intro V k3 m2'
  refine wpVL_nil ?_
  have k2 := m2'.keep k2 (by omega)
  have hx : Ext w V := m2'.ext (m1'.ext (hxW.tr hw') (fun j hj => by omega)) (fun j hj => by omega)
  have f1 := (f1.keep (Keep.ofMvs m1' (fun j hj => by omega))).keep (Keep.ofMvs m2' (fun j hj => by omega))
  have f2 := (f2.keep (Keep.ofMvs m1' (fun j hj => by omega))).keep (Keep.ofMvs m2' (fun j hj => by omega))
  have R1 := Lib.hid (f1.pk (by omega) hx)
  have R2 := Lib.hid (f2.pk (by omega) hx)
  have HK3 := Lib.hid k3
  clear m1' m2' f1 f2 k3 HK2 hw' hxW
  try simp only [Act.put]
  go_wp2_with (refine wpList_load_bigG 35 w.heap.size _ _ _ rfl k2 rfl Tryz.underlying35 rfl (by kernel_rfl) ?_; simp only [Act.put, List.setIfInBounds_toArray, List.set_cons_succ, List.set_cons_zero])
  refine (pput_any P _ _ _ _ _ V OK1.out R1.out LN1.out).mono ?_
  rintro e V2 ⟨u1, rfl, hu1, hx2⟩
  have k2 := hx2.block k2
  have HK3 := Lib.hid (hx2.block HK3.out)
  have hx := hx.tr hx2
  have R1 := Lib.hid (R1.out.ext hx2)
  have R2 := Lib.hid (R2.out.ext hx2)
  have hr1 := hu1.rd
  obtain ⟨e1, l1, z1, rfl⟩ := hr1.shape
  clear hu1 hx2
  go_wp2_with (refine wpList_load_bigG 35 w.heap.size _ _ _ rfl k2 rfl Tryz.underlying35 rfl (by kernel_rfl) ?_; simp only [Act.put, List.setIfInBounds_toArray, List.set_cons_succ, List.set_cons_zero])
  refine (r9put_any P _ _ _ _ _ V2 OK1.out R1.out LN1.out LO1.out).mono ?_
  rintro e V3 ⟨u2, rfl, hu2, hx3⟩
  have HK2 := Lib.hid (hx3.block k2)
  have HK3 := Lib.hid (hx3.block HK3.out)
  have hx := hx.tr hx3
  have R1 := Lib.hid (R1.out.ext hx3)
  have R2 := Lib.hid (R2.out.ext hx3)
  have HR1 := Lib.hid (hr1.ext hx3)
  have HR2 := Lib.hid hu2.rd
  obtain ⟨e2, l2, z2, rfl⟩ := hu2.rd.shape
  clear hu2 hx3 hr1 k2
  have HM1 := Lib.hid (fun (W : World) (hx : Ext V3 W) => pmay_any P _ _ _ _ _ W OK1.out (R1.out.ext hx) LN1.out.h)
  have HM2 := Lib.hid (fun (W : World) (hx : Ext V3 W) => r9may_any P _ _ _ _ _ W OK1.out (R1.out.ext hx) LN1.out.h)
  have HS1 := Lib.hid (fun (W : World) (hx : Ext V3 W) => psame_any P R _ _ _ _ _ _ _ _ _ _ W OK1.out OK2.out (R1.out.ext hx) (R2.out.ext hx))
  have HS2 := Lib.hid (fun (W : World) (hx : Ext V3 W) => r9same_any P R _ _ _ _ _ _ _ _ _ _ W OK1.out OK2.out (R1.out.ext hx) (R2.out.ext hx))
  have HEQ : Hid (∀ (W : World), Ext V3 W → Calls Tryz.prog 8 #[.slice e1 l1 z1, .slice e2 l2 z2] W fun e w' => e = .returned (.bool true) ∧ Ext W w') := fun W hx => by
    refine (beq_any _ _ _ _ W (HR1.out.ext hx) (HR2.out.ext hx) HB1.out HB1.out).mono ?_
    rintro e w' ⟨rfl, hx⟩
    exact ⟨by simp, hx⟩
  generalize (pput P).2 = E at *
  generalize P.may = MAY at *
  generalize psame P R = PS at *
  clear HR1 HR2 HB1
  go_upto_region 4 with (fail)
  refine wp_region_grow [(0, Loose.is (.bool true)), (9, Loose.is (.bool true)), (13, Loose.is (.bool MAY)), (15, Loose.is (.bool MAY)), (21, Loose.is (.bool PS)), (24, Loose.is (.bool PS)), (30, FxV V3 V3.heap.size P), (31, Loose.is (.bool true))] (lasts_is (lasts_is (lasts_is (lasts_is (lasts_is (lasts_is (lasts_cons FxV.lasts (lasts_is lasts_nil)))))))) (by kernel_rfl) (by kernel_rfl) ?_
  apply wpL_some rfl rfl
  · intro w' hw' hn'
    go_simp
    refine ⟨Ext.rfl' _, ?_⟩
    refine ((awake9_any w')).mono ?_
    rintro e w2 ⟨rfl, hx⟩
    exact ⟨_, rfl, hx, rfl⟩
  intro v w' hw' hD' hv
  obtain rfl : v = _ := hv
  clear hw' hD' w'
  intro K hK; go_simp; refine hK _ _ ?_; clear hK K
  iterate 8
    apply wpL_none rfl rfl
    · intro w' hw' hn'; go_simp; exact rfl
    intro K hK; go_simp; refine hK _ _ ?_; clear hK K
  apply wpL_some rfl rfl
  · intro w' hw' hn'
    go_simp
    refine ⟨Ext.rfl' _, ?_⟩
    refine ((HEQ.out w' hw')).mono ?_
    rintro e w2 ⟨rfl, hx⟩
    exact ⟨_, rfl, hx, rfl⟩
  intro v w' hw' hD' hv
  obtain rfl : v = _ := hv
  clear hw' hD' w'
  intro K hK; go_simp; refine hK _ _ ?_; clear hK K
  iterate 2
    apply wpL_none rfl rfl
    · intro w' hw' hn'; go_simp; exact rfl
    intro K hK; go_simp; refine hK _ _ ?_; clear hK K
  apply wpL_none rfl rfl
  · intro w' hw' hn'
    exact still_load 35 _ rfl w.heap.size _ rfl (P.cells (.slice a1 n1 c1) (.slice a2 n2 c2) (.slice a3 n3 c3) (.slice a4 n4 c4) (.slice a5 n5 c5)) _ (fun j v hv => by rw [Nat.zero_add, cell_blk (Ext.block hw' HK2.out)]; simpa using hv) Tryz.underlying35 rfl (by kernel_rfl)
  intro K hK; go_simp; refine hK _ _ ?_; clear hK K
  apply wpL_some rfl rfl
  · intro w' hw' hn'
    go_simp
    refine ⟨Ext.rfl' _, ?_⟩
    refine ((HM1.out w' hw')).mono ?_
    rintro e w2 ⟨rfl, hx⟩
    exact ⟨_, rfl, hx, rfl⟩
  intro v w' hw' hD' hv
  obtain rfl : v = _ := hv
  clear hw' hD' w'
  intro K hK; go_simp; refine hK _ _ ?_; clear hK K
  apply wpL_none rfl rfl
  · intro w' hw' hn'
    exact still_load 35 _ rfl w.heap.size _ rfl (P.cells (.slice a1 n1 c1) (.slice a2 n2 c2) (.slice a3 n3 c3) (.slice a4 n4 c4) (.slice a5 n5 c5)) _ (fun j v hv => by rw [Nat.zero_add, cell_blk (Ext.block hw' HK2.out)]; simpa using hv) Tryz.underlying35 rfl (by kernel_rfl)
  intro K hK; go_simp; refine hK _ _ ?_; clear hK K
  apply wpL_some rfl rfl
  · intro w' hw' hn'
    go_simp
    refine ⟨Ext.rfl' _, ?_⟩
    refine ((HM2.out w' hw')).mono ?_
    rintro e w2 ⟨rfl, hx⟩
    exact ⟨_, rfl, hx, rfl⟩
  intro v w' hw' hD' hv
  obtain rfl : v = _ := hv
  clear hw' hD' w'
  intro K hK; go_simp; refine hK _ _ ?_; clear hK K
  iterate 3
    apply wpL_none rfl rfl
    · intro w' hw' hn'; go_simp; exact rfl
    intro K hK; go_simp; refine hK _ _ ?_; clear hK K
  apply wpL_none rfl rfl
  · intro w' hw' hn'
    exact still_load 35 _ rfl w.heap.size _ rfl (P.cells (.slice a1 n1 c1) (.slice a2 n2 c2) (.slice a3 n3 c3) (.slice a4 n4 c4) (.slice a5 n5 c5)) _ (fun j v hv => by rw [Nat.zero_add, cell_blk (Ext.block hw' HK2.out)]; simpa using hv) Tryz.underlying35 rfl (by kernel_rfl)
  intro K hK; go_simp; refine hK _ _ ?_; clear hK K
  apply wpL_none rfl rfl
  · intro w' hw' hn'
    exact still_load 35 _ rfl (w.heap.size + 1) _ rfl (R.cells (.slice b1 m1 d1) (.slice b2 m2 d2) (.slice b3 m3 d3) (.slice b4 m4 d4) (.slice b5 m5 d5)) _ (fun j v hv => by rw [Nat.zero_add, cell_blk (Ext.block hw' HK3.out)]; simpa using hv) Tryz.underlying35 rfl (by kernel_rfl)
  intro K hK; go_simp; refine hK _ _ ?_; clear hK K
  apply wpL_some rfl rfl
  · intro w' hw' hn'
    go_simp
    refine ⟨Ext.rfl' _, ?_⟩
    refine ((HS1.out w' hw')).mono ?_
    rintro e w2 ⟨rfl, hx⟩
    exact ⟨_, rfl, hx, rfl⟩
  intro v w' hw' hD' hv
  obtain rfl : v = _ := hv
  clear hw' hD' w'
  intro K hK; go_simp; refine hK _ _ ?_; clear hK K
  apply wpL_none rfl rfl
  · intro w' hw' hn'
    exact still_load 35 _ rfl w.heap.size _ rfl (P.cells (.slice a1 n1 c1) (.slice a2 n2 c2) (.slice a3 n3 c3) (.slice a4 n4 c4) (.slice a5 n5 c5)) _ (fun j v hv => by rw [Nat.zero_add, cell_blk (Ext.block hw' HK2.out)]; simpa using hv) Tryz.underlying35 rfl (by kernel_rfl)
  intro K hK; go_simp; refine hK _ _ ?_; clear hK K
  apply wpL_none rfl rfl
  · intro w' hw' hn'
    exact still_load 35 _ rfl (w.heap.size + 1) _ rfl (R.cells (.slice b1 m1 d1) (.slice b2 m2 d2) (.slice b3 m3 d3) (.slice b4 m4 d4) (.slice b5 m5 d5)) _ (fun j v hv => by rw [Nat.zero_add, cell_blk (Ext.block hw' HK3.out)]; simpa using hv) Tryz.underlying35 rfl (by kernel_rfl)
  intro K hK; go_simp; refine hK _ _ ?_; clear hK K
  apply wpL_some rfl rfl
  · intro w' hw' hn'
    go_simp
    refine ⟨Ext.rfl' _, ?_⟩
    refine ((HS2.out w' hw')).mono ?_
    rintro e w2 ⟨rfl, hx⟩
    exact ⟨_, rfl, hx, rfl⟩
  intro v w' hw' hD' hv
  obtain rfl : v = _ := hv
  clear hw' hD' w'
  intro K hK; go_simp; refine hK _ _ ?_; clear hK K
  iterate 3
    apply wpL_none rfl rfl
    · intro w' hw' hn'; go_simp; exact rfl
    intro K hK; go_simp; refine hK _ _ ?_; clear hK K
  apply wpL_none rfl rfl
  · intro w' hw' hn'
    exact still_load 35 _ rfl w.heap.size _ rfl (P.cells (.slice a1 n1 c1) (.slice a2 n2 c2) (.slice a3 n3 c3) (.slice a4 n4 c4) (.slice a5 n5 c5)) _ (fun j v hv => by rw [Nat.zero_add, cell_blk (Ext.block hw' HK2.out)]; simpa using hv) Tryz.underlying35 rfl (by kernel_rfl)
  intro K hK; go_simp; refine hK _ _ ?_; clear hK K
  apply wpL_none rfl rfl
  · intro w' hw' hn'
    exact still_load 35 _ rfl w.heap.size _ rfl (P.cells (.slice a1 n1 c1) (.slice a2 n2 c2) (.slice a3 n3 c3) (.slice a4 n4 c4) (.slice a5 n5 c5)) _ (fun j v hv => by rw [Nat.zero_add, cell_blk (Ext.block hw' HK2.out)]; simpa using hv) Tryz.underlying35 rfl (by kernel_rfl)
  intro K hK; go_simp; refine hK _ _ ?_; clear hK K
  apply wpL_some rfl rfl
  · intro w' hw' hn'
    have hw2 : Ext V3 w' := hw'
    go_simp
    refine ⟨Ext.rfl' _, ?_⟩
    have hf := few9_of P _ _ _ _ _ V3 w' hw2 R1.out
    rw [HID.out] at hf
    refine hf.mono ?_
    rintro e w2 ⟨x1, y1, s1, x2, y2, s2, x3, y3, s3, x4, y4, s4, x5, y5, s5, rfl, r, hx⟩
    exact ⟨_, rfl, hx, _, _, _, _, _, _, _, _, _, _, _, _, _, _, _, rfl, FxR.lowS r hw2.size⟩
  intro v w' hw' hD' hv
  obtain ⟨x1, y1, s1, x2, y2, s2, x3, y3, s3, x4, y4, s4, x5, y5, s5, rfl, -⟩ := hv
  clear hw' hD' w'
  intro K hK; go_simp; refine hK _ _ ?_; clear hK K
  apply wpL_some rfl rfl
  · intro w' hw' hn'
    have hw2 : Ext V3 w' := hw'
    have hf : FxV V3 V3.heap.size P (.agg (P.cells (.slice x1 y1 s1) (.slice x2 y2 s2) (.slice x3 y3 s3) (.slice x4 y4 s4) (.slice x5 y5 s5))) w' := hn' ⟨30, .data⟩ (by simp) rfl
    have hr := hf.r.pk (Nat.le_refl _) hw2
    go_simp
    refine ⟨Ext.rfl' _, ?_⟩
    refine (psame_any P P _ _ _ _ _ _ _ _ _ _ w' OK1.out OK1.out (R1.out.ext hw2) hr).mono ?_
    rintro e w2 ⟨rfl, hx⟩
    exact ⟨_, rfl, hx, by rw [(psame_iff P P).2 rfl]; rfl⟩
  intro v w' hw' hD' hv
  obtain rfl := hv
  clear hw' hD' w'
  intro K hK; go_simp; refine hK _ _ ?_; clear hK K
  iterate 2
    apply wpL_none rfl rfl
    · intro w' hw' hn'; go_simp; exact rfl
    intro K hK; go_simp; refine hK _ _ ?_; clear hK K
  refine wpL_nil ?_
  intro W9 hx9 _
  have hx9 : Ext V3 W9 := hx9
  go_wp2_with fail
  go_ret
  exact ⟨rfl, hx.tr hx9⟩
end Go.Proofs.YtbaidlkjbdeceaaGreat.packetPuts
