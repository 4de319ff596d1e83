/-
  Proved here: what packet.May and packet.Put compute, for every packet: the walks.
-/
import Derived.Test.YtbaidlkjbdeceaaGreatPkP
namespace Go.Proofs.YtbaidlkjbdeceaaGreat
set_option maxRecDepth 200000
open Go.ChangeShapes Go.WideShapes Go.ChangeAt Go.RowKit Go.Cul Go.Loose
set_option linter.unusedVariables false
attribute [local go_sem] Loose.Still Loose.Upon Loose.vUpon First.pUpon

/-- A large struct built, under a guard that holds. -/
theorem wpList_build_bigG {P : Program} (ty : TypeId) {dst : Option Tmp} {parts : Array (Nat × Operand)} {tt : TypeId} {pos : String} {after : Array Edge} {gd : Option (Nat × Bool)} {ops : Array Oper} {rest : List Oper} {a : Act} {w : World} {Q : Exit → Act → World → Prop}
    (C : Array Value) (vs : Array (Nat × Value)) (hw : Region.wanted { dst := dst, op := .build ty parts, type := tt, pos := pos, after := after, guard := gd } (yielded ops a.tmps) = true) (hv : (parts.map fun (i, x) => (i, a.eval x)) = vs) (hb : P.built ty vs.toList = some C)
    (h : wpList P ops Q rest (a.put dst (.agg C)) w) : wpList P ops Q ({ dst := dst, op := .build ty parts, type := tt, pos := pos, after := after, guard := gd } :: rest) a w :=
  wpList_step fun K hK => by
    rw [if_pos hw]
    unfold Oper.wp execOp
    simp only [hv, run_build w ty vs C hb, Sem.run_bind, Sem.run_pure, Result.andThen_ok]
    exact hK _ _ h

theorem look_parts {w : World} {r : Nat} (hb : w.heap[r]? = some (.map ents 3)) (p : Int) (c : Bool) : (Instr.lookup 52 (.map (some r)) (.int .u8 p) c).run Tryz.prog w = .ok (if c then .tuple #[partOf p, .bool (hasP p)] else partOf p) w := by
  have ht : Tryz.prog.underlying 52 = some (.map 5 51) := by kernel_rfl
  have hk : Tryz.prog.underlying 5 = some (.int .u8) := by kernel_rfl
  by_cases h6 : p = 6
  · subst h6
    exact run_lookup_int ht hk hb 6 (i := 0) (v := part6) rfl c
  by_cases h17 : p = 17
  · subst h17
    exact run_lookup_int ht hk hb 17 (i := 1) (v := part17) rfl c
  by_cases h1 : p = 1
  · subst h1
    exact run_lookup_int ht hk hb 1 (i := 2) (v := part1) rfl c
  have hz : (zeroValue 51).run Tryz.prog w = .ok (.agg #[.nilFunc, .nilFunc]) w := (zero_of_info (n := 2) (by kernel_rfl)).1 w
  have b6 : (p == 6) = false := by simpa using h6
  have b17 : (p == 17) = false := by simpa using h17
  have b1 : (p == 1) = false := by simpa using h1
  have := run_lookup_no ht hk hb p (by simp [Instr.findNow, Instr.sameNow, b6, b17, b1]) hz c
  rw [this]
  have e1 : partOf p = .agg #[.nilFunc, .nilFunc] := by unfold partOf; rw [if_neg h6, if_neg h17, if_neg h1]
  have e2 : hasP p = false := by simp [hasP, h6, h17, h1]
  rw [e1, e2]

theorem byt0 : Byt ([] : List Int) := fun x h => by cases h
theorem hd0 : pno.h.ok := ⟨by decide, by decide, by decide, by decide, by decide, by decide, byt0⟩
theorem sg0 : Sg.none.ok := ⟨by decide, by decide, by decide, by decide, by decide, by decide, by decide, (fun o h => by cases h), byt0⟩
theorem dg0 : Dg.none.ok := ⟨by decide, by decide, byt0⟩
theorem ms0 : Ms.none.ok := ⟨by decide, by decide, by decide, byt0⟩
def MVp (v : Value) (w : World) : Prop := ∃ r, v = .map (some r) ∧ w.heap[r]? = some (.map ents 3)
theorem MVp.lasts : ∀ v w w', Ext w w' → MVp v w → MVp v w' := fun v w w' hx ⟨r, h1, h2⟩ => ⟨r, h1, hx.block h2⟩
def NVp (w1 : World) (v : Value) (w : World) : Prop := ∃ g, v = .pointer (some ⟨g, 0, none⟩) ∧ w1.heap.size ≤ g ∧ w.heap[g]? = some (.cells #[.nilFunc, .nilFunc] 51)
theorem NVp.lasts {w1 : World} : ∀ v w w', Ext w w' → NVp w1 v w → NVp w1 v w' := fun v w w' hx ⟨r, h1, h0, h2⟩ => ⟨r, h1, h0, hx.block h2⟩
theorem part_shape (p : Int) : ∃ a b, partOf p = .agg #[a, b] ∧ a.oneCell' = true ∧ b.oneCell' = true := by
  unfold partOf
  split
  · exact ⟨_, _, rfl, rfl, rfl⟩
  split
  · exact ⟨_, _, rfl, rfl, rfl⟩
  split
  · exact ⟨_, _, rfl, rfl, rfl⟩
  · exact ⟨_, _, rfl, rfl, rfl⟩

set_option maxHeartbeats 20000000
set_option maxRecDepth 100000
theorem pmay_any (p : Pk) (vh vo vg vd vm : Value) (w : World) (hp : p.ok) (r : PkR w p vh vo vg vd vm) (hn : p.h.op.length ≤ 140737488351232) :
    Calls Tryz.prog 9 #[.agg (p.cells vh vo vg vd vm)] w fun e w' => e = .returned (.bool p.may) ∧ Ext w w' := by
  have hx0 := Ext.new w (.cells (p.cells vh vo vg vd vm) 35)
  have k1 := heap_alloc_new w (.cells (p.cells vh vo vg vd vm) 35)
  have R := Lib.hid r
  have HP := Lib.hid hp
  clear r hp
  obtain ⟨pa, pb, hpab, ho1, ho2⟩ := part_shape p.h.proto
  obtain ⟨ah, ch, rfl, -⟩ := id R.out.h
  obtain ⟨ao, co, rfl⟩ := R.out.o.shape
  obtain ⟨ag, cg, rfl, -⟩ := id R.out.g
  obtain ⟨ad, cd, rfl, -⟩ := id R.out.d
  obtain ⟨am, cm, rfl, -⟩ := id R.out.m
  go_enter Tryz.func9, Tryz.ntmps9
  go_upto_region 1 with (fail)
  generalize hW : World.alloc w _ = W at *
  clear hW
  have c4 := cell_blk k1 4
  simp at c4
  have HK1 := Lib.hid k1
  clear k1
  refine wp_region_tail 9 [(0, MVp), (8, NVp W)] ?_ (by kernel_rfl) (by kernel_rfl) (by kernel_rfl) ?_
  · exact lasts_cons MVp.lasts (lasts_cons NVp.lasts lasts_nil)
  simp only [List.take, List.drop]
  apply wpL_some rfl rfl
  · intro w' hw' hn'
    go_simp
    refine ⟨Ext.rfl' _, ?_⟩
    refine (parts_any w').mono ?_
    rintro e w2 ⟨r, rfl, h1, h2, hx⟩
    exact ⟨_, rfl, hx, r, rfl, h2⟩
  intro v w' hw' hD' hv
  obtain ⟨r, rfl, -⟩ := hv
  clear hw' hD' w'
  intro K hK; go_simp; refine hK _ _ ?_; clear hK K
  iterate 2
    apply wpL_none rfl rfl
    · intro w' hw' hn'; go_simp; exact rfl
    intro K hK; go_simp; refine hK _ _ ?_; clear hK K
  iterate 1
    apply wpL_none rfl rfl
    · intro w' hw' hn'; have c4 := Ext.cell hw' c4; go_simp; exact rfl
    intro K hK; go_simp; refine hK _ _ ?_; clear hK K
  apply wpL_none rfl rfl
  · intro w' hw' hn'
    have hm : MVp (.map (some r)) w' := hn' ⟨0, .data⟩ (by simp) rfl
    obtain ⟨r', he, hm⟩ := hm
    cases he
    have hl := look_parts hm p.h.proto true
    rw [if_pos rfl, hpab] at hl
    go_simp
    exact rfl
  intro K hK; go_simp; refine hK _ _ ?_; clear hK K
  iterate 3
    apply wpL_none rfl rfl
    · intro w' hw' hn'; go_simp; exact rfl
    intro K hK; go_simp; refine hK _ _ ?_; clear hK K
  apply wpL_some rfl rfl
  · intro w' hw' hn'
    go_simp
    exact ⟨Ext.new _ _, _, rfl, hw'.size, heap_alloc_new _ _⟩
  intro v w' hw' hD' hv
  obtain ⟨g, rfl, hg, hb⟩ := hv
  clear hD' hw' hb w'
  intro K hK; go_simp; refine hK _ _ ?_; clear hK K
  refine wpL_nil ?_
  intro w' hw' hD'
  have hnv := hD' 8
  simp [Loose.upd] at hnv
  obtain ⟨g', hg1, hg2, hg3⟩ := hnv
  cases hg1
  have q0 := cell_blk hg3 0
  have q1 := cell_blk hg3 1
  have qf := fz_blk hg3
  simp at q0 q1
  refine wpVL_put_row 51 g _ #[pa, pb] _ rfl rfl hg3 (by kernel_rfl) rfl (by simp [ho1, ho2]) ?_
  intro V hV9 mV
  have hxV : Ext W V := mV.ext hw' (fun j hj => by omega)
  apply wpVL_step rfl
  intro K hK
  go_simp
  refine hK _ _ ?_
  clear hK K hV9 mV
  refine wpVL_nil ?_
  have k1 := hxV.block HK1.out
  have hxw := Lib.hid (hx0.tr hxV)
  clear q0 q1 qf hg2 hg3 hD' hw' c4 ho1 ho2 hpab
  have hone : ∀ (q : Pk) (a1 : Option Addr) (n1 c1 : Nat) (a2 : Option Addr) (n2 c2 : Nat) (a3 : Option Addr) (n3 c3 : Nat) (a4 : Option Addr) (n4 c4 : Nat) (a5 : Option Addr) (n5 c5 : Nat), (q.cells (.slice a1 n1 c1) (.slice a2 n2 c2) (.slice a3 n3 c3) (.slice a4 n4 c4) (.slice a5 n5 c5)).all (·.oneCell') = true := fun q a1 n1 c1 a2 n2 c2 a3 n3 c3 a4 n4 c4 a5 n5 c5 => by simp [Value.oneCell']
  have HONE := Lib.hid hone
  clear hone
  go_upto_region 3 with (first | (refine wpList_load_bigG 35 w.heap.size _ _ _ rfl k1 rfl Tryz.underlying35 rfl (by kernel_rfl) ?_; simp only [Act.put, List.setIfInBounds_toArray, List.set_cons_succ, List.set_cons_zero]) | (refine wpList_put_row 35 V.heap.size _ (p.cells (.slice ah p.h.op.length ch) (.slice ao p.g.os.length co) (.slice ag p.g.data.length cg) (.slice ad p.d.data.length cd) (.slice am p.m.data.length cm)) _ rfl rfl (heap_alloc_new _ _) (by kernel_rfl) rfl (HONE.out _ _ _ _ _ _ _ _ _ _ _ _ _ _ _ _) ?_; intro V3 k3 m3))
  have hxV3 : Ext V V3 := m3.ext ((Ext.rfl' V).al _) (fun j hj => by omega)
  have hlV := lt_of_block k1
  have k1 := hxV3.block k1
  have hxw := Lib.hid (hxw.out.tr hxV3)
  have hb3 : w.heap.size ≤ V.heap.size := Nat.le_of_lt hlV
  generalize hB3 : V.heap.size = b3 at *
  clear m3 hxV3 HK1 hxV
  have hU : Hid (p.may = (hasP p.h.proto && p.h.may && psame p.rest pno)) := rfl
  have c4 := cell_blk k1 4
  simp at c4
  have hlW := lt_of_block k1
  by_cases h6 : p.h.proto = 6
  · have hhp : hasP p.h.proto = true := by rw [h6]; rfl
    have hre : p.rest = ⟨pno.h, Sg.none, p.d, p.m⟩ := by unfold Pk.rest; rw [if_pos h6]
    rw [h6] at c4
    rw [hre, hhp] at hU
    rw [hhp]
    go_upto_region 11 with (first | (refine wpList_put_mid 29 b3 8 _ (Sg.none.cells nos9 nos9) _ rfl rfl k3 (by kernel_rfl) (Nat.le_of_ble_eq_true rfl) (by simp [Value.oneCell']) ?_; intro V4 k4 m4; rw [put9_g] at k4) | (refine wpList_put_mid 26 b3 0 _ (pno.h.cells nos9) _ rfl rfl k4 (by kernel_rfl) (Nat.le_of_ble_eq_true rfl) (by simp [Value.oneCell']) ?_; intro V5 k5 m5))
    rw [put9_h] at k5
    have k1 := m5.keep (m4.keep k1 (by omega)) (by omega)
    have hx5 : Ext w V5 := m5.ext (m4.ext hxw.out (fun j hj => by omega)) (fun j hj => by omega)
    clear m4 m5 k3 k4 c4
    have hR0 : PkR w ⟨pno.h, Sg.none, p.d, p.m⟩ nos9 nos9 nos9 (.slice ad p.d.data.length cd) (.slice am p.m.data.length cm) := ⟨Rd.nil _ _, RdO.nil _, Rd.nil _ _, R.out.d, R.out.m⟩
    have hO0 : Pk.ok ⟨pno.h, Sg.none, p.d, p.m⟩ := ⟨hd0, byt0, sg0, HP.out.d, HP.out.m⟩
    have HR0 := Lib.hid hR0
    have HO0 := Lib.hid hO0
    clear hR0 hO0
    obtain ⟨rh, -, -, -⟩ := pk_rng k1
    simp only [Act.put]
    have HK5 := Lib.hid k5
    have HH := Lib.hid h6
    clear k5 k1 hre hhp h6
    go_wp2_with (refine wpList_load_midG rfl 26 _ rfl w.heap.size 0 rfl _ _ rh Tryz.underlying26 rfl (by kernel_rfl) ?_)
    refine (hmay_any p.h _ V5 (R.out.h.ext hx5) HP.out.h hn).mono ?_
    rintro e V6 ⟨rfl, hx6⟩
    have HK5 := Lib.hid (hx6.block HK5.out)
    have hx6 := hx5.tr hx6
    clear rh
    generalize p.h.may = MAY at *
    cases MAY
    · go_wp2_with fail
      go_ret
      exact ⟨by rw [hU.out]; rfl, hx6⟩
    go_wp2_with (first | (refine wpList_load_bigG 35 b3 _ _ _ rfl HK5.out rfl Tryz.underlying35 rfl (by kernel_rfl) ?_; simp only [Act.put, List.setIfInBounds_toArray, List.set_cons_succ, List.set_cons_zero]) | (refine wpList_build_bigG 35 (pno.cells nos9 nos9 nos9 nos9 nos9) #[] rfl rfl (by kernel_rfl) ?_; simp only [Act.put, List.setIfInBounds_toArray, List.set_cons_succ, List.set_cons_zero]))
    refine (psame_any _ pno _ _ _ _ _ _ _ _ _ _ V6 HO0.out ⟨hd0, byt0, sg0, dg0, ms0⟩ (HR0.out.ext hx6) ⟨Rd.nil _ _, RdO.nil _, Rd.nil _ _, Rd.nil _ _, Rd.nil _ _⟩).mono ?_
    rintro e V7 ⟨rfl, hx7⟩
    generalize psame _ pno = PS at *
    go_wp2_with fail
    go_ret
    exact ⟨by rw [hU.out]; rfl, hx6.tr hx7⟩
  by_cases h17 : p.h.proto = 17
  · have hhp : hasP p.h.proto = true := by rw [h17]; rfl
    have hre : p.rest = ⟨pno.h, p.g, Dg.none, p.m⟩ := by unfold Pk.rest; rw [if_neg h6, if_pos h17]
    rw [h17] at c4
    rw [hre, hhp] at hU
    rw [hhp]
    go_upto_region 11 with (first | (refine wpList_put_mid 31 b3 17 _ (Dg.none.cells nos9) _ rfl rfl k3 (by kernel_rfl) (Nat.le_of_ble_eq_true rfl) (by simp [Value.oneCell']) ?_; intro V4 k4 m4; rw [put9_d] at k4) | (refine wpList_put_mid 26 b3 0 _ (pno.h.cells nos9) _ rfl rfl k4 (by kernel_rfl) (Nat.le_of_ble_eq_true rfl) (by simp [Value.oneCell']) ?_; intro V5 k5 m5))
    rw [put9_h] at k5
    have k1 := m5.keep (m4.keep k1 (by omega)) (by omega)
    have hx5 : Ext w V5 := m5.ext (m4.ext hxw.out (fun j hj => by omega)) (fun j hj => by omega)
    clear m4 m5 k3 k4 c4
    have hR0 : PkR w ⟨pno.h, p.g, Dg.none, p.m⟩ nos9 (.slice ao p.g.os.length co) (.slice ag p.g.data.length cg) nos9 (.slice am p.m.data.length cm) := ⟨Rd.nil _ _, R.out.o, R.out.g, Rd.nil _ _, R.out.m⟩
    have hO0 : Pk.ok ⟨pno.h, p.g, Dg.none, p.m⟩ := ⟨hd0, byt0, HP.out.g, dg0, HP.out.m⟩
    have HR0 := Lib.hid hR0
    have HO0 := Lib.hid hO0
    clear hR0 hO0
    obtain ⟨rh, -, -, -⟩ := pk_rng k1
    simp only [Act.put]
    have HK5 := Lib.hid k5
    have HH := Lib.hid h17
    clear k5 k1 hre hhp h17
    go_wp2_with (refine wpList_load_midG rfl 26 _ rfl w.heap.size 0 rfl _ _ rh Tryz.underlying26 rfl (by kernel_rfl) ?_)
    refine (hmay_any p.h _ V5 (R.out.h.ext hx5) HP.out.h hn).mono ?_
    rintro e V6 ⟨rfl, hx6⟩
    have HK5 := Lib.hid (hx6.block HK5.out)
    have hx6 := hx5.tr hx6
    clear rh
    generalize p.h.may = MAY at *
    cases MAY
    · go_wp2_with fail
      go_ret
      exact ⟨by rw [hU.out]; rfl, hx6⟩
    go_wp2_with (first | (refine wpList_load_bigG 35 b3 _ _ _ rfl HK5.out rfl Tryz.underlying35 rfl (by kernel_rfl) ?_; simp only [Act.put, List.setIfInBounds_toArray, List.set_cons_succ, List.set_cons_zero]) | (refine wpList_build_bigG 35 (pno.cells nos9 nos9 nos9 nos9 nos9) #[] rfl rfl (by kernel_rfl) ?_; simp only [Act.put, List.setIfInBounds_toArray, List.set_cons_succ, List.set_cons_zero]))
    refine (psame_any _ pno _ _ _ _ _ _ _ _ _ _ V6 HO0.out ⟨hd0, byt0, sg0, dg0, ms0⟩ (HR0.out.ext hx6) ⟨Rd.nil _ _, RdO.nil _, Rd.nil _ _, Rd.nil _ _, Rd.nil _ _⟩).mono ?_
    rintro e V7 ⟨rfl, hx7⟩
    generalize psame _ pno = PS at *
    go_wp2_with fail
    go_ret
    exact ⟨by rw [hU.out]; rfl, hx6.tr hx7⟩
  by_cases h1 : p.h.proto = 1
  · have hhp : hasP p.h.proto = true := by rw [h1]; rfl
    have hre : p.rest = ⟨pno.h, p.g, p.d, Ms.none⟩ := by unfold Pk.rest; rw [if_neg h6, if_neg h17, if_pos h1]
    rw [h1] at c4
    rw [hre, hhp] at hU
    rw [hhp]
    go_upto_region 11 with (first | (refine wpList_put_mid 33 b3 20 _ (Ms.none.cells nos9) _ rfl rfl k3 (by kernel_rfl) (Nat.le_of_ble_eq_true rfl) (by simp [Value.oneCell']) ?_; intro V4 k4 m4; rw [put9_m] at k4) | (refine wpList_put_mid 26 b3 0 _ (pno.h.cells nos9) _ rfl rfl k4 (by kernel_rfl) (Nat.le_of_ble_eq_true rfl) (by simp [Value.oneCell']) ?_; intro V5 k5 m5))
    rw [put9_h] at k5
    have k1 := m5.keep (m4.keep k1 (by omega)) (by omega)
    have hx5 : Ext w V5 := m5.ext (m4.ext hxw.out (fun j hj => by omega)) (fun j hj => by omega)
    clear m4 m5 k3 k4 c4
    have hR0 : PkR w ⟨pno.h, p.g, p.d, Ms.none⟩ nos9 (.slice ao p.g.os.length co) (.slice ag p.g.data.length cg) (.slice ad p.d.data.length cd) nos9 := ⟨Rd.nil _ _, R.out.o, R.out.g, R.out.d, Rd.nil _ _⟩
    have hO0 : Pk.ok ⟨pno.h, p.g, p.d, Ms.none⟩ := ⟨hd0, byt0, HP.out.g, HP.out.d, ms0⟩
    have HR0 := Lib.hid hR0
    have HO0 := Lib.hid hO0
    clear hR0 hO0
    obtain ⟨rh, -, -, -⟩ := pk_rng k1
    simp only [Act.put]
    have HK5 := Lib.hid k5
    have HH := Lib.hid h1
    clear k5 k1 hre hhp h1
    go_wp2_with (refine wpList_load_midG rfl 26 _ rfl w.heap.size 0 rfl _ _ rh Tryz.underlying26 rfl (by kernel_rfl) ?_)
    refine (hmay_any p.h _ V5 (R.out.h.ext hx5) HP.out.h hn).mono ?_
    rintro e V6 ⟨rfl, hx6⟩
    have HK5 := Lib.hid (hx6.block HK5.out)
    have hx6 := hx5.tr hx6
    clear rh
    generalize p.h.may = MAY at *
    cases MAY
    · go_wp2_with fail
      go_ret
      exact ⟨by rw [hU.out]; rfl, hx6⟩
    go_wp2_with (first | (refine wpList_load_bigG 35 b3 _ _ _ rfl HK5.out rfl Tryz.underlying35 rfl (by kernel_rfl) ?_; simp only [Act.put, List.setIfInBounds_toArray, List.set_cons_succ, List.set_cons_zero]) | (refine wpList_build_bigG 35 (pno.cells nos9 nos9 nos9 nos9 nos9) #[] rfl rfl (by kernel_rfl) ?_; simp only [Act.put, List.setIfInBounds_toArray, List.set_cons_succ, List.set_cons_zero]))
    refine (psame_any _ pno _ _ _ _ _ _ _ _ _ _ V6 HO0.out ⟨hd0, byt0, sg0, dg0, ms0⟩ (HR0.out.ext hx6) ⟨Rd.nil _ _, RdO.nil _, Rd.nil _ _, Rd.nil _ _, Rd.nil _ _⟩).mono ?_
    rintro e V7 ⟨rfl, hx7⟩
    generalize psame _ pno = PS at *
    go_wp2_with fail
    go_ret
    exact ⟨by rw [hU.out]; rfl, hx6.tr hx7⟩
  have hhp : hasP p.h.proto = false := by simp [hasP, h6, h17, h1]
  rw [hhp] at hU
  rw [hhp]
  have b6 : (p.h.proto == 6) = false := by simpa using h6
  have b17 : (p.h.proto == 17) = false := by simpa using h17
  have b1 : (p.h.proto == 1) = false := by simpa using h1
  go_upto_region 11 with (refine wpList_put_mid 26 b3 0 _ (pno.h.cells nos9) _ rfl rfl k3 (by kernel_rfl) (Nat.le_of_ble_eq_true rfl) (by simp [Value.oneCell']) ?_; intro V5 k5 m5)
  have hx5 : Ext w V5 := m5.ext hxw.out (fun j hj => by omega)
  go_wp2_with fail
  go_ret
  exact ⟨by rw [hU.out]; rfl, hx5⟩
end Go.Proofs.YtbaidlkjbdeceaaGreat
