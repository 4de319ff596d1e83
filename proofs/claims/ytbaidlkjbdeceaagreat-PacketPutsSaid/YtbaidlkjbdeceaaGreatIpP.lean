/-
  Proved here: what ipv4.ask and ipv4.Parse compute. Conditions: at most 2^47 - 4096 bytes.
-/
import Derived.Test.YtbaidlkjbdeceaaGreatIpL
import Derived.Test.YtbaidlkjbdeceaaGreatLibs
import Derived.Test.YtbaidlkjbdeceaaGreatSums
import Derived.Test.YtbaidlkjbdeceaaGreatUdpP
import Derived.Test.YtbaidlkjbdeceaaGreatOptsR
import Derived.Laws.EntriesVeiled
import Derived.BigRegion
import Derived.RegionTactic
namespace Go.Proofs.YtbaidlkjbdeceaaGreat
set_option maxRecDepth 200000
open Go.ChangeShapes Go.WideShapes Go.ChangeAt Go.RowKit Go.Cul Go.Loose
set_option linter.unusedVariables false
attribute [local go_sem] Loose.Still Loose.Upon

theorem ask1_no (r : Value) (g : Nat) (e1 : Int) (w : World) (hg : w.heap[g]? = some (.cells #[.bool false, .int .i64 e1] 120)) :
    Calls Tryz.prog 87 #[r, .slice (some ⟨g, 0, none⟩) 1 1] w fun x w' => x = .returned (.tuple #[]) ∧ Ext w w' := by
  have c0 := cell_blk hg 0
  have c1 := cell_blk hg 1
  simp at c0 c1
  go_enter Tryz.func87, Tryz.ntmps87
  go_wp2_with fail
  refine wp_loop_rounds 2 ?_
  rw [rounds_succ]
  go_wp2_with fail
  rw [rounds_succ]
  go_wp2_with fail
  go_end0
  exact ⟨rfl, Ext.new _ _⟩
theorem ask1_yes (B : Nat) (bv : Value) (l : List Int) (k : Nat) (g : Nat) (e1 : Int) (he : e1 ≠ 0) (w : World) (h : Rdr w B bv l k) (hg : w.heap[g]? = some (.cells #[.bool true, .int .i64 e1] 120)) :
    Calls Tryz.prog 87 #[rp B, .slice (some ⟨g, 0, none⟩) 1 1] w fun x w' => x = .panicked [{ v := gone B e1, recovered := false }] ∧ Ext w w' := by
  have c0 := cell_blk hg 0
  have c1 := cell_blk hg 1
  simp at c0 c1
  go_enter Tryz.func87, Tryz.ntmps87
  go_wp2_with fail
  refine wp_loop_rounds 2 ?_
  rw [rounds_succ]
  go_wp2_with fail
  refine (fail_open B _ l k e1 he _ (h.ext (Ext.new _ _))).mono ?_
  rintro x w1 ⟨rfl, hx⟩
  exact ⟨rfl, rfl, (Ext.new _ _).tr hx⟩
theorem ask2_no (r : Value) (g : Nat) (e1 e2 : Int) (w : World) (hg : w.heap[g]? = some (.cells #[.bool false, .int .i64 e1, .bool false, .int .i64 e2] 120)) :
    Calls Tryz.prog 87 #[r, .slice (some ⟨g, 0, none⟩) 2 2] w fun x w' => x = .returned (.tuple #[]) ∧ Ext w w' := by
  have c0 := cell_blk hg 0
  have c1 := cell_blk hg 1
  have c2 := cell_blk hg 2
  have c3 := cell_blk hg 3
  simp at c0 c1 c2 c3
  have hs := lt_of_block hg
  have c0_a := fun (o : Obj) => (Ext.new w o).cell c0
  have c0_b := fun (o : Obj) => (Ext.new w o).dr.cell c0
  have c0_c := fun (o o2 : Obj) => ((Ext.new w o).al o2).cell c0
  have c0_d := fun (o o2 : Obj) => ((Ext.new w o).al o2).dr.cell c0
  have c0_e := (Ext.rfl' w).dr.cell c0
  have c1_a := fun (o : Obj) => (Ext.new w o).cell c1
  have c1_b := fun (o : Obj) => (Ext.new w o).dr.cell c1
  have c1_c := fun (o o2 : Obj) => ((Ext.new w o).al o2).cell c1
  have c1_d := fun (o o2 : Obj) => ((Ext.new w o).al o2).dr.cell c1
  have c1_e := (Ext.rfl' w).dr.cell c1
  have c2_a := fun (o : Obj) => (Ext.new w o).cell c2
  have c2_b := fun (o : Obj) => (Ext.new w o).dr.cell c2
  have c2_c := fun (o o2 : Obj) => ((Ext.new w o).al o2).cell c2
  have c2_d := fun (o o2 : Obj) => ((Ext.new w o).al o2).dr.cell c2
  have c2_e := (Ext.rfl' w).dr.cell c2
  have c3_a := fun (o : Obj) => (Ext.new w o).cell c3
  have c3_b := fun (o : Obj) => (Ext.new w o).dr.cell c3
  have c3_c := fun (o o2 : Obj) => ((Ext.new w o).al o2).cell c3
  have c3_d := fun (o o2 : Obj) => ((Ext.new w o).al o2).dr.cell c3
  have c3_e := (Ext.rfl' w).dr.cell c3
  go_enter Tryz.func87, Tryz.ntmps87
  go_wp2_with fail
  refine wp_loop_rounds 3 ?_
  rw [rounds_succ]
  go_wp2_with fail
  rw [rounds_succ]
  go_wp2_with fail
  rw [rounds_succ]
  go_wp2_with fail
  go_end0
  exact ⟨rfl, (Ext.new _ _).al _⟩
theorem ask2_one (B : Nat) (bv : Value) (l : List Int) (k : Nat) (g : Nat) (b2 : Bool) (e1 e2 : Int) (he : e1 ≠ 0) (w : World) (h : Rdr w B bv l k) (hg : w.heap[g]? = some (.cells #[.bool true, .int .i64 e1, .bool b2, .int .i64 e2] 120)) :
    Calls Tryz.prog 87 #[rp B, .slice (some ⟨g, 0, none⟩) 2 2] w fun x w' => x = .panicked [{ v := gone B e1, recovered := false }] ∧ Ext w w' := by
  have c0 := cell_blk hg 0
  have c1 := cell_blk hg 1
  simp at c0 c1
  go_enter Tryz.func87, Tryz.ntmps87
  go_wp2_with fail
  refine wp_loop_rounds 3 ?_
  rw [rounds_succ]
  go_wp2_with fail
  refine (fail_open B _ l k e1 he _ (h.ext (Ext.new _ _))).mono ?_
  rintro x w1 ⟨rfl, hx⟩
  exact ⟨rfl, rfl, (Ext.new _ _).tr hx⟩
theorem ask2_two (B : Nat) (bv : Value) (l : List Int) (k : Nat) (g : Nat) (e1 e2 : Int) (he : e2 ≠ 0) (w : World) (h : Rdr w B bv l k) (hg : w.heap[g]? = some (.cells #[.bool false, .int .i64 e1, .bool true, .int .i64 e2] 120)) :
    Calls Tryz.prog 87 #[rp B, .slice (some ⟨g, 0, none⟩) 2 2] w fun x w' => x = .panicked [{ v := gone B e2, recovered := false }] ∧ Ext w w' := by
  have c0 := cell_blk hg 0
  have c1 := cell_blk hg 1
  have c2 := cell_blk hg 2
  have c3 := cell_blk hg 3
  simp at c0 c1 c2 c3
  have hs := lt_of_block hg
  have c0_a := fun (o : Obj) => (Ext.new w o).cell c0
  have c0_b := fun (o : Obj) => (Ext.new w o).dr.cell c0
  have c0_c := fun (o o2 : Obj) => ((Ext.new w o).al o2).cell c0
  have c0_d := fun (o o2 : Obj) => ((Ext.new w o).al o2).dr.cell c0
  have c0_e := (Ext.rfl' w).dr.cell c0
  have c1_a := fun (o : Obj) => (Ext.new w o).cell c1
  have c1_b := fun (o : Obj) => (Ext.new w o).dr.cell c1
  have c1_c := fun (o o2 : Obj) => ((Ext.new w o).al o2).cell c1
  have c1_d := fun (o o2 : Obj) => ((Ext.new w o).al o2).dr.cell c1
  have c1_e := (Ext.rfl' w).dr.cell c1
  have c2_a := fun (o : Obj) => (Ext.new w o).cell c2
  have c2_b := fun (o : Obj) => (Ext.new w o).dr.cell c2
  have c2_c := fun (o o2 : Obj) => ((Ext.new w o).al o2).cell c2
  have c2_d := fun (o o2 : Obj) => ((Ext.new w o).al o2).dr.cell c2
  have c2_e := (Ext.rfl' w).dr.cell c2
  have c3_a := fun (o : Obj) => (Ext.new w o).cell c3
  have c3_b := fun (o : Obj) => (Ext.new w o).dr.cell c3
  have c3_c := fun (o o2 : Obj) => ((Ext.new w o).al o2).cell c3
  have c3_d := fun (o o2 : Obj) => ((Ext.new w o).al o2).dr.cell c3
  have c3_e := (Ext.rfl' w).dr.cell c3
  go_enter Tryz.func87, Tryz.ntmps87
  go_wp2_with fail
  refine wp_loop_rounds 3 ?_
  rw [rounds_succ]
  go_wp2_with fail
  rw [rounds_succ]
  go_wp2_with fail
  refine (fail_open B _ l k e2 he _ (h.ext ((Ext.new _ _).al _))).mono ?_
  rintro x w1 ⟨rfl, hx⟩
  exact ⟨rfl, rfl, ((Ext.new _ _).al _).tr hx⟩

theorem and15 (x : Int) (h : 0 ≤ x ∧ x ≤ 255) : bits BinOp.and IntKind.u8 x 15 = x % 16 := by
  obtain ⟨n, rfl⟩ := Int.eq_ofNat_of_zero_le h.1
  have hn : n < 256 := by omega
  clear h
  revert n
  decide +kernel
theorem nat_and_pow (n i : Nat) : n &&& 2 ^ i = 2 ^ i * (n / 2 ^ i % 2) := by
  have hb : n / 2 ^ i % 2 = (n.testBit i).toNat := by
    rw [Nat.testBit_eq_decide_div_mod_eq]
    have : n / 2 ^ i % 2 = 0 ∨ n / 2 ^ i % 2 = 1 := by omega
    rcases this with e | e <;> simp [e]
  rw [hb]
  apply Nat.eq_of_testBit_eq
  intro j
  rw [Nat.testBit_and, Nat.testBit_two_pow]
  cases h : n.testBit i
  · by_cases hj : i = j
    · subst hj; simp [h]
    · simp [hj]
  · by_cases hj : i = j
    · subst hj; simp [h, Nat.testBit_two_pow_self]
    · simp [hj]
theorem and_bit (x : Int) (h : 0 ≤ x ∧ x ≤ 65535) (i : Nat) (hi : i < 16) : bits BinOp.and IntKind.u16 x ((2 ^ i : Nat) : Int) = ((2 ^ i : Nat) : Int) * (x / ((2 ^ i : Nat) : Int) % 2) := by
  have hp : 2 ^ i ≤ 2 ^ 15 := Nat.pow_le_pow_right (by decide) (by omega)
  have hp2 : (2 ^ 15 : Nat) = 32768 := rfl
  obtain ⟨n, rfl⟩ := Int.eq_ofNat_of_zero_le h.1
  generalize hP : 2 ^ i = P at *
  rw [u16_and _ _ (by omega) (by omega) (by omega) (by omega), Int.toNat_natCast, Int.toNat_natCast, ← hP, nat_and_pow]
  simp
theorem and_low14 (x : Int) (h : 0 ≤ x ∧ x ≤ 65535) : bits BinOp.and IntKind.u16 x 16383 = x % 16384 := by
  have h := u16_and x 16383 (by omega) (by omega) (by decide) (by decide)
  rw [show (16383 : Int).toNat = 2 ^ 14 - 1 from rfl, Nat.and_two_pow_sub_one_eq_mod] at h
  rw [h]; omega
theorem and_df (x : Int) (h : 0 ≤ x ∧ x ≤ 65535) : (bits BinOp.and IntKind.u16 x 16384 != 0) = decide (x / 16384 % 2 = 1) := by
  have := and_bit x h 14 (by decide)
  rw [show ((2 ^ 14 : Nat) : Int) = 16384 from rfl] at this
  rw [this, Bool.eq_iff_iff]
  simp
  omega
theorem and_strange (x : Int) (h : 0 ≤ x ∧ x ≤ 65535) : (bits BinOp.and IntKind.u16 x 32768 != 0) = decide (32768 ≤ x) := by
  have := and_bit x h 15 (by decide)
  rw [show ((2 ^ 15 : Nat) : Int) = 32768 from rfl] at this
  rw [this, Bool.eq_iff_iff]
  simp
  omega
theorem and_more (x : Int) (h : 0 ≤ x ∧ x ≤ 65535) : (bits BinOp.and IntKind.u16 x 16383 != 0) = decide (x % 16384 ≠ 0) := by
  rw [and_low14 x h, Bool.eq_iff_iff]
  simp

/-- How long the header says that it is. -/
def ioff (l : List Int) : Nat := (l.getD 0 0 % 16).toNat * 4
/-- With which error bytes are no packet. -/
def ierr (l : List Int) : Int :=
  if 1500 < l.length then 3 else if l.length < 20 then 4 else if l.getD 0 0 / 16 ≠ 4 ∨ ioff l < 20 then 5 else if l.length < ioff l ∨ (l.length : Int) < be16 l 2 then 4 else
  if be16 l 2 < ioff l ∨ be16 l 2 < l.length then 5 else if csum (l.take (ioff l)) ≠ 65535 then 20 else if 32768 ≤ be16 l 6 then 5 else if be16 l 6 % 16384 ≠ 0 then 21 else if l.getD 8 0 = 0 then 23 else 0
def ihead (l : List Int) : Hd := ⟨l.getD 1 0, be16 l 4, decide (be16 l 6 / 16384 % 2 = 1), l.getD 8 0, l.getD 9 0, be32 l 12, be32 l 16, (l.drop 20).take (ioff l - 20)⟩
abbrev Hd.zero : Hd := ⟨0, 0, false, 0, 0, 0, 0, []⟩
/-- What Parse's closure leaves. -/
def IpQ (Bh Bp : Nat) (l : List Int) (w1 : World) (e : Int) (w2 : World) : Prop :=
  e = ierr l ∧ (e = 0 → ∃ vo vp, w2.heap[Bh]? = some (.cells ((ihead l).cells vo) 26) ∧ w2.heap[Bp]? = some (.cells #[vp] 24) ∧ Fr w2 w1.heap.size 5 .u8 vo (ihead l).op ∧ Fr w2 w1.heap.size 5 .u8 vp (l.drop (ioff l)))

set_option maxHeartbeats 4000000 in
set_option maxRecDepth 100000 in
theorem iparse1_any (l : List Int) (hb : Byt l) (hn : l.length ≤ 1500) (bv bu : Value) (w0 w1 : World) (B Bb Bh Bp : Nat)
    (hv : Rd .u8 w0 bv l) (hx : Ext w0 w1) (hR : Rdr w1 B bu l 0) {base : Nat} (ha : Away bu l base) (hBh : Bh < base ∧ Bp < base) (kd : w1.heap[Bh]? = some (.cells (Hd.zero.cells (.slice none 0 0)) 26)) (kp : w1.heap[Bp]? = some (.cells #[.slice none 0 0] 24))
    (kb : w1.heap[Bb]? = some (.cells #[bv] 24)) (n1 : B ≠ Bb ∧ B ≠ Bh ∧ B ≠ Bp) (n2 : Bh ≠ Bb ∧ Bp ≠ Bb ∧ Bh ≠ Bp) (hw0 : w0.heap.size ≤ B ∧ w0.heap.size ≤ Bh ∧ w0.heap.size ≤ Bp) :
    Calls Tryz.prog 86 #[rp B, .pointer (some ⟨Bb, 0, none⟩), .pointer (some ⟨Bh, 0, none⟩), .pointer (some ⟨Bp, 0, none⟩)] w1 fun x w2 =>
      Mvs (fun k => k = B ∨ k = Bh ∨ k = Bp) w1 w2 ∧ (∃ bv k, Rdr w2 B bv l k) ∧ ((x = .returned (.tuple #[]) ∧ IpQ Bh Bp l w1 0 w2) ∨ ∃ e, x = .panicked [{ v := gone B e, recovered := false }] ∧ IpQ Bh Bp l w1 e w2) := by
  have HB := Lib.hid hb
  have hBs := lt_of_block kd
  have hBps := lt_of_block kp
  have hRB := lt_of_block hR.blk
  have m1 := Mvs.refl (fun k => k = B ∨ k = Bh ∨ k = Bp) w1
  obtain ⟨av, cv, rfl, hc1, hc2, -⟩ := id hv
  unfold maxLen at hc2
  have HV := Lib.hid hv
  have HE : Hid (ierr l = if 1500 < l.length then 3 else if l.length < 20 then 4 else if l.getD 0 0 / 16 ≠ 4 ∨ ioff l < 20 then 5 else if l.length < ioff l ∨ (l.length : Int) < be16 l 2 then 4 else
    if be16 l 2 < ioff l ∨ be16 l 2 < l.length then 5 else if csum (l.take (ioff l)) ≠ 65535 then 20 else if 32768 ≤ be16 l 6 then 5 else if be16 l 6 % 16384 ≠ 0 then 21 else if l.getD 8 0 = 0 then 23 else 0) := rfl
  have HH : Hid (ihead l = ⟨l.getD 1 0, be16 l 4, decide (be16 l 6 / 16384 % 2 = 1), l.getD 8 0, l.getD 9 0, be32 l 12, be32 l 16, (l.drop 20).take (ioff l - 20)⟩) := rfl
  have hE := HE.out
  rw [if_neg (by omega)] at hE
  simp only [Hd.cells] at kd
  clear hb hv HE
  have cb := cell_blk kb 0
  simp at cb
  go_enter Tryz.func86, Tryz.ntmps86
  by_cases h20 : l.length < 20
  · have h20' : (l.length : Int) < 20 := by omega
    have hE := Lib.hid (hE.trans (if_pos h20))
    clear h20
    go_wp2_with fail
    refine (ask1_yes B _ l 0 _ 4 (by decide) _ (hR.ext (Ext.new _ _)) (heap_alloc_new _ _)).mono ?_
    rintro x wz ⟨rfl, hxz⟩
    exact ⟨rfl, m1.tr (Mvs.ofExt ((Ext.new _ _).tr hxz)), ⟨_, _, hR.ext ((Ext.new _ _).tr hxz)⟩, .inr ⟨4, rfl, hE.out.symm, fun h => absurd h (by decide)⟩⟩
  have h20' : ¬ (l.length : Int) < 20 := by omega
  rw [if_neg h20] at hE
  replace hE := Lib.hid hE
  clear h20
  go_wp2_with fail
  refine (ask1_no (rp B) _ 4 _ (heap_alloc_new _ _)).mono ?_
  rintro e w2 ⟨rfl, hx2⟩
  replace hx2 := (Ext.new w1 _).tr hx2
  have hR2 := hR.ext hx2
  have kd := hx2.block kd
  have kp := hx2.block kp
  have m2 := m1.tr (Mvs.ofExt hx2)
  clear hR m1 hx2
  have b0 := HB.out.at 0
  have b1 := HB.out.at 1
  have b8 := HB.out.at 8
  have b9 := HB.out.at 9
  have b2 := be16_bd HB.out 2
  have b4 := be16_bd HB.out 4
  have b6 := be16_bd HB.out 6
  have hoff : 4 * (l.getD 0 0 % 16) = (ioff l : Int) := by unfold ioff; omega
  have HTK : Hid (Byt (l.take (ioff l))) := HB.out.take _
  go_wp2_with fail
  refine (u8_ok B _ l 0 (by omega) _ hR2).mono ?_
  rintro e w3 ⟨rfl, hR3, hm3⟩
  have m3 := m2.tr (Mvs.ofMv hm3 (.inl rfl))
  have kd := (Mvs.ofMv (S := fun k => k = B) hm3 rfl).keep kd (by omega)
  have kp := (Mvs.ofMv (S := fun k => k = B) hm3 rfl).keep kp (by omega)
  clear hm3 hR2 m2
  rw [Nat.zero_add] at hR3
  generalize hN : ioff l = N at *
  have HN := Lib.hid hN
  generalize hx0 : l.getD 0 0 = x0 at *
  clear hN hx0
  have ha15 := and15 x0 b0
  have hN60 : (N : Int) ≤ 60 := by omega
  go_upto_region 3 with (fail)
  clear ha15 hoff
  by_cases h3 : x0 / 16 ≠ 4 ∨ N < 20
  · have hE := Lib.hid (hE.out.trans (if_pos h3))
    have hq : ((x0 / 16 != 4) = true) ∨ ((x0 / 16 != 4) = false ∧ (N : Int) < 20) := by
      rcases hd : (x0 / 16 != 4) with _ | _
      · right; refine ⟨rfl, ?_⟩
        rcases h3 with h | h
        · simp at hd; exact absurd hd h
        · omega
      · exact .inl rfl
    clear h3
    rcases hq with hq | ⟨hq, hq2⟩
    all_goals
      go_wp2_with fail
      refine (ask1_yes B _ l 1 _ 5 (by decide) _ (hR3.ext (Ext.new _ _)) (heap_alloc_new _ _)).mono ?_
      rintro x wz ⟨rfl, hxz⟩
      exact ⟨rfl, m3.tr (Mvs.ofExt ((Ext.new _ _).tr hxz)), ⟨_, _, hR3.ext ((Ext.new _ _).tr hxz)⟩, .inr ⟨5, rfl, hE.out.symm, fun h => absurd h (by decide)⟩⟩
  have hq : (x0 / 16 != 4) = false := by simp; exact Classical.not_not.1 (fun h => h3 (.inl h))
  have hN20 : ¬ (N : Int) < 20 := by have := fun h => h3 (.inr h); omega
  replace hE := Lib.hid (hE.out.trans (if_neg h3))
  clear h3
  go_wp2_with fail
  refine (ask1_no (rp B) _ 5 _ (heap_alloc_new _ _)).mono ?_
  rintro e w4 ⟨rfl, hx4⟩
  replace hx4 := (Ext.new w3 _).tr hx4
  have hR4 := hR3.ext hx4
  have kd := hx4.block kd
  have kp := hx4.block kp
  have m4 := m3.tr (Mvs.ofExt hx4)
  clear hR3 m3 hx4 hq
  go_wp2_with fail
  refine (u8_ok B _ l 1 (by omega) _ hR4).mono ?_
  rintro e w5 ⟨rfl, hR5, hm5⟩
  have m5 := m4.tr (Mvs.ofMv hm5 (.inl rfl))
  have kd := (Mvs.ofMv (S := fun k => k = B) hm5 rfl).keep kd (by omega)
  have kp := (Mvs.ofMv (S := fun k => k = B) hm5 rfl).keep kp (by omega)
  clear hm5 hR4 m4
  generalize l.getD 1 0 = tos at *
  have c0 := cell_blk kd 0
  simp at c0
  have f0 := fz_blk kd 0
  go_wp2_with fail
  have hm6 : Mvs (fun k => k = Bh) w5 (w5.setCell ⟨Bh, 0, none⟩ (.int .u8 tos)) := Mvs.set _ _ _ (by exact rfl)
  have kp := set_oth (b := Bh) kp (by omega) 0 (.int .u8 tos)
  have kd := set_blk kd 0 (.int .u8 tos)
  simp at kd
  have hR6 := hR5.mvs hm6 n1.2.1 ha (fun k hk => by subst hk; exact hBh.1)
  have m6 := m5.tr (hm6.mono (fun k _ hk => .inr (.inl hk)))
  clear c0 f0 hR5 hm6 m5
  generalize (w5.setCell ⟨Bh, 0, none⟩ (.int .u8 tos)) = w6 at *
  refine (u16_ok B _ l 2 HB.out (by omega) _ hR6).mono ?_
  rintro e w7 ⟨rfl, hR7, hm7⟩
  have m7 := m6.tr (Mvs.ofMv hm7 (.inl rfl))
  have kd := (Mvs.ofMv (S := fun k => k = B) hm7 rfl).keep kd (by omega)
  have kp := (Mvs.ofMv (S := fun k => k = B) hm7 rfl).keep kp (by omega)
  rw [show l.getD 2 0 * 256 + l.getD (2 + 1) 0 = be16 l 2 from rfl] at *
  clear hm7 hR6 m6
  have cb := cell_blk (m7.keep kb (by omega)) 0
  simp at cb
  generalize be16 l 2 = A at *
  go_upto_region 6 with (fail)
  by_cases h6 : l.length < N ∨ (l.length : Int) < A
  · have hE := Lib.hid (hE.out.trans (if_pos h6))
    rcases hz1 : decide (A < (N : Int)) with _ | _ <;> rcases hz2 : decide (A < (l.length : Int)) with _ | _
    all_goals
      have hq : ((l.length : Int) < (N : Int)) ∨ (¬ ((l.length : Int) < (N : Int)) ∧ (l.length : Int) < A) := by omega
      rcases hq with hq | ⟨hq, hq2⟩
      all_goals
        clear h6
        first
        | (simp only [decide_eq_true_eq, decide_eq_false_iff_not] at hz1 hz2; omega)
        | (simp only [decide_eq_true_eq, decide_eq_false_iff_not] at hz1 hz2
           go_wp2_with fail
           refine (ask2_one B _ l 4 _ _ 4 5 (by decide) _ (hR7.ext (Ext.new _ _)) (heap_alloc_new _ _)).mono ?_
           rintro x wz ⟨rfl, hxz⟩
           exact ⟨rfl, m7.tr (Mvs.ofExt ((Ext.new _ _).tr hxz)), ⟨_, _, hR7.ext ((Ext.new _ _).tr hxz)⟩, .inr ⟨4, rfl, hE.out.symm, fun h => absurd h (by decide)⟩⟩)
  have hq1 : ¬ (l.length : Int) < (N : Int) := by omega
  have hq2 : ¬ (l.length : Int) < A := by omega
  replace hE := Lib.hid (hE.out.trans (if_neg h6))
  clear h6
  by_cases h7 : A < N ∨ A < l.length
  · have hE := Lib.hid (hE.out.trans (if_pos h7))
    have hq : (A < (N : Int)) ∨ (¬ (A < (N : Int)) ∧ A < (l.length : Int)) := by omega
    clear h7
    rcases hq with hq | ⟨hq, hq3⟩
    all_goals
      go_wp2_with fail
      refine (ask2_two B _ l 4 _ 4 5 (by decide) _ (hR7.ext (Ext.new _ _)) (heap_alloc_new _ _)).mono ?_
      rintro x wz ⟨rfl, hxz⟩
      exact ⟨rfl, m7.tr (Mvs.ofExt ((Ext.new _ _).tr hxz)), ⟨_, _, hR7.ext ((Ext.new _ _).tr hxz)⟩, .inr ⟨5, rfl, hE.out.symm, fun h => absurd h (by decide)⟩⟩
  have hq3 : ¬ A < (N : Int) := by omega
  have hq4 : ¬ A < (l.length : Int) := by omega
  replace hE := Lib.hid (hE.out.trans (if_neg h7))
  clear h7
  go_wp2_with fail
  refine (ask2_no (rp B) _ 4 5 _ (heap_alloc_new _ _)).mono ?_
  rintro e w8 ⟨rfl, hx8⟩
  replace hx8 := (Ext.new w7 _).tr hx8
  have hR8 := hR7.ext hx8
  have kd := hx8.block kd
  have kp := hx8.block kp
  have cb := hx8.cell cb
  have m8 := m7.tr (Mvs.ofExt hx8)
  clear hR7 m7 hx8
  have hxv : Ext w0 w8 := m8.ext hx (fun k hk => by omega)
  have hvt := (HV.out.ext hxv).take (m := N) (by omega)
  have hcv : (N : Int) ≤ (cv : Int) := by omega
  have htl : (l.take N).length ≤ 60 := by rw [List.length_take]; omega
  generalize l.take N = T at *
  generalize hC : csum T = C at *
  have HC := Lib.hid hC
  clear hC
  have hrt := Lib.hid (fun (W : World) (v : Value) (h : Rds .u8 W v [T]) => right_any v [T] W h (fun x hx => by simp only [List.mem_cons, List.not_mem_nil, or_false] at hx; subst hx; exact HTK.out) (by simp only [List.flatten_cons, List.flatten_nil, List.append_nil]; omega))
  by_cases h8 : C ≠ 65535
  · have hE := Lib.hid (hE.out.trans (if_pos h8))
    have hcq : Hid ((csum ([T] : List (List Int)).flatten == 65535) = false) := by unfold Hid; rw [show ([T] : List (List Int)).flatten = T from by simp, HC.out]; simpa using h8
    clear h8
    go_wp2_with fail
    refine (hrt.out _ _ (rds_one hvt rfl)).mono ?_
    rw [hcq.out]
    rintro e w9 ⟨rfl, hx9⟩
    go_wp2_with fail
    refine (ask1_yes B _ l 4 _ 20 (by decide) _ (hR8.ext (((Ext.new _ _).tr hx9).al _)) (heap_alloc_new _ _)).mono ?_
    rintro x wz ⟨rfl, hxz⟩
    exact ⟨rfl, m8.tr (Mvs.ofExt ((((Ext.new _ _).tr hx9).al _).tr hxz)), ⟨_, _, hR8.ext ((((Ext.new _ _).tr hx9).al _).tr hxz)⟩, .inr ⟨20, rfl, hE.out.symm, fun h => absurd h (by decide)⟩⟩
  have hcq : Hid ((csum ([T] : List (List Int)).flatten == 65535) = true) := by unfold Hid; rw [show ([T] : List (List Int)).flatten = T from by simp, HC.out]; simpa using Classical.not_not.1 h8
  replace hE := Lib.hid (hE.out.trans (if_neg h8))
  clear h8
  go_wp2_with fail
  refine (hrt.out _ _ (rds_one hvt rfl)).mono ?_
  rw [hcq.out]
  rintro e w9 ⟨rfl, hx9⟩
  go_wp2_with fail
  refine (ask1_no (rp B) _ 20 _ (heap_alloc_new _ _)).mono ?_
  rintro e w10 ⟨rfl, hx10⟩
  replace hx10 := (((Ext.new w8 _).tr hx9).al _).tr hx10
  have hR10 := hR8.ext hx10
  have kd := hx10.block kd
  have kp := hx10.block kp
  have m10 := m8.tr (Mvs.ofExt hx10)
  clear hR8 m8 hx10 hx9 hxv hvt hrt hcq HTK cb
  go_wp2_with fail
  refine (u16_ok B _ l 4 HB.out (by omega) _ hR10).mono ?_
  rintro e w11 ⟨rfl, hR11, hm11⟩
  have m11 := m10.tr (Mvs.ofMv hm11 (.inl rfl))
  have kd := (Mvs.ofMv (S := fun k => k = B) hm11 rfl).keep kd (by omega)
  have kp := (Mvs.ofMv (S := fun k => k = B) hm11 rfl).keep kp (by omega)
  rw [show l.getD 4 0 * 256 + l.getD (4 + 1) 0 = be16 l 4 from rfl] at *
  clear hm11 hR10 m10
  generalize be16 l 4 = ID at *
  have c0 := cell_blk kd 1
  simp at c0
  have f0 := fz_blk kd 1
  go_wp2_with fail
  have hm12 : Mvs (fun k => k = Bh) w11 (w11.setCell ⟨Bh, 1, none⟩ (.int .u16 ID)) := Mvs.set _ _ _ (by exact rfl)
  have kp := set_oth (b := Bh) kp (by omega) 1 (.int .u16 ID)
  have kd := set_blk kd 1 (.int .u16 ID)
  simp at kd
  have hR12 := hR11.mvs hm12 n1.2.1 ha (fun k hk => by subst hk; exact hBh.1)
  have m12 := m11.tr (hm12.mono (fun k _ hk => .inr (.inl hk)))
  clear c0 f0 hR11 hm12 m11
  generalize (w11.setCell ⟨Bh, 1, none⟩ (.int .u16 ID)) = w12 at *
  refine (u16_ok B _ l 6 HB.out (by omega) _ hR12).mono ?_
  rintro e w13 ⟨rfl, hR13, hm13⟩
  have m13 := m12.tr (Mvs.ofMv hm13 (.inl rfl))
  have kd := (Mvs.ofMv (S := fun k => k = B) hm13 rfl).keep kd (by omega)
  have kp := (Mvs.ofMv (S := fun k => k = B) hm13 rfl).keep kp (by omega)
  rw [show l.getD 6 0 * 256 + l.getD (6 + 1) 0 = be16 l 6 from rfl] at *
  clear hm13 hR12 m12
  generalize be16 l 6 = FLG at *
  have hdf := and_df FLG b6
  have hst := and_strange FLG b6
  have hmo := and_more FLG b6
  generalize hDF : decide (FLG / 16384 % 2 = 1) = DF at *
  have HDF := Lib.hid hDF
  clear hDF
  have c0 := cell_blk kd 2
  simp at c0
  have f0 := fz_blk kd 2
  go_upto_region 11 with (fail)
  clear hdf
  have hm14 : Mvs (fun k => k = Bh) w13 (w13.setCell ⟨Bh, 2, none⟩ (.bool DF)) := Mvs.set _ _ _ (by exact rfl)
  have kp := set_oth (b := Bh) kp (by omega) 2 (.bool DF)
  have kd := set_blk kd 2 (.bool DF)
  simp at kd
  have hR14 := hR13.mvs hm14 n1.2.1 ha (fun k hk => by subst hk; exact hBh.1)
  have m14 := m13.tr (hm14.mono (fun k _ hk => .inr (.inl hk)))
  clear c0 f0 hR13 hm14 m13
  generalize (w13.setCell ⟨Bh, 2, none⟩ (.bool DF)) = w14 at *
  by_cases h11 : 32768 ≤ FLG
  · have hE := Lib.hid (hE.out.trans (if_pos h11))
    have hst' : (bits BinOp.and IntKind.u16 FLG 32768 != 0) = true := by rw [hst]; simpa using h11
    generalize decide (FLG % 16384 ≠ 0) = MO at *
    clear hst h11
    go_wp2_with fail
    refine (ask2_one B _ l 8 _ _ 5 21 (by decide) _ (hR14.ext (Ext.new _ _)) (heap_alloc_new _ _)).mono ?_
    rintro x wz ⟨rfl, hxz⟩
    exact ⟨rfl, m14.tr (Mvs.ofExt ((Ext.new _ _).tr hxz)), ⟨_, _, hR14.ext ((Ext.new _ _).tr hxz)⟩, .inr ⟨5, rfl, hE.out.symm, fun h => absurd h (by decide)⟩⟩
  have hst' : (bits BinOp.and IntKind.u16 FLG 32768 != 0) = false := by rw [hst]; simpa using h11
  replace hE := Lib.hid (hE.out.trans (if_neg h11))
  clear h11 hst
  by_cases h12 : FLG % 16384 ≠ 0
  · have hE := Lib.hid (hE.out.trans (if_pos h12))
    have hmo' : (bits BinOp.and IntKind.u16 FLG 16383 != 0) = true := by rw [hmo]; simpa using h12
    clear hmo h12
    go_wp2_with fail
    refine (ask2_two B _ l 8 _ 5 21 (by decide) _ (hR14.ext (Ext.new _ _)) (heap_alloc_new _ _)).mono ?_
    rintro x wz ⟨rfl, hxz⟩
    exact ⟨rfl, m14.tr (Mvs.ofExt ((Ext.new _ _).tr hxz)), ⟨_, _, hR14.ext ((Ext.new _ _).tr hxz)⟩, .inr ⟨21, rfl, hE.out.symm, fun h => absurd h (by decide)⟩⟩
  have hmo' : (bits BinOp.and IntKind.u16 FLG 16383 != 0) = false := by rw [hmo]; simpa using h12
  replace hE := Lib.hid (hE.out.trans (if_neg h12))
  clear h12 hmo
  go_wp2_with fail
  refine (ask2_no (rp B) _ 5 21 _ (heap_alloc_new _ _)).mono ?_
  rintro e w15 ⟨rfl, hx15⟩
  replace hx15 := (Ext.new w14 _).tr hx15
  have hR15 := hR14.ext hx15
  have kd := hx15.block kd
  have kp := hx15.block kp
  have m15 := m14.tr (Mvs.ofExt hx15)
  clear hR14 m14 hx15 hst' hmo'
  go_wp2_with fail
  refine (u8_ok B _ l 8 (by omega) _ hR15).mono ?_
  rintro e w16 ⟨rfl, hR16, hm16⟩
  have m16 := m15.tr (Mvs.ofMv hm16 (.inl rfl))
  have kd := (Mvs.ofMv (S := fun k => k = B) hm16 rfl).keep kd (by omega)
  have kp := (Mvs.ofMv (S := fun k => k = B) hm16 rfl).keep kp (by omega)
  clear hm16 hR15 m15
  generalize l.getD 8 0 = ttl at *
  go_wp2_with fail
  refine (u8_ok B _ l 9 (by omega) _ hR16).mono ?_
  rintro e w17 ⟨rfl, hR17, hm17⟩
  have m17 := m16.tr (Mvs.ofMv hm17 (.inl rfl))
  have kd := (Mvs.ofMv (S := fun k => k = B) hm17 rfl).keep kd (by omega)
  have kp := (Mvs.ofMv (S := fun k => k = B) hm17 rfl).keep kp (by omega)
  clear hm17 hR16 m16
  generalize l.getD 9 0 = proto at *
  have c0 := cell_blk kd 3
  have c4 := cell_blk kd 4
  simp at c0 c4
  have f0 := fz_blk kd 3
  have f4 := fz_blk kd 4
  go_upto_region 13 with (fail)
  have hm18 : Mvs (fun k => k = Bh) w17 ((w17.setCell ⟨Bh, 3, none⟩ (.int .u8 ttl)).setCell ⟨Bh, 4, none⟩ (.int .u8 proto)) := Mvs.tr (Mvs.set _ _ _ (by exact rfl)) (Mvs.set _ _ _ (by exact rfl))
  have kp := set_oth (b := Bh) (set_oth (b := Bh) kp (by omega) 3 (.int .u8 ttl)) (by omega) 4 (.int .u8 proto)
  have kd := set_blk (set_blk kd 3 (.int .u8 ttl)) 4 (.int .u8 proto)
  simp at kd
  have hR18 := hR17.mvs hm18 n1.2.1 ha (fun k hk => by subst hk; exact hBh.1)
  have m18 := m17.tr (hm18.mono (fun k _ hk => .inr (.inl hk)))
  clear c0 f0 c4 f4 hR17 hm18 m17
  generalize ((w17.setCell ⟨Bh, 3, none⟩ (.int .u8 ttl)).setCell ⟨Bh, 4, none⟩ (.int .u8 proto)) = w18 at *
  have c3 := cell_blk kd 3
  simp at c3
  by_cases h13 : ttl = 0
  · have hE := Lib.hid (hE.out.trans (if_pos h13))
    have h13' : (ttl == 0) = true := by simpa using h13
    clear h13
    go_wp2_with fail
    refine (ask1_yes B _ l 10 _ 23 (by decide) _ (hR18.ext (Ext.new _ _)) (heap_alloc_new _ _)).mono ?_
    rintro x wz ⟨rfl, hxz⟩
    exact ⟨rfl, m18.tr (Mvs.ofExt ((Ext.new _ _).tr hxz)), ⟨_, _, hR18.ext ((Ext.new _ _).tr hxz)⟩, .inr ⟨23, rfl, hE.out.symm, fun h => absurd h (by decide)⟩⟩
  have h13' : (ttl == 0) = false := by simpa using h13
  replace hE := Lib.hid (hE.out.trans (if_neg h13))
  clear h13
  go_wp2_with fail
  refine (ask1_no (rp B) _ 23 _ (heap_alloc_new _ _)).mono ?_
  rintro e w19 ⟨rfl, hx19⟩
  replace hx19 := (Ext.new w18 _).tr hx19
  have hR19 := hR18.ext hx19
  have kd := hx19.block kd
  have kp := hx19.block kp
  have m19 := m18.tr (Mvs.ofExt hx19)
  clear hR18 m18 hx19 h13' c3
  go_wp2_with fail
  refine (u16_ok B _ l 10 HB.out (by omega) _ hR19).mono ?_
  rintro e w20 ⟨rfl, hR20, hm20⟩
  have m20 := m19.tr (Mvs.ofMv hm20 (.inl rfl))
  have kd := (Mvs.ofMv (S := fun k => k = B) hm20 rfl).keep kd (by omega)
  have kp := (Mvs.ofMv (S := fun k => k = B) hm20 rfl).keep kp (by omega)
  clear hm20 hR19 m19
  have d12 := be32_bd HB.out 12
  have d16 := be32_bd HB.out 16
  go_wp2_with fail
  refine (u32_ok B _ l 12 HB.out (by omega) _ hR20).mono ?_
  rintro e w21 ⟨rfl, hR21, hm21⟩
  have m21 := m20.tr (Mvs.ofMv hm21 (.inl rfl))
  have kd := (Mvs.ofMv (S := fun k => k = B) hm21 rfl).keep kd (by omega)
  have kp := (Mvs.ofMv (S := fun k => k = B) hm21 rfl).keep kp (by omega)
  clear hm21 hR20 m20
  go_wp2_with fail
  refine (u32_ok B _ l 16 HB.out (by omega) _ hR21).mono ?_
  rintro e w22 ⟨rfl, hR22, hm22⟩
  have m22 := m21.tr (Mvs.ofMv hm22 (.inl rfl))
  have kd := (Mvs.ofMv (S := fun k => k = B) hm22 rfl).keep kd (by omega)
  have kp := (Mvs.ofMv (S := fun k => k = B) hm22 rfl).keep kp (by omega)
  clear hm22 hR21 m21
  generalize be32 l 12 = S12 at *
  generalize be32 l 16 = S16 at *
  have c0 := cell_blk kd 5
  have c4 := cell_blk kd 6
  simp at c0 c4
  have f0 := fz_blk kd 5
  have f4 := fz_blk kd 6
  obtain ⟨M, hM⟩ : ∃ M : Nat, N = M + 20 := ⟨N - 20, by omega⟩
  have hMI : (N : Int) - 20 = (M : Int) := by omega
  go_upto_region 16 with (fail)
  have hm23 : Mvs (fun k => k = Bh) w22 ((w22.setCell ⟨Bh, 5, none⟩ (.int .u32 S12)).setCell ⟨Bh, 6, none⟩ (.int .u32 S16)) := Mvs.tr (Mvs.set _ _ _ (by exact rfl)) (Mvs.set _ _ _ (by exact rfl))
  have kp := set_oth (b := Bh) (set_oth (b := Bh) kp (by omega) 5 (.int .u32 S12)) (by omega) 6 (.int .u32 S16)
  have kd := set_blk (set_blk kd 5 (.int .u32 S12)) 6 (.int .u32 S16)
  simp at kd
  have hR23 := hR22.mvs hm23 n1.2.1 ha (fun k hk => by subst hk; exact hBh.1)
  have m23 := m22.tr (hm23.mono (fun k _ hk => .inr (.inl hk)))
  clear c0 f0 c4 f4 hR22 hm23 m22
  generalize ((w22.setCell ⟨Bh, 5, none⟩ (.int .u32 S12)).setCell ⟨Bh, 6, none⟩ (.int .u32 S16)) = w23 at *
  have HM := Lib.hid hM
  clear hM
  go_wp2_with fail
  refine (bytes_ok B _ l 20 M (by have := HM.out; omega) _ hR23).mono ?_
  rintro e w24 ⟨u24, rfl, hu24, hR24, hm24⟩
  obtain ⟨a24, n24, c24, rfl⟩ := hu24.rd.shape
  have m24 := m23.tr (Mvs.ofMv hm24 (.inl rfl))
  have kd := (Mvs.ofMv (S := fun k => k = B) hm24 rfl).keep kd (by omega)
  have kp := (Mvs.ofMv (S := fun k => k = B) hm24 rfl).keep kp (by omega)
  have hu24 := hu24.low m23.size
  go_wp2_with fail
  refine (rest_ok B _ l _ _ hR24).mono ?_
  rintro e w25 ⟨u25, rfl, hu25, hR25, hm25⟩
  obtain ⟨a25, n25, c25, rfl⟩ := hu25.rd.shape
  have m25 := m24.tr (Mvs.ofMv hm25 (.inl rfl))
  have kd := (Mvs.ofMv (S := fun k => k = B) hm25 rfl).keep kd (by omega)
  have kp := (Mvs.ofMv (S := fun k => k = B) hm25 rfl).keep kp (by omega)
  have hu25 := hu25.low m24.size
  have hku : Keep w1.heap.size w24 w25 := Keep.ofMvs (Mvs.ofMv (S := fun k => k = B) hm25 rfl) (fun k hk => by subst hk; exact hRB)
  have hu24' := Fr.keep hu24 hku
  have c0 := cell_blk kd 7
  simp at c0
  have c4 := cell_blk kp 0
  simp at c4
  have f0 := fz_blk kd 7
  have f4 := fz_blk kp 0
  have hm26 : Mvs (fun k => k = Bh ∨ k = Bp) w25 ((w25.setCell ⟨Bh, 7, none⟩ (.slice a24 n24 c24)).setCell ⟨Bp, 0, none⟩ (.slice a25 n25 c25)) := Mvs.tr (Mvs.set _ _ _ (.inl rfl)) (Mvs.set _ _ _ (.inr rfl))
  have kd26 := set_oth (b := Bp) (set_blk kd 7 (.slice a24 n24 c24)) n2.2.2 0 (.slice a25 n25 c25)
  have kp26 := set_blk (set_oth (b := Bh) kp (fun e => n2.2.2 e.symm) 7 (.slice a24 n24 c24)) 0 (.slice a25 n25 c25)
  simp at kd26 kp26
  have hR26 := hR25.mvs hm26 (by omega) ha (fun k hk => by rcases hk with hk | hk <;> omega)
  have m26 := m25.tr (hm26.mono (fun k _ hk => .inr hk))
  have hf24 := fr_set (fr_set hu24' (a := ⟨Bh, 7, none⟩) hBs (u := .slice a24 n24 c24)) (a := ⟨Bp, 0, none⟩) hBps (u := .slice a25 n25 c25)
  have hf25 := fr_set (fr_set hu25 (a := ⟨Bh, 7, none⟩) hBs (u := .slice a24 n24 c24)) (a := ⟨Bp, 0, none⟩) hBps (u := .slice a25 n25 c25)
  have hfin : Hid (IpQ Bh Bp l w1 0 ((w25.setCell ⟨Bh, 7, none⟩ (.slice a24 n24 c24)).setCell ⟨Bp, 0, none⟩ (.slice a25 n25 c25))) := by
    refine ⟨hE.out.symm, fun _ => ⟨_, _, by rw [HH.out]; exact kd26, kp26, ?_, ?_⟩⟩
    · rw [HH.out]
      rw [show N - 20 = M by have := HM.out; omega]
      exact hf24
    · rw [HN.out, HM.out, Nat.add_comm]
      exact hf25
  clear hm24 hm25 hR23 hR24 m23 m24 hm26 kd26 kp26 hf24 hf25 hR25 m25 hu24 hu24' hu25 hku
  go_wp2_with fail
  exact ⟨rfl, _, by simp [results, Tryz.results86], m26, ⟨_, _, hR26⟩, .inl ⟨rfl, hfin.out⟩⟩

end Go.Proofs.YtbaidlkjbdeceaaGreat
