/-
  Proved here: packets; what packet.Same and the document's Same of packets compute. (PRINTED BY tools/genpk9.py)
-/
import Derived.Test.YtbaidlkjbdeceaaGreatPkS
namespace Go.Proofs.YtbaidlkjbdeceaaGreat
set_option maxRecDepth 200000
open Go.ChangeShapes Go.WideShapes Go.ChangeAt Go.RowKit Go.Cul Go.Loose
set_option linter.unusedVariables false
attribute [local go_sem] Loose.Still Loose.Upon Loose.vUpon First.pUpon

/-- A datagram. -/
structure Dg where
  sp : Int
  dp : Int
  data : List Int
structure Dg.ok (d : Dg) : Prop where
  sp : 0 ≤ d.sp ∧ d.sp ≤ 65535
  dp : 0 ≤ d.dp ∧ d.dp ≤ 65535
  data : Byt d.data
abbrev Dg.cells (d : Dg) (v : Value) : Array Value := #[.int .u16 d.sp, .int .u16 d.dp, v]
def Dg.none : Dg := ⟨0, 0, []⟩
def dsame (d e : Dg) : Bool := usame d.sp d.dp d.data e.sp e.dp e.data
theorem dsame_iff (d e : Dg) : dsame d e = true ↔ d = e := by
  obtain ⟨a, b, c⟩ := d
  obtain ⟨a', b', c'⟩ := e
  simp [dsame, usame, and_assoc]
/-- A packet. -/
structure Pk where
  h : Hd
  g : Sg
  d : Dg
  m : Ms
structure Pk.ok (p : Pk) : Prop where
  h : p.h.ok
  ho : Byt p.h.op
  g : p.g.ok
  d : p.d.ok
  m : p.m.ok
abbrev Pk.cells (p : Pk) (vh vo vg vd vm : Value) : Array Value :=
  #[.int .u8 p.h.tos, .int .u16 p.h.id, .bool p.h.df, .int .u8 p.h.ttl, .int .u8 p.h.proto, .int .u32 p.h.src, .int .u32 p.h.dst, vh,
    .int .u16 p.g.sp, .int .u16 p.g.dp, .int .u32 p.g.seq, .int .u32 p.g.ack, .int .u8 p.g.f, .int .u16 p.g.win, .int .u16 p.g.urg, vo, vg,
    .int .u16 p.d.sp, .int .u16 p.d.dp, vd, .int .u8 p.m.ty, .int .u8 p.m.cd, .int .u32 p.m.rest, vm]
/-- What a packet's slices read as. -/
structure PkR (w : World) (p : Pk) (vh vo vg vd vm : Value) : Prop where
  h : Rd .u8 w vh p.h.op
  o : RdO w vo p.g.os
  g : Rd .u8 w vg p.g.data
  d : Rd .u8 w vd p.d.data
  m : Rd .u8 w vm p.m.data
theorem PkR.ext {w w' : World} {p : Pk} {vh vo vg vd vm : Value} (h : PkR w p vh vo vg vd vm) (hx : Ext w w') : PkR w' p vh vo vg vd vm := ⟨h.h.ext hx, h.o.ext hx, h.g.ext hx, h.d.ext hx, h.m.ext hx⟩
def psame (p q : Pk) : Bool := hsame p.h q.h && tsame p.g q.g && dsame p.d q.d && msame p.m q.m
theorem psame_iff (p q : Pk) : psame p q = true ↔ p = q := by
  obtain ⟨a, b, c, d⟩ := p
  obtain ⟨a', b', c', d'⟩ := q
  simp [psame, hsame_iff, tsame_iff, dsame_iff, msame_iff, and_assoc]

theorem pk_rng {w : World} {b : Nat} {p : Pk} {vh vo vg vd vm : Value} {t : TypeId} (k : w.heap[b]? = some (.cells (p.cells vh vo vg vd vm) t)) :
    w.rangeAt b 0 (p.h.cells vh).toList ∧ w.rangeAt b 8 (p.g.cells vo vg).toList ∧ w.rangeAt b 17 (p.d.cells vd).toList ∧ w.rangeAt b 20 (p.m.cells vm).toList := by
  refine ⟨?_, ?_, ?_, ?_⟩
  · refine fun j v hv => ?_
    have hj : j < 8 := (List.getElem?_eq_some_iff.1 hv).1
    rw [cell_blk k]
    revert hv
    rcases (by omega : j = 0 ∨ j = 1 ∨ j = 2 ∨ j = 3 ∨ j = 4 ∨ j = 5 ∨ j = 6 ∨ j = 7) with rfl | rfl | rfl | rfl | rfl | rfl | rfl | rfl <;> exact id
  · refine fun j v hv => ?_
    have hj : j < 9 := (List.getElem?_eq_some_iff.1 hv).1
    rw [cell_blk k]
    revert hv
    rcases (by omega : j = 0 ∨ j = 1 ∨ j = 2 ∨ j = 3 ∨ j = 4 ∨ j = 5 ∨ j = 6 ∨ j = 7 ∨ j = 8) with rfl | rfl | rfl | rfl | rfl | rfl | rfl | rfl | rfl <;> exact id
  · refine fun j v hv => ?_
    have hj : j < 3 := (List.getElem?_eq_some_iff.1 hv).1
    rw [cell_blk k]
    revert hv
    rcases (by omega : j = 0 ∨ j = 1 ∨ j = 2) with rfl | rfl | rfl <;> exact id
  · refine fun j v hv => ?_
    have hj : j < 4 := (List.getElem?_eq_some_iff.1 hv).1
    rw [cell_blk k]
    revert hv
    rcases (by omega : j = 0 ∨ j = 1 ∨ j = 2 ∨ j = 3) with rfl | rfl | rfl | rfl <;> exact id
set_option maxHeartbeats 4000000 in
set_option maxRecDepth 100000 in
theorem psame_any (p q : Pk) (vh vo vg vd vm vh' vo' vg' vd' vm' : Value) (w : World) (hp : p.ok) (hq : q.ok) (r1 : PkR w p vh vo vg vd vm) (r2 : PkR w q vh' vo' vg' vd' vm') :
    Calls Tryz.prog 11 #[.agg (p.cells vh vo vg vd vm), .agg (q.cells vh' vo' vg' vd' vm')] w fun e w' => e = .returned (.bool (psame p q)) ∧ Ext w w' := by
  have hU : Hid (psame p q = (hsame p.h q.h && tsame p.g q.g && dsame p.d q.d && msame p.m q.m)) := rfl
  generalize psame p q = PS at *
  have hx0 : Ext w ((w.alloc (.cells (p.cells vh vo vg vd vm) 35)).alloc (.cells (q.cells vh' vo' vg' vd' vm') 35)) := (Ext.new _ _).al _
  have k1 := new9a w (.cells (p.cells vh vo vg vd vm) 35) (.cells (q.cells vh' vo' vg' vd' vm') 35)
  have k2 := new9b w (.cells (p.cells vh vo vg vd vm) 35) (.cells (q.cells vh' vo' vg' vd' vm') 35)
  have R1 := Lib.hid (r1.ext hx0)
  have R2 := Lib.hid (r2.ext hx0)
  have HP := Lib.hid hp
  have HQ := Lib.hid hq
  clear r1 r2 hp hq
  go_enter Tryz.func11, Tryz.ntmps11
  go_upto_region 1 with (fail)
  generalize hW : World.alloc (World.alloc w _) _ = W at *
  clear hW
  obtain ⟨rh, rg, rd, rm⟩ := pk_rng k1
  obtain ⟨rh', rg', rd', rm'⟩ := pk_rng k2
  clear k1 k2
  have hyp0 : Ext W W := Ext.rfl' _
  go_wp2_with (first | (refine wpList_load_midG rfl 26 _ rfl w.heap.size 0 rfl _ _ rh Tryz.underlying26 rfl (by kernel_rfl) ?_) | (refine wpList_load_midG rfl 26 _ rfl (w.heap.size + 1) 0 rfl _ _ rh' Tryz.underlying26 rfl (by kernel_rfl) ?_))
  refine (hsame_any p.h q.h vh vh' W (R1.out.ext hyp0).h (R2.out.ext hyp0).h HP.out.ho HQ.out.ho).mono ?_
  rintro e W2 ⟨rfl, hx2⟩
  have hyp1 := hyp0.tr hx2
  replace rg := range_ext rg hx2
  replace rg' := range_ext rg' hx2
  replace rd := range_ext rd hx2
  replace rd' := range_ext rd' hx2
  replace rm := range_ext rm hx2
  replace rm' := range_ext rm' hx2
  generalize hsame p.h q.h = S0 at *
  clear hx2 rh rh'
  cases S0
  · go_wp2_with fail
    go_ret
    exact ⟨by rw [hU.out]; simp, hx0.tr hyp1⟩
  go_wp2_with (first | (refine wpList_load_midG rfl 29 _ rfl w.heap.size 8 rfl _ _ rg Tryz.underlying29 rfl (by kernel_rfl) ?_) | (refine wpList_load_midG rfl 29 _ rfl (w.heap.size + 1) 8 rfl _ _ rg' Tryz.underlying29 rfl (by kernel_rfl) ?_))
  refine (tsame_any p.g q.g vo vg vo' vg' W2 HP.out.g HQ.out.g (R1.out.ext hyp1).o (R1.out.ext hyp1).g (R2.out.ext hyp1).o (R2.out.ext hyp1).g).mono ?_
  rintro e W3 ⟨rfl, hx3⟩
  have hyp2 := hyp1.tr hx3
  replace rd := range_ext rd hx3
  replace rd' := range_ext rd' hx3
  replace rm := range_ext rm hx3
  replace rm' := range_ext rm' hx3
  generalize tsame p.g q.g = S1 at *
  clear hx3 rg rg'
  cases S1
  · go_wp2_with fail
    go_ret
    exact ⟨by rw [hU.out]; simp, hx0.tr hyp2⟩
  go_wp2_with (first | (refine wpList_load_midG rfl 31 _ rfl w.heap.size 17 rfl _ _ rd Tryz.underlying31 rfl (by kernel_rfl) ?_) | (refine wpList_load_midG rfl 31 _ rfl (w.heap.size + 1) 17 rfl _ _ rd' Tryz.underlying31 rfl (by kernel_rfl) ?_))
  refine (usame_any p.d.sp p.d.dp q.d.sp q.d.dp vd vd' p.d.data q.d.data W3 (R1.out.ext hyp2).d (R2.out.ext hyp2).d HP.out.d.data HQ.out.d.data).mono ?_
  rintro e W4 ⟨rfl, hx4⟩
  have hyp3 := hyp2.tr hx4
  replace rm := range_ext rm hx4
  replace rm' := range_ext rm' hx4
  rw [show usame p.d.sp p.d.dp p.d.data q.d.sp q.d.dp q.d.data = dsame p.d q.d from rfl]
  generalize dsame p.d q.d = S2 at *
  clear hx4 rd rd'
  cases S2
  · go_wp2_with fail
    go_ret
    exact ⟨by rw [hU.out]; simp, hx0.tr hyp3⟩
  go_wp2_with (first | (refine wpList_load_midG rfl 33 _ rfl w.heap.size 20 rfl _ _ rm Tryz.underlying33 rfl (by kernel_rfl) ?_) | (refine wpList_load_midG rfl 33 _ rfl (w.heap.size + 1) 20 rfl _ _ rm' Tryz.underlying33 rfl (by kernel_rfl) ?_))
  refine (msame_any p.m q.m vm vm' W4 HP.out.m HQ.out.m (R1.out.ext hyp3).m (R2.out.ext hyp3).m).mono ?_
  rintro e W5 ⟨rfl, hx5⟩
  have hyp4 := hyp3.tr hx5
  generalize msame p.m q.m = S3 at *
  clear hx5 rm rm'
  go_wp2_with fail
  go_ret
  exact ⟨by rw [hU.out]; simp, hx0.tr hyp4⟩

set_option maxHeartbeats 4000000 in
set_option maxRecDepth 100000 in
theorem r9same_any (p q : Pk) (vh vo vg vd vm vh' vo' vg' vd' vm' : Value) (w : World) (hp : p.ok) (hq : q.ok) (r1 : PkR w p vh vo vg vd vm) (r2 : PkR w q vh' vo' vg' vd' vm') :
    Calls Tryz.prog 12 #[.agg (p.cells vh vo vg vd vm), .agg (q.cells vh' vo' vg' vd' vm')] w fun e w' => e = .returned (.bool (psame p q)) ∧ Ext w w' := by
  have hU : Hid (psame p q = (hsame p.h q.h && tsame p.g q.g && dsame p.d q.d && msame p.m q.m)) := rfl
  generalize psame p q = PS at *
  have hx0 : Ext w ((w.alloc (.cells (p.cells vh vo vg vd vm) 35)).alloc (.cells (q.cells vh' vo' vg' vd' vm') 35)) := (Ext.new _ _).al _
  have k1 := new9a w (.cells (p.cells vh vo vg vd vm) 35) (.cells (q.cells vh' vo' vg' vd' vm') 35)
  have k2 := new9b w (.cells (p.cells vh vo vg vd vm) 35) (.cells (q.cells vh' vo' vg' vd' vm') 35)
  have R1 := Lib.hid (r1.ext hx0)
  have R2 := Lib.hid (r2.ext hx0)
  have HP := Lib.hid hp
  have HQ := Lib.hid hq
  clear r1 r2 hp hq
  go_enter Tryz.func12, Tryz.ntmps12
  go_upto_region 1 with (fail)
  generalize hW : World.alloc (World.alloc w _) _ = W at *
  clear hW
  obtain ⟨rh, rg, rd, rm⟩ := pk_rng k1
  obtain ⟨rh', rg', rd', rm'⟩ := pk_rng k2
  clear k1 k2
  have hyp0 : Ext W W := Ext.rfl' _
  go_wp2_with (first | (refine wpList_load_midG rfl 26 _ rfl w.heap.size 0 rfl _ _ rh Tryz.underlying26 rfl (by kernel_rfl) ?_) | (refine wpList_load_midG rfl 26 _ rfl (w.heap.size + 1) 0 rfl _ _ rh' Tryz.underlying26 rfl (by kernel_rfl) ?_))
  refine (r4same_any p.h q.h vh vh' W (R1.out.ext hyp0).h (R2.out.ext hyp0).h HP.out.ho HQ.out.ho).mono ?_
  rintro e W2 ⟨rfl, hx2⟩
  have hyp1 := hyp0.tr hx2
  replace rg := range_ext rg hx2
  replace rg' := range_ext rg' hx2
  replace rd := range_ext rd hx2
  replace rd' := range_ext rd' hx2
  replace rm := range_ext rm hx2
  replace rm' := range_ext rm' hx2
  generalize hsame p.h q.h = S0 at *
  clear hx2 rh rh'
  cases S0
  · go_wp2_with fail
    go_ret
    exact ⟨by rw [hU.out]; simp, hx0.tr hyp1⟩
  go_wp2_with (first | (refine wpList_load_midG rfl 29 _ rfl w.heap.size 8 rfl _ _ rg Tryz.underlying29 rfl (by kernel_rfl) ?_) | (refine wpList_load_midG rfl 29 _ rfl (w.heap.size + 1) 8 rfl _ _ rg' Tryz.underlying29 rfl (by kernel_rfl) ?_))
  refine (r6same_any p.g q.g vo vg vo' vg' W2 HP.out.g HQ.out.g (R1.out.ext hyp1).o (R1.out.ext hyp1).g (R2.out.ext hyp1).o (R2.out.ext hyp1).g).mono ?_
  rintro e W3 ⟨rfl, hx3⟩
  have hyp2 := hyp1.tr hx3
  replace rd := range_ext rd hx3
  replace rd' := range_ext rd' hx3
  replace rm := range_ext rm hx3
  replace rm' := range_ext rm' hx3
  generalize tsame p.g q.g = S1 at *
  clear hx3 rg rg'
  cases S1
  · go_wp2_with fail
    go_ret
    exact ⟨by rw [hU.out]; simp, hx0.tr hyp2⟩
  go_wp2_with (first | (refine wpList_load_midG rfl 31 _ rfl w.heap.size 17 rfl _ _ rd Tryz.underlying31 rfl (by kernel_rfl) ?_) | (refine wpList_load_midG rfl 31 _ rfl (w.heap.size + 1) 17 rfl _ _ rd' Tryz.underlying31 rfl (by kernel_rfl) ?_))
  refine (r7same_any p.d.sp p.d.dp q.d.sp q.d.dp vd vd' p.d.data q.d.data W3 (R1.out.ext hyp2).d (R2.out.ext hyp2).d HP.out.d.data HQ.out.d.data).mono ?_
  rintro e W4 ⟨rfl, hx4⟩
  have hyp3 := hyp2.tr hx4
  replace rm := range_ext rm hx4
  replace rm' := range_ext rm' hx4
  rw [show usame p.d.sp p.d.dp p.d.data q.d.sp q.d.dp q.d.data = dsame p.d q.d from rfl]
  generalize dsame p.d q.d = S2 at *
  clear hx4 rd rd'
  cases S2
  · go_wp2_with fail
    go_ret
    exact ⟨by rw [hU.out]; simp, hx0.tr hyp3⟩
  go_wp2_with (first | (refine wpList_load_midG rfl 33 _ rfl w.heap.size 20 rfl _ _ rm Tryz.underlying33 rfl (by kernel_rfl) ?_) | (refine wpList_load_midG rfl 33 _ rfl (w.heap.size + 1) 20 rfl _ _ rm' Tryz.underlying33 rfl (by kernel_rfl) ?_))
  refine (r8same_any p.m q.m vm vm' W4 HP.out.m HQ.out.m (R1.out.ext hyp3).m (R2.out.ext hyp3).m).mono ?_
  rintro e W5 ⟨rfl, hx5⟩
  have hyp4 := hyp3.tr hx5
  generalize msame p.m q.m = S3 at *
  clear hx5 rm rm'
  go_wp2_with fail
  go_ret
  exact ⟨by rw [hU.out]; simp, hx0.tr hyp4⟩

end Go.Proofs.YtbaidlkjbdeceaaGreat