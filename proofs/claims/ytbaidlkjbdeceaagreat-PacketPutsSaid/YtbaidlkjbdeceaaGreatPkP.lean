/-
  Proved here: what packet.May and packet.Put compute, for every packet.
-/
import Derived.Test.YtbaidlkjbdeceaaGreatPkM
namespace Go.Proofs.YtbaidlkjbdeceaaGreat
set_option maxRecDepth 200000
open Go.ChangeShapes Go.WideShapes Go.ChangeAt Go.RowKit Go.Cul Go.Loose
set_option linter.unusedVariables false
attribute [local go_sem] Loose.Still Loose.Upon Loose.vUpon First.pUpon

theorem mvs_row9 {b : Nat} : ∀ (vs : List Value) (o : Nat) (w : World), Mvs (fun j => j = b) w (w.setCells b o vs)
  | [], _, w => Mvs.refl _ _
  | v :: vs, o, w => (Mvs.set (S := fun j => j = b) w ⟨b, o, none⟩ v rfl).tr (mvs_row9 vs (o + 1) _)
def putN9 : Array Value → Nat → List Value → Array Value
  | c, _, [] => c
  | c, o, v :: vs => putN9 (c.setIfInBounds o v) (o + 1) vs
theorem row9_set {b : Nat} {t : TypeId} : ∀ (vs : List Value) (o : Nat) (w : World) (c : Array Value), w.heap[b]? = some (.cells c t) → (w.setCells b o vs).heap[b]? = some (.cells (putN9 c o vs) t)
  | [], _, _, _, h => h
  | v :: vs, o, w, c, h => row9_set vs (o + 1) _ _ (set_blk h o v)
/-- A store of a struct into the middle of a known block: the world behind it has a name. -/
theorem wpList_put_mid {P : Program} (ty : TypeId) {dst : Option Tmp} {x y : Operand} {tt : TypeId} {pos : String} {after : Array Edge} {ops : Array Oper} {rest : List Oper} {a : Act} {w : World} {Q : Exit → Act → World → Prop}
    (b o : Nat) (c C : Array Value) (t : TypeId) (hx : a.eval x = .pointer (some ⟨b, o, none⟩)) (hy : a.eval y = .agg C) (hk : w.heap[b]? = some (.cells c t)) (hi : (P.info? ty).map (·.size) = some C.size) (hs : o + C.size ≤ c.size) (h1 : C.all (·.oneCell') = true)
    (h : ∀ W : World, W.heap[b]? = some (.cells (putN9 c o C.toList) t) → Mvs (fun j => j = b) w W → wpList P ops Q rest (a.put dst undef) W) : wpList P ops Q ({ dst := dst, op := .store ty x y, type := tt, pos := pos, after := after, guard := none } :: rest) a w := by
  refine wpList_store_mid rfl ty x y rfl b o C hx hy (fun j hj => ⟨?_, fz_blk hk _⟩) hi h1 (h _ (row9_set _ _ _ _ hk) (mvs_row9 _ _ _))
  rw [cell_blk hk]
  have : o + j < c.size := by omega
  simp [this]

abbrev pno : Pk := ⟨⟨0, 0, false, 0, 0, 0, 0, []⟩, Sg.none, Dg.none, Ms.none⟩
/-- What is not a packet's own part. -/
def Pk.rest (p : Pk) : Pk := if p.h.proto = 6 then ⟨pno.h, Sg.none, p.d, p.m⟩ else if p.h.proto = 17 then ⟨pno.h, p.g, Dg.none, p.m⟩ else if p.h.proto = 1 then ⟨pno.h, p.g, p.d, Ms.none⟩ else ⟨pno.h, p.g, p.d, p.m⟩
def Pk.may (p : Pk) : Bool := hasP p.h.proto && p.h.may && psame p.rest pno
/-- The payload's bytes; the error. -/
def plput (p : Pk) : List Int × Int := if p.h.proto = 6 then tput p.h.src p.h.dst p.g else if p.h.proto = 17 then uput p.h.src p.h.dst p.d.sp p.d.dp p.d.data else mput p.m
/-- A packet's bytes; the error. -/
def pput (p : Pk) : List Int × Int := if p.may = false then ([], 1) else if (plput p).2 ≠ 0 then ([], (plput p).2) else hput p.h (plput p).1

abbrev nos9 : Value := .slice none 0 0
theorem put9_g (p : Pk) (vh vo vg vd vm : Value) : putN9 (p.cells vh vo vg vd vm) 8 (Sg.none.cells nos9 nos9).toList = Pk.cells ⟨p.h, Sg.none, p.d, p.m⟩ vh nos9 nos9 vd vm := by simp [putN9]
theorem put9_d (p : Pk) (vh vo vg vd vm : Value) : putN9 (p.cells vh vo vg vd vm) 17 (Dg.none.cells nos9).toList = Pk.cells ⟨p.h, p.g, Dg.none, p.m⟩ vh vo vg nos9 vm := by simp [putN9]
theorem put9_m (p : Pk) (vh vo vg vd vm : Value) : putN9 (p.cells vh vo vg vd vm) 20 (Ms.none.cells nos9).toList = Pk.cells ⟨p.h, p.g, p.d, Ms.none⟩ vh vo vg vd nos9 := by simp [putN9]
theorem put9_h (p : Pk) (vh vo vg vd vm : Value) : putN9 (p.cells vh vo vg vd vm) 0 (pno.h.cells nos9).toList = Pk.cells ⟨pno.h, p.g, p.d, p.m⟩ nos9 vo vg vd vm := by simp [putN9]
theorem part6_any (p : Pk) (vh vo vg vd vm : Value) (w : World) (hp : p.ok) (r : PkR w p vh vo vg vd vm) (hn : p.g.data.length ≤ 140737488351232) :
    Calls Tryz.prog 32 #[.agg (p.cells vh vo vg vd vm)] w fun e w' => ∃ u, e = .returned (.tuple #[u, .int .i64 (tput p.h.src p.h.dst p.g).2]) ∧ Own w' w.heap.size 5 .u8 u (tput p.h.src p.h.dst p.g).1 ∧ Ext w w' := by
  have hx0 := Ext.new w (.cells (p.cells vh vo vg vd vm) 35)
  have k1 := heap_alloc_new w (.cells (p.cells vh vo vg vd vm) 35)
  have hc := Lib.hid (tput_any p.h.src p.h.dst p.g vo vg _ hp.g (r.o.ext hx0) (r.g.ext hx0) hp.h.src hp.h.dst hn)
  clear r hp
  generalize tput p.h.src p.h.dst p.g = TP at *
  go_enter Tryz.func32, Tryz.ntmps32
  go_upto_region 1 with (fail)
  generalize hW : World.alloc w _ = W at *
  clear hW
  obtain ⟨-, rg, -, -⟩ := pk_rng k1
  have c5 := cell_blk k1 5
  have c6 := cell_blk k1 6
  simp at c5 c6
  clear k1
  go_wp2_with (refine wpList_load_midG rfl 29 _ rfl w.heap.size 8 rfl _ _ rg Tryz.underlying29 rfl (by kernel_rfl) ?_)
  refine hc.out.mono ?_
  rintro e w2 ⟨u, rfl, hu, hx⟩
  obtain ⟨a2, n2, c2, rfl⟩ := hu.rd.shape
  go_wp2_with fail
  go_ret2
  exact ⟨_, rfl, hu.low hx0.size, hx0.tr hx⟩
theorem part17_any (p : Pk) (vh vo vg vd vm : Value) (w : World) (hp : p.ok) (r : PkR w p vh vo vg vd vm) (hn : p.d.data.length ≤ 140737488351232) :
    Calls Tryz.prog 36 #[.agg (p.cells vh vo vg vd vm)] w fun e w' => ∃ u, e = .returned (.tuple #[u, .int .i64 (uput p.h.src p.h.dst p.d.sp p.d.dp p.d.data).2]) ∧ Own w' w.heap.size 5 .u8 u (uput p.h.src p.h.dst p.d.sp p.d.dp p.d.data).1 ∧ Ext w w' := by
  have hx0 := Ext.new w (.cells (p.cells vh vo vg vd vm) 35)
  have k1 := heap_alloc_new w (.cells (p.cells vh vo vg vd vm) 35)
  have hc := Lib.hid (put_any p.h.src p.h.dst p.d.sp p.d.dp vd p.d.data _ (r.d.ext hx0) hp.d.data hp.h.src hp.h.dst hp.d.sp hp.d.dp hn)
  clear r hp
  generalize uput p.h.src p.h.dst p.d.sp p.d.dp p.d.data = TP at *
  go_enter Tryz.func36, Tryz.ntmps36
  go_upto_region 1 with (fail)
  generalize hW : World.alloc w _ = W at *
  clear hW
  obtain ⟨-, -, rg, -⟩ := pk_rng k1
  have c5 := cell_blk k1 5
  have c6 := cell_blk k1 6
  simp at c5 c6
  clear k1
  go_wp2_with (refine wpList_load_midG rfl 31 _ rfl w.heap.size 17 rfl _ _ rg Tryz.underlying31 rfl (by kernel_rfl) ?_)
  refine hc.out.mono ?_
  rintro e w2 ⟨u, rfl, hu, hx⟩
  obtain ⟨a2, n2, c2, rfl⟩ := hu.rd.shape
  go_wp2_with fail
  go_ret2
  exact ⟨_, rfl, hu.low hx0.size, hx0.tr hx⟩
theorem part1_any (p : Pk) (vh vo vg vd vm : Value) (w : World) (hp : p.ok) (r : PkR w p vh vo vg vd vm) (hn : p.m.data.length ≤ 140737488351232) :
    Calls Tryz.prog 40 #[.agg (p.cells vh vo vg vd vm)] w fun e w' => ∃ u, e = .returned (.tuple #[u, .int .i64 (mput p.m).2]) ∧ Own w' w.heap.size 5 .u8 u (mput p.m).1 ∧ Ext w w' := by
  have hx0 := Ext.new w (.cells (p.cells vh vo vg vd vm) 35)
  have k1 := heap_alloc_new w (.cells (p.cells vh vo vg vd vm) 35)
  have hc := Lib.hid (mput_any p.m vm _ hp.m (r.m.ext hx0) hn)
  clear r hp
  generalize mput p.m = TP at *
  go_enter Tryz.func40, Tryz.ntmps40
  go_upto_region 1 with (fail)
  generalize hW : World.alloc w _ = W at *
  clear hW
  obtain ⟨-, -, -, rg⟩ := pk_rng k1
  clear k1
  go_wp2_with (refine wpList_load_midG rfl 33 _ rfl w.heap.size 20 rfl _ _ rg Tryz.underlying33 rfl (by kernel_rfl) ?_)
  refine hc.out.mono ?_
  rintro e w2 ⟨u, rfl, hu, hx⟩
  obtain ⟨a2, n2, c2, rfl⟩ := hu.rd.shape
  go_wp2_with fail
  go_ret2
  exact ⟨_, rfl, hu.low hx0.size, hx0.tr hx⟩
end Go.Proofs.YtbaidlkjbdeceaaGreat
