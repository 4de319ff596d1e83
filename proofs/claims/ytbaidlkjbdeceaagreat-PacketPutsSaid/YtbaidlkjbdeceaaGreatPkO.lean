/-
  Proved here: packets of our own: what packet.own, packet.Tcp, packet.Icmp, the document's Own and the law's syn make.
-/
import Derived.Test.YtbaidlkjbdeceaaGreatPkR
namespace Go.Proofs.YtbaidlkjbdeceaaGreat
set_option maxRecDepth 200000
open Go.ChangeShapes Go.WideShapes Go.ChangeAt Go.RowKit Go.Cul Go.Loose
set_option linter.unusedVariables false
attribute [local go_sem] Loose.Still Loose.Upon Loose.vUpon First.pUpon

/-- A packet of our own. -/
abbrev ownP (s d pr : Int) : Pk := ⟨⟨0, 0, true, 64, pr, s, d, []⟩, Sg.none, Dg.none, Ms.none⟩
def ownC (s d pr : Int) : Array Value := #[.int .u8 0, .int .u16 0, .bool true, .int .u8 64, .int .u8 pr, .int .u32 s, .int .u32 d, .slice none 0 0,
  .int .u16 0, .int .u16 0, .int .u32 0, .int .u32 0, .int .u8 0, .int .u16 0, .int .u16 0, .slice none 0 0, .slice none 0 0, .int .u16 0, .int .u16 0, .slice none 0 0, .int .u8 0, .int .u8 0, .int .u32 0, .slice none 0 0]
theorem own_one (a b c : Int) : (ownC a b c).all (·.oneCell') = true := by simp [ownC, Value.oneCell']
theorem ownC_eq (s d pr : Int) : ownC s d pr = (ownP s d pr).cells nos9 nos9 nos9 nos9 nos9 := rfl
theorem own9_any (s d pr : Int) (w : World) : Calls Tryz.prog 85 #[.int .u32 s, .int .u32 d, .int .u8 pr] w fun e w' => e = .returned (.agg ((ownP s d pr).cells nos9 nos9 nos9 nos9 nos9)) ∧ Ext w w' := by
  go_enter Tryz.func85, Tryz.ntmps85
  go_wp2_with (refine wpList_store_big 35 (ownC s d pr) rfl rfl (by kernel_rfl) rfl (own_one _ _ _) ?_)
  refine bodyPost_ret (v := .agg (ownC s d pr)) ?_ rfl ?_
  · exact results_cell rfl _ rfl (load_blk (heap_alloc_new _ _) 35 _ Tryz.underlying35 rfl (show _ = some 24 by kernel_rfl))
  · exact ⟨rfl, Ext.new _ _⟩
theorem put9_seg (p : Pk) (g : Sg) (vh vo vg vd vm vo' vg' : Value) : putN9 (p.cells vh vo vg vd vm) 8 (g.cells vo' vg').toList = Pk.cells ⟨p.h, g, p.d, p.m⟩ vh vo' vg' vd vm := by simp [putN9]
theorem put9_msg (p : Pk) (m : Ms) (vh vo vg vd vm vm' : Value) : putN9 (p.cells vh vo vg vd vm) 20 (m.cells vm').toList = Pk.cells ⟨p.h, p.g, p.d, m⟩ vh vo vg vd vm' := by simp [putN9]
theorem pk_one9 (p : Pk) (a1 : Option Addr) (n1 c1 : Nat) (a2 : Option Addr) (n2 c2 : Nat) (a3 : Option Addr) (n3 c3 : Nat) (a4 : Option Addr) (n4 c4 : Nat) (a5 : Option Addr) (n5 c5 : Nat) : (p.cells (.slice a1 n1 c1) (.slice a2 n2 c2) (.slice a3 n3 c3) (.slice a4 n4 c4) (.slice a5 n5 c5)).all (·.oneCell') = true := by simp [Value.oneCell']

set_option maxHeartbeats 4000000
set_option maxRecDepth 100000
theorem tcp9_any (s d : Int) (g : Sg) (ao : Option Addr) (no co : Nat) (ag : Option Addr) (ng cg : Nat) (w : World) : Calls Tryz.prog 55 #[.int .u32 s, .int .u32 d, .agg (g.cells (.slice ao no co) (.slice ag ng cg))] w fun e w' => e = .returned (.agg (Pk.cells ⟨(ownP s d 6).h, g, Dg.none, Ms.none⟩ nos9 (.slice ao no co) (.slice ag ng cg) nos9 nos9)) ∧ Ext w w' := by
  go_enter Tryz.func55, Tryz.ntmps55
  go_upto_region 1 with (fail)
  generalize hW : (World.alloc (World.alloc w _) _) = W
  have hxW : Ext w W := by rw [← hW]; exact (Ext.new _ _).al _
  have k5 : W.heap[w.heap.size]? = some (.cells (g.cells (.slice ao no co) (.slice ag ng cg)) 29) := by rw [← hW]; exact new9a w _ _
  have k6 : W.heap[w.heap.size + 1]? = some (.cells (pno.cells nos9 nos9 nos9 nos9 nos9) 35) := by rw [← hW]; exact new9b w _ _
  clear hW
  go_wp2_with fail
  refine (own9_any s d 6 W).mono ?_
  rintro e W1 ⟨rfl, hx1⟩
  have k5 := hx1.block k5
  have k6 := hx1.block k6
  have hxw := hxW.tr hx1
  have h6 := lt_of_block k6
  clear hxW hx1
  go_upto_region 2 with (refine wpList_put_row 35 W1.heap.size _ ((ownP s d 6).cells nos9 nos9 nos9 nos9 nos9) _ rfl rfl (heap_alloc_new _ _) (by kernel_rfl) rfl (own_one _ _ _) ?_; intro W2 k7 m2)
  have hx2 := m2.ext (Ext.new W1 _) (fun j hj => by omega)
  have k5 := hx2.block k5
  have k6 := hx2.block k6
  have hxw := hxw.tr hx2
  generalize W1.heap.size = b7 at *
  clear m2 hx2
  try simp only [Act.put]
  go_upto_region 3 with (first | (refine wpList_load_bigG 29 w.heap.size _ _ _ rfl k5 rfl Tryz.underlying29 rfl (by kernel_rfl) ?_; simp only [Act.put, List.setIfInBounds_toArray, List.set_cons_succ, List.set_cons_zero]) | (refine wpList_put_mid 29 b7 8 _ (g.cells (.slice ao no co) (.slice ag ng cg)) _ rfl rfl k7 (by kernel_rfl) (Nat.le_of_ble_eq_true rfl) (by simp [Value.oneCell']) ?_; intro W3 k8 m3; rw [put9_seg] at k8))
  have k6 := m3.keep k6 (by omega)
  have hxw := m3.ext hxw (fun j hj => by omega)
  clear m3 k7 k5
  try simp only [Act.put]
  go_wp2_with (first | (refine wpList_load_bigG 35 b7 _ _ _ rfl k8 rfl Tryz.underlying35 rfl (by kernel_rfl) ?_; simp only [Act.put, List.setIfInBounds_toArray, List.set_cons_succ, List.set_cons_zero]) | (refine wpList_put_row 35 (w.heap.size + 1) _ (Pk.cells ⟨(ownP s d 6).h, g, Dg.none, Ms.none⟩ nos9 (.slice ao no co) (.slice ag ng cg) nos9 nos9) _ rfl rfl k6 (by kernel_rfl) rfl (pk_one9 _ _ _ _ _ _ _ _ _ _ _ _ _ _ _ _) ?_; intro W4 k9 m4))
  refine bodyPost_ret (results_cell Tryz.results55 _ rfl (load_blk k9 35 _ Tryz.underlying35 rfl (show _ = some 24 by kernel_rfl))) rfl ?_
  exact ⟨rfl, m4.ext hxw (fun j hj => by omega)⟩
abbrev synG : Sg := ⟨3, 4, 0, 0, 2, 0, 0, [], []⟩
abbrev synP : Pk := ⟨(ownP 1 2 6).h, synG, Dg.none, Ms.none⟩
theorem syn_any (w : World) : Calls Tryz.prog 20 #[] w fun e w' => e = .returned (.agg (synP.cells nos9 nos9 nos9 nos9 nos9)) ∧ Ext w w' := by
  go_enter Tryz.func20, Tryz.ntmps20
  go_upto_region 1 with (fail)
  generalize hW : World.alloc w _ = W
  have hxW : Ext w W := by rw [← hW]; exact Ext.new _ _
  have k0 : W.heap[w.heap.size]? = some (.cells (pno.cells nos9 nos9 nos9 nos9 nos9) 35) := by rw [← hW]; exact heap_alloc_new w _
  clear hW
  go_wp2_with (refine wpList_build_big 29 (synG.cells nos9 nos9) _ rfl (by kernel_rfl) ?_)
  refine (tcp9_any 1 2 synG none 0 0 none 0 0 W).mono ?_
  rintro e W1 ⟨rfl, hx1⟩
  have k0 := hx1.block k0
  have hxw := hxW.tr hx1
  clear hxW hx1
  go_wp2_with (refine wpList_put_row 35 w.heap.size _ (synP.cells nos9 nos9 nos9 nos9 nos9) _ rfl rfl k0 (by kernel_rfl) rfl (pk_one9 _ _ _ _ _ _ _ _ _ _ _ _ _ _ _ _) ?_; intro W2 k2 m2)
  refine bodyPost_ret (results_cell Tryz.results20 _ rfl (load_blk k2 35 _ Tryz.underlying35 rfl (show _ = some 24 by kernel_rfl))) rfl ?_
  exact ⟨rfl, m2.ext hxw (fun j hj => by omega)⟩
end Go.Proofs.YtbaidlkjbdeceaaGreat
