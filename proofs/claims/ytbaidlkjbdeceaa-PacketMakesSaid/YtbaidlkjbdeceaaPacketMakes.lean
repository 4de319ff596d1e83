/-
  Proved here: the law PacketMakes returns true. No condition.
-/
import Derived.Test.YtbaidlkjbdeceaaPkW
import Derived.Test.YtbaidlkjbdeceaaTwo
namespace Go.Proofs.Ytbaidlkjbdeceaa.packetMakes
set_option maxRecDepth 200000
open Go.ChangeShapes Go.WideShapes Go.ChangeAt Go.RowKit Go.Cul Go.Loose
set_option linter.unusedVariables false
attribute [local go_sem] Loose.Still Loose.Upon Loose.vUpon First.pUpon

/-- A store of a struct into a known block's middle, in a chain. -/
theorem wpI_put_mid {P : Program} {ops : Array Oper} {J : World → Prop} {z : Nat} {Q : Exit → Act → World → Prop} {E : List PanicEntry → World → Prop} (ty : TypeId) {dst : Option Tmp} {x y : Operand} {tt : TypeId} {pos : String} {after : Array Edge} {t : Nat} {ts : List Nat} {a : Act} {w : World} (ho : ops[t]? = some { dst := dst, op := .store ty x y, type := tt, pos := pos, after := after, guard := none })
    (b o : Nat) (c C : Array Value) (te : TypeId) (hx : a.eval x = .pointer (some ⟨b, o, none⟩)) (hy : a.eval y = .agg C) (hk : w.heap[b]? = some (.cells c te))
    (hi : (P.info? ty).map (·.size) = some C.size) (hs : o + C.size ≤ c.size) (h1 : C.all (·.oneCell') = true)
    (h : ∀ W : World, W.heap[b]? = some (.cells (putN9 c o C.toList) te) → Mvs (fun k => k = b) w W → ∀ K : Act → World → Prop, (∀ a w, (t ≠ z → J w) → Order.wpI P ops J z Q E ts a w → K a w) → K (a.put dst undef) W) : Order.wpI P ops J z Q E (t :: ts) a w := by
  refine Order.wpI_step ho rfl fun K hK => ?_
  have ht : w.there b o C.size := fun j hj => ⟨by
    rw [cell_blk hk]
    have : o + j < c.size := by omega
    simp [this], fz_blk hk _⟩
  unfold execOp
  simp only [hx, hy, Instr.storeAt, Instr.sureAddr, Sem.run_bind, Sem.run_pure, Result.andThen_ok, run_storeVar_mid w b o ty C ht hi h1]
  exact h _ (row9_set _ _ _ _ hk) (mvs_row9 _ _ _) K hK

theorem hd_own (s d pr : Int) (hs : 0 ≤ s ∧ s ≤ 4294967295) (hd : 0 ≤ d ∧ d ≤ 4294967295) (hp : 0 ≤ pr ∧ pr ≤ 255) : (ownP s d pr).h.ok := ⟨⟨Int.le_refl 0, (by decide : (0 : Int) ≤ 255)⟩, ⟨Int.le_refl 0, (by decide : (0 : Int) ≤ 65535)⟩, ⟨(by decide : (0 : Int) ≤ 64), (by decide : (64 : Int) ≤ 255)⟩, hp, hs, hd, byt0⟩
theorem same_tcp (s d : Int) (hs : 0 ≤ s ∧ s ≤ 4294967295) (hd : 0 ≤ d ∧ d ≤ 4294967295) (g : Sg) (hg : g.ok) (vo vg : Value) (w : World) (ro : RdO w vo g.os) (rg : Rd .u8 w vg g.data) : Calls Try.prog 12 #[.agg (Pk.cells ⟨(ownP s d 6).h, g, Dg.none, Ms.none⟩ nos9 vo vg nos9 nos9), .agg (Pk.cells ⟨(ownP s d 6).h, g, Dg.none, Ms.none⟩ nos9 vo vg nos9 nos9)] w fun e w' => e = .returned (.bool true) ∧ Ext w w' := by
  have ok : Pk.ok ⟨(ownP s d 6).h, g, Dg.none, Ms.none⟩ := ⟨hd_own s d 6 hs hd (by decide), byt0, hg, dg0, ms0⟩
  have r : PkR w ⟨(ownP s d 6).h, g, Dg.none, Ms.none⟩ nos9 vo vg nos9 nos9 := ⟨Rd.nil _ _, ro, rg, Rd.nil _ _, Rd.nil _ _⟩
  refine (r9same_any _ _ _ _ _ _ _ _ _ _ _ _ w ok ok r r).mono ?_
  rintro e w' ⟨rfl, hx⟩
  exact ⟨by rw [(psame_iff _ _).2 rfl], hx⟩
theorem same_icmp (s d : Int) (hs : 0 ≤ s ∧ s ≤ 4294967295) (hd : 0 ≤ d ∧ d ≤ 4294967295) (m : Ms) (hm : m.ok) (vm : Value) (w : World) (rm : Rd .u8 w vm m.data) : Calls Try.prog 12 #[.agg (Pk.cells ⟨(ownP s d 1).h, Sg.none, Dg.none, m⟩ nos9 nos9 nos9 nos9 vm), .agg (Pk.cells ⟨(ownP s d 1).h, Sg.none, Dg.none, m⟩ nos9 nos9 nos9 nos9 vm)] w fun e w' => e = .returned (.bool true) ∧ Ext w w' := by
  have ok : Pk.ok ⟨(ownP s d 1).h, Sg.none, Dg.none, m⟩ := ⟨hd_own s d 1 hs hd (by decide), byt0, sg0, dg0, hm⟩
  have r : PkR w ⟨(ownP s d 1).h, Sg.none, Dg.none, m⟩ nos9 nos9 nos9 nos9 vm := ⟨Rd.nil _ _, RdO.nil _, Rd.nil _ _, Rd.nil _ _, rm⟩
  refine (r9same_any _ _ _ _ _ _ _ _ _ _ _ _ w ok ok r r).mono ?_
  rintro e w' ⟨rfl, hx⟩
  exact ⟨by rw [(psame_iff _ _).2 rfl], hx⟩

set_option maxHeartbeats 8000000
set_option maxRecDepth 100000
theorem walk (w : World) (s : Int) (hs : 0 ≤ s ∧ s ≤ 4294967295) (d : Int) (hd : 0 ≤ d ∧ d ≤ 4294967295) (cs0 : Array Value) (g0 : Reads w pkSh cs0.toList) : Calls Try.prog 4 #[.int .u32 s, .int .u32 d, .agg cs0] w fun e w' => e = .returned (.bool true) ∧ Ext w w' := by
  obtain ⟨p, vh, vo, vg, vd, vm, rfl, ok, r⟩ := open_pk9 g0
  have HF := Lib.hid (fun (W : World) (hx : Ext w W) => few9_of p vh vo vg vd vm w W hx r)
  have OK := Lib.hid (fxP_ok ok)
  clear g0 ok r
  generalize fxP p = q at *
  go_enter Try.func4, Try.ntmps4
  go_upto_region 1 with (fail)
  generalize hW : World.alloc w _ = W
  have hxW : Ext w W := by rw [← hW]; exact Ext.new _ _
  have k5 : W.heap[w.heap.size]? = some (.cells (p.cells vh vo vg vd vm) 35) := by rw [← hW]; exact heap_alloc_new w _
  clear hW
  have hws := lt_of_block k5
  go_wp2_with (refine wpList_load_bigG 35 w.heap.size _ _ _ rfl k5 rfl Try.underlying35 rfl (by kernel_rfl) ?_; simp only [Act.put, List.setIfInBounds_toArray, List.set_cons_succ, List.set_cons_zero])
  refine (HF.out W hxW).mono ?_
  clear HF
  rintro e W1 ⟨a1, n1, c1, a2, n2, c2, a3, n3, c3, a4, n4, c4, a5, n5, c5, rfl, r, hx1⟩
  have k5 := hx1.block k5
  have hx := hxW.tr hx1
  clear hxW hx1
  go_upto_region 2 with (refine wpList_put_row 35 w.heap.size _ (q.cells (.slice a1 n1 c1) (.slice a2 n2 c2) (.slice a3 n3 c3) (.slice a4 n4 c4) (.slice a5 n5 c5)) _ rfl rfl k5 (by kernel_rfl) rfl (pk_one9 _ _ _ _ _ _ _ _ _ _ _ _ _ _ _ _) ?_; intro W2 k5' m2)
  have hx := m2.ext hx (fun j hj => by omega)
  have r := r.keep (Keep.ofMvs m2 (fun j hj => by omega))
  have R := Lib.hid r
  clear k5 m2 r
  go_wp2_with fail
  refine (r9own_any s d 6 W2).mono ?_
  rintro e W3 ⟨rfl, hx3⟩
  have hx := hx.tr hx3
  have k5 := hx3.block k5'
  have R := Lib.hid (R.out.ext hx3)
  clear hx3 k5'
  go_wp2_with fail
  refine (r9own_any s d 1 W3).mono ?_
  rintro e W4 ⟨rfl, hx4⟩
  have hx := hx.tr hx4
  have k5 := hx4.block k5
  have R := Lib.hid (R.out.ext hx4)
  have h5 := lt_of_block k5
  clear hx4
  go_upto_region 3 with (first | (refine wpList_put_row 35 W4.heap.size _ ((ownP s d 6).cells nos9 nos9 nos9 nos9 nos9) _ rfl rfl (new9a _ _ _) (by kernel_rfl) rfl (own_one _ _ _) ?_; intro W5 k7 m5) | (refine wpList_put_row 35 (W4.heap.size + 1) _ ((ownP s d 1).cells nos9 nos9 nos9 nos9 nos9) _ rfl rfl (m5.keep (new9b _ _ _) (by omega)) (by kernel_rfl) rfl (own_one _ _ _) ?_; intro W6 k8 m6))
  have k7 := m6.keep k7 (by omega)
  have hxx := (Ext.new W4 (.cells (pno.cells nos9 nos9 nos9 nos9 nos9) 35)).al (.cells (pno.cells nos9 nos9 nos9 nos9 nos9) 35)
  have hx6 : Ext W4 W6 := m6.ext (m5.ext hxx (fun j hj => by omega)) (fun j hj => by omega)
  have hx := hx.tr hx6
  have k5 := hx6.block k5
  have HX6 := Lib.hid hx6
  have hl8 := lt_of_block k8
  generalize hB7 : W4.heap.size = b7 at *
  clear m5 m6 hxx hx6
  simp only [Act.put]
  obtain ⟨rgH, rgG, rgD, rgM⟩ := pk_rng k5
  have HRG := Lib.hid rgG
  have HRM := Lib.hid rgM
  have HK5 := Lib.hid k5
  clear rgH rgG rgD rgM k5
  go_upto_region 3 with (fail)
  refine Order.wp_region_order [0, 1, 2, 3, 4] [5, 6, 7] 7 (fun w' => Mvs (fun j => j = b7) W6 w') (fun _ _ => False) (fun _ _ _ _ h => h.elim) (fun _ h => Mvs.ofExt h) (by kernel_rfl) (by kernel_rfl) (by kernel_rfl) rfl (by kernel_rfl) ?_
  intro wd hwd
  have hwd : Ext W6 wd := hwd
  iterate 1
    apply Order.wpH_some rfl rfl
    · intro w' hw'; go_simp; exact rfl
    intro K hK; go_simp; refine hK _ ?_; clear hK K
  apply Order.wpH_some rfl rfl
  · intro w' hw'
    exact Order.look_load 29 _ rfl w.heap.size 8 rfl (q.g.cells (.slice a2 n2 c2) (.slice a3 n3 c3)) _ (pk_rng (Mvs.keep hw' HK5.out (by omega))).2.1 Try.underlying29 rfl (by kernel_rfl)
  intro K hK; go_simp; refine hK _ ?_; clear hK K
  iterate 1
    apply Order.wpH_some rfl rfl
    · intro w' hw'; go_simp; exact rfl
    intro K hK; go_simp; refine hK _ ?_; clear hK K
  apply Order.wpH_some rfl rfl
  · intro w' hw'
    exact Order.look_load 33 _ rfl w.heap.size 20 rfl (q.m.cells (.slice a5 n5 c5)) _ (pk_rng (Mvs.keep hw' HK5.out (by omega))).2.2.2 Try.underlying33 rfl (by kernel_rfl)
  intro K hK; go_simp; refine hK _ ?_; clear hK K
  iterate 1
    apply Order.wpH_some rfl rfl
    · intro w' hw'; go_simp; exact rfl
    intro K hK; go_simp; refine hK _ ?_; clear hK K
  refine Order.wpH_nil ?_
  refine wpI_put_mid 29 rfl b7 8 _ (q.g.cells (.slice a2 n2 c2) (.slice a3 n3 c3)) _ rfl rfl (hwd.block k7) (by kernel_rfl) (Nat.le_of_ble_eq_true rfl) (by simp [Value.oneCell']) ?_
  intro W7 k7' m7 K1 hK1
  rw [put9_seg] at k7'
  refine hK1 _ _ (fun _ => (Mvs.ofExt hwd).tr m7) ?_
  clear hK1 K1
  apply Order.wpI_step rfl rfl
  intro K1 hK1
  go_simp
  refine hK1 _ _ (fun _ => (Mvs.ofExt hwd).tr m7) ?_
  clear hK1 K1
  refine wpI_put_mid 33 rfl (b7 + 1) 20 _ (q.m.cells (.slice a5 n5 c5)) _ rfl rfl (m7.keep (hwd.block k8) (by omega)) (by kernel_rfl) (Nat.le_of_ble_eq_true rfl) (by simp [Value.oneCell']) ?_
  intro W8 k8' m8 K1 hK1
  rw [put9_msg] at k8'
  refine hK1 _ _ (fun h => absurd rfl h) ?_
  clear hK1 K1
  refine Order.wpI_nil ?_
  have k7' := m8.keep k7' (by omega)
  have hmm : Mvs (fun j => j = b7 ∨ j = b7 + 1) W6 W8 := Mvs.tr (Mvs.mono ((Mvs.ofExt hwd).tr m7) (fun j _ hj => Or.inl hj)) (Mvs.mono m8 (fun j _ hj => Or.inr hj))
  have hx48 : Ext W4 W8 := hmm.ext HX6.out (fun j hj => by omega)
  have k5 := hmm.keep HK5.out (by omega)
  have hx := hmm.ext hx (fun j hj => by omega)
  have RP := Lib.hid ((R.out.ext hx48).pk (by omega) hx)
  have HK7 := Lib.hid k7'
  have HK8 := Lib.hid k8'
  have HK5' := Lib.hid k5
  clear hmm hx48 k7 k8 k7' k8' k5 m7 m8 hwd HK5 HRG HRM HX6 R hl8 hB7
  simp only [Act.put]
  go_upto_region 4 with (fail)
  refine wp_region_grow [(0, Loose.is (.bool true)), (6, Loose.is (.agg (Pk.cells ⟨(ownP s d 6).h, q.g, Dg.none, Ms.none⟩ nos9 (.slice a2 n2 c2) (.slice a3 n3 c3) nos9 nos9))), (8, Loose.is (.bool true)), (15, Loose.is (.agg (Pk.cells ⟨(ownP s d 1).h, Sg.none, Dg.none, q.m⟩ nos9 nos9 nos9 nos9 (.slice a5 n5 c5)))), (17, Loose.is (.bool true))] (lasts_is (lasts_is (lasts_is (lasts_is (lasts_is lasts_nil))))) (by kernel_rfl) (by kernel_rfl) ?_
  apply wpL_some rfl rfl
  · intro w' hw' hn'
    go_simp
    refine ⟨Ext.rfl' _, ?_⟩
    refine ((awake9_any w')).mono ?_
    rintro e w2 ⟨rfl, hx⟩
    exact ⟨_, rfl, hx, rfl⟩
  intro v w' hw' hD' hv
  obtain rfl : v = _ := hv
  clear hw' hD' w'
  intro K hK; go_simp; refine hK _ _ ?_; clear hK K
  iterate 4
    apply wpL_none rfl rfl
    · intro w' hw' hn'; go_simp; exact rfl
    intro K hK; go_simp; refine hK _ _ ?_; clear hK K
  apply wpL_none rfl rfl
  · intro w' hw' hn'
    exact still_load 29 _ rfl w.heap.size _ rfl (q.g.cells (.slice a2 n2 c2) (.slice a3 n3 c3)) _ (pk_rng (Ext.block hw' HK5'.out)).2.1 Try.underlying29 rfl (by kernel_rfl)
  intro K hK; go_simp; refine hK _ _ ?_; clear hK K
  apply wpL_some rfl rfl
  · intro w' hw' hn'
    go_simp
    refine ⟨Ext.rfl' _, ?_⟩
    refine ((tcp9_any s d q.g a2 n2 c2 a3 n3 c3 w')).mono ?_
    rintro e w2 ⟨rfl, hx⟩
    exact ⟨_, rfl, hx, rfl⟩
  intro v w' hw' hD' hv
  obtain rfl : v = _ := hv
  clear hw' hD' w'
  intro K hK; go_simp; refine hK _ _ ?_; clear hK K
  apply wpL_none rfl rfl
  · intro w' hw' hn'
    exact still_load 35 _ rfl b7 _ rfl (Pk.cells ⟨(ownP s d 6).h, q.g, Dg.none, Ms.none⟩ nos9 (.slice a2 n2 c2) (.slice a3 n3 c3) nos9 nos9) _ (fun j v hv => by rw [Nat.zero_add, cell_blk (Ext.block hw' HK7.out)]; simpa using hv) Try.underlying35 rfl (by kernel_rfl)
  intro K hK; go_simp; refine hK _ _ ?_; clear hK K
  apply wpL_some rfl rfl
  · intro w' hw' hn'
    go_simp
    refine ⟨Ext.rfl' _, ?_⟩
    refine ((same_tcp s d hs hd q.g OK.out.g _ _ w' (RP.out.ext hw').o (RP.out.ext hw').g)).mono ?_
    rintro e w2 ⟨rfl, hx⟩
    exact ⟨_, rfl, hx, rfl⟩
  intro v w' hw' hD' hv
  obtain rfl : v = _ := hv
  clear hw' hD' w'
  intro K hK; go_simp; refine hK _ _ ?_; clear hK K
  iterate 5
    apply wpL_none rfl rfl
    · intro w' hw' hn'; go_simp; exact rfl
    intro K hK; go_simp; refine hK _ _ ?_; clear hK K
  apply wpL_none rfl rfl
  · intro w' hw' hn'
    exact still_load 33 _ rfl w.heap.size _ rfl (q.m.cells (.slice a5 n5 c5)) _ (pk_rng (Ext.block hw' HK5'.out)).2.2.2 Try.underlying33 rfl (by kernel_rfl)
  intro K hK; go_simp; refine hK _ _ ?_; clear hK K
  apply wpL_some rfl rfl
  · intro w' hw' hn'
    go_simp
    refine ⟨Ext.rfl' _, ?_⟩
    refine ((icmp9_any s d q.m a5 n5 c5 w')).mono ?_
    rintro e w2 ⟨rfl, hx⟩
    exact ⟨_, rfl, hx, rfl⟩
  intro v w' hw' hD' hv
  obtain rfl : v = _ := hv
  clear hw' hD' w'
  intro K hK; go_simp; refine hK _ _ ?_; clear hK K
  apply wpL_none rfl rfl
  · intro w' hw' hn'
    exact still_load 35 _ rfl (b7 + 1) _ rfl (Pk.cells ⟨(ownP s d 1).h, Sg.none, Dg.none, q.m⟩ nos9 nos9 nos9 nos9 (.slice a5 n5 c5)) _ (fun j v hv => by rw [Nat.zero_add, cell_blk (Ext.block hw' HK8.out)]; simpa using hv) Try.underlying35 rfl (by kernel_rfl)
  intro K hK; go_simp; refine hK _ _ ?_; clear hK K
  apply wpL_some rfl rfl
  · intro w' hw' hn'
    go_simp
    refine ⟨Ext.rfl' _, ?_⟩
    refine ((same_icmp s d hs hd q.m OK.out.m _ w' (RP.out.ext hw').m)).mono ?_
    rintro e w2 ⟨rfl, hx⟩
    exact ⟨_, rfl, hx, rfl⟩
  intro v w' hw' hD' hv
  obtain rfl : v = _ := hv
  clear hw' hD' w'
  intro K hK; go_simp; refine hK _ _ ?_; clear hK K
  iterate 2
    apply wpL_none rfl rfl
    · intro w' hw' hn'; go_simp; exact rfl
    intro K hK; go_simp; refine hK _ _ ?_; clear hK K
  refine wpL_nil ?_
  intro W9 hx9 _
  have hx9 : Ext W8 W9 := hx9
  go_wp2_with fail
  go_ret
  exact ⟨rfl, hx.tr hx9⟩
end Go.Proofs.Ytbaidlkjbdeceaa.packetMakes
