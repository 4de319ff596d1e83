/-
  Proved here: the closed law PacketKnown returns true. No condition.
-/
import Derived.Test.YtbaidlkjbdeceaaPkA
import Derived.Test.YtbaidlkjbdeceaaFrz
namespace Go.Proofs.Ytbaidlkjbdeceaa.packetKnown
set_option maxRecDepth 200000
open Go.ChangeShapes Go.WideShapes Go.ChangeAt Go.RowKit Go.Cul Go.Loose
set_option linter.unusedVariables false
attribute [local go_sem] Loose.Still Loose.Upon Loose.vUpon First.pUpon

theorem still_build9 {P : Program} {o : Oper} {a : Act} {w : World} (ty : TypeId) (parts : Array (Nat × Operand)) (ho : o.op = .build ty parts) (C : Array Value) (vs : Array (Nat × Value)) (hv : (parts.map fun (i, x) => (i, a.eval x)) = vs) (hb : P.built ty vs.toList = some C) :
    Loose.Still (.agg C) w ((execOp a.eval o).run P w) := by
  unfold execOp
  simp only [ho, hv, run_build w ty vs C hb, Sem.run_bind, Sem.run_pure, Result.andThen_ok]
  exact ⟨rfl, rfl⟩
theorem upon_build9 {P : Program} {R : World → World → Prop} {s : Value → World → Prop} {o : Oper} {a : Act} {w : World} (ty : TypeId) (parts : Array (Nat × Operand)) (ho : o.op = .build ty parts) (C : Array Value) (vs : Array (Nat × Value)) (hv : (parts.map fun (i, x) => (i, a.eval x)) = vs) (hb : P.built ty vs.toList = some C) (hR : R w w) (hs : s (.agg C) w) :
    Loose.Upon P R s w ((execOp a.eval o).run P w) := by
  unfold execOp
  simp only [ho, hv, run_build w ty vs C hb, Sem.run_bind, Sem.run_pure, Result.andThen_ok]
  exact ⟨hR, hs⟩
/-- Put over a literal packet. -/
theorem pput_lit9 (L : List Int) (n : Nat) (E : Int) (p : Pk) (vh vo vg vd vm : Value) (w : World) (hp : p.ok) (r : PkR w p vh vo vg vd vm) (hl : p.len) (he : (pput p).1.length = n ∧ (pput p).2 = E) :
    Calls Try.prog 7 #[.agg (p.cells vh vo vg vd vm)] w fun e w' => ∃ a c, e = .returned (.tuple #[.slice a n c, .int .i64 E]) ∧ Ext w w' := by
  refine (pput_any p vh vo vg vd vm w hp r hl).mono ?_
  rintro e w' ⟨u, rfl, hu, hx⟩
  have hr := hu.rd
  obtain ⟨a, c, rfl, -⟩ := id hr
  exact ⟨a, c, by rw [he.1, he.2], hx⟩

abbrev h47 : Hd := ⟨0, 0, false, 1, 47, 0, 0, []⟩
abbrev p47 : Pk := ⟨h47, Sg.none, Dg.none, Ms.none⟩
abbrev h17 : Hd := ⟨0, 0, false, 0, 17, 0, 0, []⟩
abbrev p17 : Pk := ⟨h17, Sg.none, Dg.none, Ms.none⟩
abbrev hU : Hd := ⟨0, 0, false, 1, 17, 0, 0, []⟩
abbrev dU : Dg := ⟨5, 0, []⟩
abbrev pU : Pk := ⟨hU, Sg.none, dU, Ms.none⟩
abbrev h40 : Hd := ⟨0, 0, false, 1, 6, 0, 0, zeros 40⟩
abbrev g1430 : Sg := ⟨0, 0, 0, 0, 0, 0, 0, [], zeros 1430⟩
abbrev pL : Pk := ⟨h40, g1430, Dg.none, Ms.none⟩
abbrev mE : Ms := ⟨8, 0, 0, []⟩
abbrev pE : Pk := ⟨(ownP 7 8 1).h, Sg.none, Dg.none, mE⟩
theorem hk (ttl pr : Int) (df : Bool) (s d : Int) (op : List Int) (h1 : 0 ≤ ttl ∧ ttl ≤ 255) (h2 : 0 ≤ pr ∧ pr ≤ 255) (h3 : 0 ≤ s ∧ s ≤ 4294967295) (h4 : 0 ≤ d ∧ d ≤ 4294967295) (h5 : Byt op) : Hd.ok ⟨0, 0, df, ttl, pr, s, d, op⟩ := ⟨⟨Int.le_refl 0, (by decide : (0 : Int) ≤ 255)⟩, ⟨Int.le_refl 0, (by decide : (0 : Int) ≤ 65535)⟩, h1, h2, h3, h4, h5⟩
theorem byt_zeros (n : Nat) : Byt (zeros n) := fun x hx => by
  have : x = 0 := by simpa [zeros] using (List.mem_replicate.1 hx).2
  subst this; decide
theorem len_zeros (n : Nat) : (zeros n).length = n := by simp [zeros]
theorem ok47 : p47.ok := ⟨hk _ _ _ _ _ _ (by decide) (by decide) (by decide) (by decide) byt0, byt0, sg0, dg0, ms0⟩
theorem ok17 : p17.ok := ⟨hk _ _ _ _ _ _ (by decide) (by decide) (by decide) (by decide) byt0, byt0, sg0, dg0, ms0⟩
theorem okU : pU.ok := ⟨hk _ _ _ _ _ _ (by decide) (by decide) (by decide) (by decide) byt0, byt0, sg0, ⟨by decide, by decide, byt0⟩, ms0⟩
theorem okL : pL.ok := ⟨hk _ _ _ _ _ _ (by decide) (by decide) (by decide) (by decide) (byt_zeros _), byt_zeros _, ⟨by decide, by decide, by decide, by decide, by decide, by decide, by decide, (fun o h => by cases h), byt_zeros _⟩, dg0, ms0⟩
theorem okE : pE.ok := ⟨hk _ _ _ _ _ _ (by decide) (by decide) (by decide) (by decide) byt0, byt0, sg0, dg0, ⟨by decide, by decide, by decide, byt0⟩⟩
theorem ok0 : pno.ok := ⟨hd0, byt0, sg0, dg0, ms0⟩
theorem rn (w : World) (p : Pk) (h1 : p.h.op = []) (h2 : p.g.os = []) (h3 : p.g.data = []) (h4 : p.d.data = []) (h5 : p.m.data = []) : PkR w p nos9 nos9 nos9 nos9 nos9 := ⟨by rw [h1]; exact Rd.nil _ _, by rw [h2]; exact RdO.nil _, by rw [h3]; exact Rd.nil _ _, by rw [h4]; exact Rd.nil _ _, by rw [h5]; exact Rd.nil _ _⟩
theorem ln (p : Pk) (h1 : p.h.op = []) (h3 : p.g.data = []) (h4 : p.d.data = []) (h5 : p.m.data = []) : p.len := ⟨by rw [h1]; decide, by rw [h3]; decide, by rw [h4]; decide, by rw [h5]; decide⟩
theorem lenL : pL.len := ⟨by show (zeros 40).length ≤ _; rw [len_zeros]; decide, by show (zeros 1430).length ≤ _; rw [len_zeros]; decide, by decide, by decide⟩
/-- The bytes of a head of protocol 47. -/
abbrev b47 : List Int := (hput h47 [120, 121]).1
theorem e47 : hput h47 [120, 121] = (b47, 0) := by decide +kernel
theorem l47 : b47.length = 22 := by decide +kernel
theorem i47 : ierr b47 = 0 := by decide +kernel
theorem q47 : (ihead b47).proto = 47 := by decide +kernel
theorem x47 : (ppar b47).2 = 22 := by decide +kernel
theorem x0 : (ppar []).2 = 4 := by decide +kernel
theorem pp47 : (pput p47).1.length = 0 ∧ (pput p47).2 = 1 := by decide +kernel
theorem pp17 : (pput p17).1.length = 0 ∧ (pput p17).2 = 1 := by decide +kernel
theorem ppU : (pput pU).1.length = 28 ∧ (pput pU).2 = 0 := by decide +kernel
theorem ppL : (pput pL).1.length = 0 ∧ (pput pL).2 = 3 := by decide +kernel
theorem mayE : pE.may = true := by decide +kernel
theorem may0 : pno.may = false := by decide +kernel
theorem byt47 : Byt b47 := byt_of (by decide +kernel)

def V40 (v : Value) (w : World) : Prop := ∃ g n c, v = .agg (h40.cells (.slice g n c)) ∧ Rd .u8 w (.slice g n c) (zeros 40)
theorem V40.lasts : ∀ v w w', Ext w w' → V40 v w → V40 v w' := fun v w w' hx ⟨g, n, c, h1, h2⟩ => ⟨g, n, c, h1, h2.ext hx⟩
def V14 (v : Value) (w : World) : Prop := ∃ g n c, v = .agg (g1430.cells nos9 (.slice g n c)) ∧ Rd .u8 w (.slice g n c) (zeros 1430)
theorem V14.lasts : ∀ v w w', Ext w w' → V14 v w → V14 v w' := fun v w w' hx ⟨g, n, c, h1, h2⟩ => ⟨g, n, c, h1, h2.ext hx⟩
def VL (v : Value) (w : World) : Prop := ∃ g n c g' n' c', v = .agg (pL.cells (.slice g n c) nos9 (.slice g' n' c') nos9 nos9) ∧ Rd .u8 w (.slice g n c) (zeros 40) ∧ Rd .u8 w (.slice g' n' c') (zeros 1430)
theorem VL.lasts : ∀ v w w', Ext w w' → VL v w → VL v w' := fun v w w' hx ⟨g, n, c, g', n', c', h1, h2, h3⟩ => ⟨g, n, c, g', n', c', h1, h2.ext hx, h3.ext hx⟩
theorem agg_at {C D : Array Value} (h : Value.agg C = Value.agg D) (i : Nat) : C[i]? = D[i]? := by cases h; rfl
theorem V40.rd {w : World} {g : Option Addr} {n c : Nat} (h : V40 (.agg (h40.cells (.slice g n c))) w) : Rd .u8 w (.slice g n c) (zeros 40) := by
  obtain ⟨g', n', c', he, hr⟩ := h
  have := agg_at he 7
  have e : (Value.slice g n c) = .slice g' n' c' := by simpa using this
  rw [e]
  exact hr
theorem V14.rd {w : World} {g : Option Addr} {n c : Nat} (h : V14 (.agg (g1430.cells nos9 (.slice g n c))) w) : Rd .u8 w (.slice g n c) (zeros 1430) := by
  obtain ⟨g', n', c', he, hr⟩ := h
  have := agg_at he 8
  have e : (Value.slice g n c) = .slice g' n' c' := by simpa using this
  rw [e]
  exact hr
theorem VL.r {w : World} {vh vg : Value} (h : VL (.agg (pL.cells vh nos9 vg nos9 nos9)) w) : PkR w pL vh nos9 vg nos9 nos9 := by
  obtain ⟨g, n, c, g', n', c', he, h1, h2⟩ := h
  have e1 := agg_at he 7
  have e2 := agg_at he 16
  obtain rfl : vh = .slice g n c := by simpa using e1
  obtain rfl : vg = .slice g' n' c' := by simpa using e2
  exact ⟨h1, RdO.nil _, h2, Rd.nil _ _, Rd.nil _ _⟩
def Tp9 (m : Nat) (n : Int) (v : Value) (w : World) : Prop := ∃ a c, v = .tuple #[.slice a m c, .int .i64 n]

set_option maxHeartbeats 8000000
set_option maxRecDepth 100000
theorem walk (w : World) : Calls Try.prog 5 #[] w fun e w' => e = .returned (.bool true) ∧ Ext w w' := by
  go_enter Try.func5, Try.ntmps5
  have hcv := run_convert_lit (P := Try.prog) (w.alloc (.cells #[.int .u8 120, .int .u8 121] 5)) 24 5 w.heap.size #[.int .u8 120, .int .u8 121] (0, 0) 2 2 (heap_alloc_new w _) Try.underlying24 Try.underlying5
  go_wp2_with (refine wpList_build_big 26 (h47.cells nos9) _ rfl (by kernel_rfl) ?_)
  have hmk := freeze_mkd (e := 5) (N := w.heap.size) (heap_alloc_new w (.cells #[.int .u8 120, .int .u8 121] 5)) (Nat.le_refl _) 2
  have hr : Rd .u8 (w.alloc (.cells #[.int .u8 120, .int .u8 121] 5)) (.slice (some ⟨w.heap.size, 0, none⟩) 2 2) [120, 121] := rd_new .u8 w _ _ [120, 121] rfl rfl rfl rfl (by decide)
  have hr := hr.mkd hmk
  have hx1 : Ext w (World.freeze (w.alloc (.cells #[.int .u8 120, .int .u8 121] 5)) ⟨w.heap.size, 2, none⟩ 1) := Below.trans (Ext.new w _) hmk.below
  clear hcv hmk
  generalize World.freeze _ _ _ = W at *
  refine (hput_any h47 nos9 _ [120, 121] W ok47.h (Rd.nil _ _) hr (by decide) (by decide)).mono ?_
  rintro e W1 ⟨u, rfl, hu, hx2⟩
  rw [e47] at hu ⊢
  have hx := hx1.tr hx2
  have hru := hu.rd
  obtain ⟨a1, c1, rfl, -⟩ := id hru
  rw [l47] at hru
  rw [l47]
  clear hx1 hx2 hu hr W
  go_wp2_with fail
  refine (pparse_any _ b47 W1 hru byt47 (by rw [l47]; decide) (fun _ h => absurd h (by rw [q47]; decide))).mono ?_
  rintro e W2 ⟨q1, m1, d1, q2, m2, d2, q3, m3, d3, rfl, -, -, -, hx2⟩
  have hx := hx.tr hx2
  rw [x47]
  generalize (ppar b47).1 = R1 at *
  clear hx2 hru
  go_upto_region 3 with (refine wpList_put_row 35 W2.heap.size _ (R1.cells (.slice q1 m1 d1) (.slice q2 m2 d2) (.slice q3 m3 d3) nos9 nos9) _ rfl rfl (heap_alloc_new _ _) (by kernel_rfl) rfl (pk_one9 _ _ _ _ _ _ _ _ _ _ _ _ _ _ _ _) ?_; intro W3 k3 n3)
  have hx3 := n3.ext (Ext.new W2 _) (fun j hj => by omega)
  have hx := hx.tr hx3
  generalize W2.heap.size = b3 at *
  clear hx3 n3 k3
  try simp only [Act.put]
  go_wp2_with (first | (refine wpList_build_big 26 (h47.cells nos9) _ rfl (by kernel_rfl) ?_) | (refine wpList_build_big 35 (p47.cells nos9 nos9 nos9 nos9 nos9) _ rfl (by kernel_rfl) ?_))
  refine (pput_lit9 [] 0 1 p47 nos9 nos9 nos9 nos9 nos9 W3 ok47 (rn _ _ rfl rfl rfl rfl rfl) (ln _ rfl rfl rfl rfl) pp47).mono ?_
  rintro e W4 ⟨a4, c4, rfl, hx4⟩
  have hx := hx.tr hx4
  clear hx4
  go_wp2_with (first | (refine wpList_build_big 26 (h17.cells nos9) _ rfl (by kernel_rfl) ?_) | (refine wpList_build_big 35 (p17.cells nos9 nos9 nos9 nos9 nos9) _ rfl (by kernel_rfl) ?_))
  refine (pput_lit9 [] 0 1 p17 nos9 nos9 nos9 nos9 nos9 W4 ok17 (rn _ _ rfl rfl rfl rfl rfl) (ln _ rfl rfl rfl rfl) pp17).mono ?_
  rintro e W5 ⟨a5, c5, rfl, hx5⟩
  have hx := hx.tr hx5
  clear hx5
  go_wp2_with (first | (refine wpList_build_big 26 (hU.cells nos9) _ rfl (by kernel_rfl) ?_) | (refine wpList_build_big 31 (dU.cells nos9) _ rfl (by kernel_rfl) ?_) | (refine wpList_build_big 35 (pU.cells nos9 nos9 nos9 nos9 nos9) _ rfl (by kernel_rfl) ?_))
  refine (pput_lit9 [] 28 0 pU nos9 nos9 nos9 nos9 nos9 W5 okU (rn _ _ rfl rfl rfl rfl rfl) (ln _ rfl rfl rfl rfl) ppU).mono ?_
  rintro e W6 ⟨a6, c6, rfl, hx6⟩
  have hx := hx.tr hx6
  clear hx6
  go_upto_region 6 with (fail)
  refine wp_region_grow [(0, fun v w' => Rd .u8 w' v (zeros 40)), (1, V40), (2, fun v w' => Rd .u8 w' v (zeros 1430)), (3, V14), (4, VL), (5, Tp9 0 3)] (lasts_cons (fun _ _ _ hx h => Rd.ext h hx) (lasts_cons V40.lasts (lasts_cons (fun _ _ _ hx h => Rd.ext h hx) (lasts_cons V14.lasts (lasts_cons VL.lasts (lasts_cons (fun _ _ _ hx h => h) lasts_nil)))))) (by kernel_rfl) (by kernel_rfl) ?_
  apply wpL_some rfl rfl
  · intro w' hw' hn'
    obtain ⟨w1, hr, ho, hx⟩ := run_mk (P := Try.prog) isU8 w' w'.heap.size .i64 .i64 40 (by omega) (by unfold maxLen; omega) (Nat.le_refl _)
    have hr : Sem.run Try.prog (Instr.makeSlice 24 (.int .i64 40) (.int .i64 40)) w' = .ok (.slice (some ⟨w'.heap.size, 0, none⟩) 40 40) w1 := hr
    have ho := ho.rd
    go_simp
    first | done | exact ⟨hx, ho⟩ | exact ho
  intro v w' hw' hD' hv
  obtain ⟨g0, n0, c0, rfl⟩ := Rd.shape hv
  clear hv hw' hD' w'
  intro K hK; go_simp; refine hK _ _ ?_; clear hK K
  apply wpL_some rfl rfl
  · intro w' hw' hn'
    have hr : Rd .u8 w' (.slice g0 n0 c0) (zeros 40) := hn' ⟨0, .data⟩ (by simp) rfl
    exact upon_build9 26 _ rfl (h40.cells (.slice g0 n0 c0)) _ rfl (by kernel_rfl) (Ext.rfl' _) ⟨_, _, _, rfl, hr⟩
  intro v w' hw' hD' hv
  obtain ⟨g2, n2, c2, rfl, -⟩ := hv
  clear hw' hD' w'
  intro K hK; go_simp; refine hK _ _ ?_; clear hK K
  apply wpL_some rfl rfl
  · intro w' hw' hn'
    obtain ⟨w1, hr, ho, hx⟩ := run_mk (P := Try.prog) isU8 w' w'.heap.size .i64 .i64 1430 (by omega) (by unfold maxLen; omega) (Nat.le_refl _)
    have hr : Sem.run Try.prog (Instr.makeSlice 24 (.int .i64 1430) (.int .i64 1430)) w' = .ok (.slice (some ⟨w'.heap.size, 0, none⟩) 1430 1430) w1 := hr
    have ho := ho.rd
    go_simp
    first | done | exact ⟨hx, ho⟩ | exact ho
  intro v w' hw' hD' hv
  obtain ⟨g1, n1, c1, rfl⟩ := Rd.shape hv
  clear hv hw' hD' w'
  intro K hK; go_simp; refine hK _ _ ?_; clear hK K
  apply wpL_some rfl rfl
  · intro w' hw' hn'
    have hr : Rd .u8 w' (.slice g1 n1 c1) (zeros 1430) := hn' ⟨2, .data⟩ (by simp) rfl
    exact upon_build9 29 _ rfl (g1430.cells nos9 (.slice g1 n1 c1)) _ rfl (by kernel_rfl) (Ext.rfl' _) ⟨_, _, _, rfl, hr⟩
  intro v w' hw' hD' hv
  obtain ⟨g3, n3, c3, rfl, -⟩ := hv
  clear hw' hD' w'
  intro K hK; go_simp; refine hK _ _ ?_; clear hK K
  apply wpL_some rfl rfl
  · intro w' hw' hn'
    have h1 : V40 (.agg (h40.cells (.slice g2 n2 c2))) w' := hn' ⟨1, .data⟩ (by simp) rfl
    have h2 : V14 (.agg (g1430.cells nos9 (.slice g3 n3 c3))) w' := hn' ⟨3, .data⟩ (by simp) rfl
    exact upon_build9 35 _ rfl (pL.cells (.slice g2 n2 c2) nos9 (.slice g3 n3 c3) nos9 nos9) _ rfl (by kernel_rfl) (Ext.rfl' _) ⟨_, _, _, _, _, _, rfl, h1.rd, h2.rd⟩
  intro v w' hw' hD' hv
  obtain ⟨g4, n4, c4', g5, n5, c5', rfl, -, -⟩ := hv
  clear hw' hD' w'
  intro K hK; go_simp; refine hK _ _ ?_; clear hK K
  apply wpL_some rfl rfl
  · intro w' hw' hn'
    have h1 : VL (.agg (pL.cells (.slice g4 n4 c4') nos9 (.slice g5 n5 c5') nos9 nos9)) w' := hn' ⟨4, .data⟩ (by simp) rfl
    go_simp
    refine ⟨Ext.rfl' _, ?_⟩
    refine (pput_lit9 [] 0 3 pL _ _ _ _ _ w' okL h1.r lenL ppL).mono ?_
    rintro e w2 ⟨a, c, rfl, hx⟩
    exact ⟨_, rfl, hx, a, c, rfl⟩
  intro v w' hw' hD' hv
  obtain ⟨a7, c7, rfl⟩ := hv
  clear hw' hD' w'
  intro K hK; go_simp; refine hK _ _ ?_; clear hK K
  iterate 5
    apply wpL_none rfl rfl
    · intro w' hw' hn'; go_simp; exact rfl
    intro K hK; go_simp; refine hK _ _ ?_; clear hK K
  refine wpL_nil ?_
  intro W7 hx7 _
  have hx7 : Ext W6 W7 := hx7
  have hx := hx.tr hx7
  clear hx7
  go_wp2_with fail
  refine (pparse_any nos9 [] W7 (Rd.nil _ _) byt0 (by decide) (fun h _ => absurd h (by decide))).mono ?_
  rintro e W8 ⟨r1, m1', d1', r2, m2', d2', r3, m3', d3', rfl, -, -, -, hx8⟩
  have hx := hx.tr hx8
  rw [x0]
  generalize (ppar []).1 = R2 at *
  clear hx8
  go_upto_region 8 with (refine wpList_put_row 35 W8.heap.size _ (R2.cells (.slice r1 m1' d1') (.slice r2 m2' d2') (.slice r3 m3' d3') nos9 nos9) _ rfl rfl (heap_alloc_new _ _) (by kernel_rfl) rfl (pk_one9 _ _ _ _ _ _ _ _ _ _ _ _ _ _ _ _) ?_; intro W9 k9 n9)
  have hx9 := n9.ext (Ext.new W8 _) (fun j hj => by omega)
  have hx := hx.tr hx9
  generalize W8.heap.size = b8 at *
  clear hx9 n9 k9
  try simp only [Act.put]
  go_wp2_with (refine wpList_build_big 33 (mE.cells nos9) _ rfl (by kernel_rfl) ?_)
  refine (icmp9_any 7 8 mE none 0 0 W9).mono ?_
  rintro e Wa ⟨rfl, hxa⟩
  have hx := hx.tr hxa
  clear hxa
  go_upto_region 9 with (refine wpList_put_row 35 Wa.heap.size _ (pE.cells nos9 nos9 nos9 nos9 nos9) _ rfl rfl (heap_alloc_new _ _) (by kernel_rfl) rfl (pk_one9 _ _ _ _ _ _ _ _ _ _ _ _ _ _ _ _) ?_; intro Wb kb nb)
  have hxb := nb.ext (Ext.new Wa _) (fun j hj => by omega)
  have hx := hx.tr hxb
  generalize Wa.heap.size = bb at *
  clear hxb nb
  try simp only [Act.put]
  go_wp2_with fail
  refine (awake9_any Wb).mono ?_
  rintro e Wc ⟨rfl, hxc⟩
  have hx := hx.tr hxc
  have kb := hxc.block kb
  clear hxc
  have e2 := cell_blk kb 2
  have e3 := cell_blk kb 3
  have e4 := cell_blk kb 4
  have e5 := cell_blk kb 5
  have e6 := cell_blk kb 6
  have e20 := cell_blk kb 20
  simp at e2 e3 e4 e5 e6 e20
  go_wp2_with (refine wpList_load_bigG 35 bb _ _ _ rfl kb rfl Try.underlying35 rfl (by kernel_rfl) ?_; simp only [Act.put, List.setIfInBounds_toArray, List.set_cons_succ, List.set_cons_zero])
  refine (pmay_any pE nos9 nos9 nos9 nos9 nos9 Wc okE (rn _ _ rfl rfl rfl rfl rfl) (by decide)).mono ?_
  rintro e Wd ⟨rfl, hxd⟩
  have hx := hx.tr hxd
  rw [mayE]
  clear hxd e2 e3 e4 e5 e6 e20 kb
  go_wp2_with (refine wpList_build_bigG 35 (pno.cells nos9 nos9 nos9 nos9 nos9) #[] rfl rfl (by kernel_rfl) ?_; simp only [Act.put, List.setIfInBounds_toArray, List.set_cons_succ, List.set_cons_zero])
  refine (pmay_any pno nos9 nos9 nos9 nos9 nos9 Wd ok0 (rn _ _ rfl rfl rfl rfl rfl) (by decide)).mono ?_
  rintro e We ⟨rfl, hxe⟩
  have hx := hx.tr hxe
  rw [may0]
  go_wp2_with fail
  go_ret
  exact ⟨rfl, hx⟩
end Go.Proofs.Ytbaidlkjbdeceaa.packetKnown
