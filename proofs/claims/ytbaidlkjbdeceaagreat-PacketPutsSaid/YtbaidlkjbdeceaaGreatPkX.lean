/-
  Proved here: what packet.Parse computes where the bytes' head is wrong, its protocol has no part, or is that of segments.
-/
import Derived.Test.YtbaidlkjbdeceaaGreatPkO
import Derived.Test.YtbaidlkjbdeceaaGreatTcpQ
import Derived.Test.YtbaidlkjbdeceaaGreatIpQ
namespace Go.Proofs.YtbaidlkjbdeceaaGreat
set_option maxRecDepth 200000
open Go.ChangeShapes Go.WideShapes Go.ChangeAt Go.RowKit Go.Cul Go.Loose
set_option linter.unusedVariables false
attribute [local go_sem] Loose.Still Loose.Upon Loose.vUpon First.pUpon

theorem wpVL_put_mid {P : Program} (ty : TypeId) {dst : Option Tmp} {x y : Operand} {tt : TypeId} {pos : String} {after : Array Edge} {ops : Array Oper} {rest : List Oper} {a : Act} {w : World} {Q : Exit → Act → World → Prop}
    (b o : Nat) (c C : Array Value) (t : TypeId) (hx : a.eval x = .pointer (some ⟨b, o, none⟩)) (hy : a.eval y = .agg C) (hk : w.heap[b]? = some (.cells c t)) (hi : (P.info? ty).map (·.size) = some C.size) (hs : o + C.size ≤ c.size) (h1 : C.all (·.oneCell') = true)
    (h : ∀ W : World, W.heap[b]? = some (.cells (putN9 c o C.toList) t) → Mvs (fun j => j = b) w W → wpVL P ops Q rest (a.put dst undef) W) : wpVL P ops Q ({ dst := dst, op := .store ty x y, type := tt, pos := pos, after := after, guard := none } :: rest) a w := by
  refine wpVL_step rfl fun _ hK => ?_
  have ht : w.there b o C.size := fun j hj => ⟨by
    rw [cell_blk hk]
    have : o + j < c.size := by omega
    simp [this], fz_blk hk _⟩
  unfold execOp
  simp only [hx, hy, Instr.storeAt, Instr.sureAddr, Sem.run_bind, Sem.run_pure, Result.andThen_ok, run_storeVar_mid w b o ty C ht hi h1]
  exact hK _ _ (h _ (row9_set _ _ _ _ hk) (mvs_row9 _ _ _))
theorem results_ct {P : Program} {fn : Func} {t1 t2 : Tmp} {ty1 : TypeId} {a1 : Addr} {v1 : Value} {w : World} (h : fn.results = #[.cell t1 ty1, .tmp t2]) (tmps : Array Value)
    (hp1 : tmps.getD t1 undef = .pointer (some a1)) (hl1 : Sem.run P (loadVar ty1 a1) w = .ok v1 w) :
    (results fn tmps).run P w = .ok (.tuple #[v1, tmps.getD t2 undef]) w := by
  have hp1' : tmps[t1]?.getD undef = .pointer (some a1) := by simpa using hp1
  simp [results, h, hp1', hl1, asAddr]

def TVp (base : Nat) (g : Sg) (E : Int) (v : Value) (w : World) : Prop := ∃ vo vd, v = .tuple #[.agg (g.cells vo vd), .int .i64 E] ∧ FrO w base vo g.os ∧ Fr w base 5 .u8 vd g.data
theorem TVp.lasts {base : Nat} {g : Sg} {E : Int} : ∀ v w w', Ext w w' → TVp base g E v w → TVp base g E v w' := fun v w w' hx ⟨vo, vd, h1, h2, h3⟩ => ⟨vo, vd, h1, h2.keep (Keep.ofExt hx), h3.kept hx⟩

set_option maxHeartbeats 4000000
set_option maxRecDepth 100000
theorem parse6_any (h : Hd) (ah : Option Addr) (nh ch b9 : Nat) (bv : Value) (l : List Int) (w : World) (hk : w.heap[b9]? = some (.cells (Pk.cells ⟨h, Sg.none, Dg.none, Ms.none⟩ (.slice ah nh ch) nos9 nos9 nos9 nos9) 35)) (hv : Rd .u8 w bv l) (hb : Byt l) (hs : 0 ≤ h.src ∧ h.src ≤ 4294967295) (hd : 0 ≤ h.dst ∧ h.dst ≤ 4294967295) (hl : l.length ≤ 140737488351232) :
    Calls Tryz.prog 34 #[.pointer (some ⟨b9, 0, none⟩), bv] w fun e w' => ∃ ao no co ag ng cg, e = .returned (.int .i64 (tpar h.src h.dst l).2) ∧ w'.heap[b9]? = some (.cells (Pk.cells ⟨h, (tpar h.src h.dst l).1, Dg.none, Ms.none⟩ (.slice ah nh ch) (.slice ao no co) (.slice ag ng cg) nos9 nos9) 35) ∧ FrO w' w.heap.size (.slice ao no co) (tpar h.src h.dst l).1.os ∧ Fr w' w.heap.size 5 .u8 (.slice ag ng cg) (tpar h.src h.dst l).1.data ∧ Mvs (fun j => j = b9) w w' := by
  have HC := Lib.hid (fun (W : World) (hx : Ext w W) => tparse_any h.src h.dst bv l W (hv.ext hx) hb hs hd hl)
  obtain ⟨av, cv, rfl, -⟩ := id hv
  clear hv hb hs hd hl
  generalize tpar h.src h.dst l = TP at *
  obtain ⟨G, E⟩ := TP
  dsimp only at HC ⊢
  have HK := Lib.hid hk
  have hlt := lt_of_block hk
  have c5 := cell_blk hk 5
  have c6 := cell_blk hk 6
  simp at c5 c6
  clear hk
  go_enter Tryz.func34, Tryz.ntmps34
  go_upto_region 1 with (fail)
  refine wp_region_tail 16 [(12, TVp w.heap.size G E)] (lasts_cons TVp.lasts lasts_nil) (by kernel_rfl) (by kernel_rfl) (by kernel_rfl) ?_
  simp only [List.take, List.drop]
  iterate 5
    apply wpL_none rfl rfl
    · intro w' hw' hn'; go_simp; exact rfl
    intro K hK; go_simp; refine hK _ _ ?_; clear hK K
  iterate 1
    apply wpL_none rfl rfl
    · intro w' hw' hn'; have c5 := Ext.cell hw' c5; go_simp; exact rfl
    intro K hK; go_simp; refine hK _ _ ?_; clear hK K
  iterate 4
    apply wpL_none rfl rfl
    · intro w' hw' hn'; go_simp; exact rfl
    intro K hK; go_simp; refine hK _ _ ?_; clear hK K
  iterate 1
    apply wpL_none rfl rfl
    · intro w' hw' hn'; have c6 := Ext.cell hw' c6; go_simp; exact rfl
    intro K hK; go_simp; refine hK _ _ ?_; clear hK K
  iterate 1
    apply wpL_none rfl rfl
    · intro w' hw' hn'; go_simp; exact rfl
    intro K hK; go_simp; refine hK _ _ ?_; clear hK K
  apply wpL_some rfl rfl
  · intro w' hw' hn'
    go_simp
    refine ⟨Ext.rfl' _, ?_⟩
    refine (HC.out _ hw').mono ?_
    rintro e w2 ⟨vo, vd, rfl, h1, h2, hx⟩
    have hs0 : w.heap.size ≤ w'.heap.size := (show Ext w w' from hw').size
    exact ⟨_, rfl, hx, vo, vd, rfl, h1.low hs0, h2.low hs0⟩
  intro v w' hw' hD' hv
  obtain ⟨vo, vd, rfl, h1, h2⟩ := hv
  obtain ⟨ao, co, rfl⟩ := h1.rdo.shape
  obtain ⟨ag, ng, cg, rfl⟩ := h2.rd.shape
  clear hw' hD' h1 h2 w'
  intro K hK; go_simp; refine hK _ _ ?_; clear hK K
  iterate 3
    apply wpL_none rfl rfl
    · intro w' hw' hn'; go_simp; exact rfl
    intro K hK; go_simp; refine hK _ _ ?_; clear hK K
  refine wpL_nil ?_
  intro w' hw' hD'
  have hw' : Ext w w' := hw'
  have hnv := hD' 12
  simp [Loose.upd] at hnv
  obtain ⟨vo, vd, he, h1, h2⟩ := hnv
  have he1 : vo = .slice ao G.os.length co := by have := congrArg (fun v => match v with | Value.tuple c => (match c[0]? with | some (Value.agg d) => d[7]? | _ => none) | _ => none) he; simpa using this.symm
  have he2 : vd = .slice ag ng cg := by have := congrArg (fun v => match v with | Value.tuple c => (match c[0]? with | some (Value.agg d) => d[8]? | _ => none) | _ => none) he; simpa using this.symm
  subst he1 he2
  clear he hD' HC
  iterate 2
    apply wpVL_step rfl
    intro K hK
    go_simp
    refine hK _ _ ?_
    clear hK K
  refine wpVL_put_mid 29 b9 8 _ (G.cells (.slice ao G.os.length co) (.slice ag ng cg)) _ rfl rfl (hw'.block HK.out) (by kernel_rfl) (Nat.le_of_ble_eq_true rfl) (by simp [Value.oneCell']) ?_
  intro V hV mV
  rw [put9_seg] at hV
  apply wpVL_step rfl
  intro K hK
  go_simp
  refine hK _ _ ?_
  clear hK K
  refine wpVL_nil ?_
  have hkeep : Keep w.heap.size w' V := Keep.ofMvs mV (fun k hk => by omega)
  have r1 := h1.keep hkeep
  have r2 := Fr.keep h2 hkeep
  have hm : Mvs (fun j => j = b9) w V := Mvs.tr (Mvs.ofExt hw') mV
  clear h1 h2 hkeep mV hw' c5 c6
  go_wp2_with fail
  refine bodyPost_ret (v := .int .i64 E) (by simp [results, Tryz.results34, go_sem]) rfl ?_
  exact ⟨rfl, _, _, _, _, _, _, hV, r1, r2, hm⟩
/-- The packet of bytes (where they hold a segment, or none); the error. -/
def ppar (l : List Int) : Pk × Int := if ierr l ≠ 0 then (pno, ierr l) else if hasP (ihead l).proto = false then (pno, 22) else
  if (tpar (ihead l).src (ihead l).dst (l.drop (ioff l))).2 ≠ 0 then (pno, (tpar (ihead l).src (ihead l).dst (l.drop (ioff l))).2) else (⟨ihead l, (tpar (ihead l).src (ihead l).dst (l.drop (ioff l))).1, Dg.none, Ms.none⟩, 0)
/-- A packet, the error. -/
def Ppr (w0 : World) (R : Pk × Int) (e : Ending) (w' : World) : Prop := ∃ a1 n1 c1 a2 n2 c2 a3 n3 c3, e = .returned (.tuple #[.agg (R.1.cells (.slice a1 n1 c1) (.slice a2 n2 c2) (.slice a3 n3 c3) nos9 nos9), .int .i64 R.2]) ∧ Rd .u8 w' (.slice a1 n1 c1) R.1.h.op ∧ RdO w' (.slice a2 n2 c2) R.1.g.os ∧ Rd .u8 w' (.slice a3 n3 c3) R.1.g.data ∧ Ext w0 w'
theorem pparse_any (bv : Value) (l : List Int) (w : World) (hv : Rd .u8 w bv l) (hb : Byt l) (hl : l.length ≤ 140737488351232) (h6 : ierr l = 0 → hasP (ihead l).proto = true → (ihead l).proto = 6) :
    Calls Tryz.prog 21 #[bv] w (Ppr w (ppar l)) := by
  have HC := Lib.hid (fun (W : World) (hx : Ext w W) => iparse_any bv l W (hv.ext hx) hb hl)
  have hU : Hid (ppar l = if ierr l ≠ 0 then (pno, ierr l) else if hasP (ihead l).proto = false then (pno, 22) else
    if (tpar (ihead l).src (ihead l).dst (l.drop (ioff l))).2 ≠ 0 then (pno, (tpar (ihead l).src (ihead l).dst (l.drop (ioff l))).2) else (⟨ihead l, (tpar (ihead l).src (ihead l).dst (l.drop (ioff l))).1, Dg.none, Ms.none⟩, 0)) := rfl
  have hI : Hid (ipar l = if ierr l = 0 then (ihead l, l.drop (ioff l), 0) else (Hd.zero, [], ierr l)) := rfl
  have HB := Lib.hid hb
  have HL := Lib.hid (show (l.drop (ioff l)).length ≤ 140737488351232 by rw [List.length_drop]; omega)
  have HS := Lib.hid (show (0 ≤ (ihead l).src ∧ (ihead l).src ≤ 4294967295) ∧ (0 ≤ (ihead l).dst ∧ (ihead l).dst ≤ 4294967295) from ⟨be32_bd hb 12, be32_bd hb 16⟩)
  have HP6 := Lib.hid h6
  obtain ⟨av, cv, rfl, -⟩ := id hv
  clear hv hb hl h6
  go_enter Tryz.func21, Tryz.ntmps21
  go_upto_region 1 with (fail)
  generalize hW : World.alloc w _ = W
  have hx0 : Ext w W := by rw [← hW]; exact Ext.new _ _
  have k2 : W.heap[w.heap.size]? = some (.cells (pno.cells nos9 nos9 nos9 nos9 nos9) 35) := by rw [← hW]; exact heap_alloc_new w _
  clear hW
  have hws0 := lt_of_block k2
  go_wp2_with fail
  refine (HC.out W hx0).mono ?_
  clear HC
  rintro e W1 ⟨vo, vp, rfl, f1, f2, hx1⟩
  have k2 := hx1.block k2
  have hxw := hx0.tr hx1
  have RO := Lib.hid f1
  have hWs : w.heap.size < W.heap.size := hws0
  have RP := Lib.hid f2.rd
  obtain ⟨ao, no, co, rfl⟩ := f1.rd.shape
  obtain ⟨ap, np, cp, rfl⟩ := f2.rd.shape
  clear hx0 hx1 f1 f2
  generalize ppar l = PP at *
  by_cases he : ierr l = 0
  · rw [hI.out, if_pos he] at RO RP ⊢
    dsimp only at RO RP ⊢
    have hU2 : Hid (PP = if hasP (ihead l).proto = false then (pno, 22) else
      if (tpar (ihead l).src (ihead l).dst (l.drop (ioff l))).2 ≠ 0 then (pno, (tpar (ihead l).src (ihead l).dst (l.drop (ioff l))).2) else (⟨ihead l, (tpar (ihead l).src (ihead l).dst (l.drop (ioff l))).1, Dg.none, Ms.none⟩, 0)) := by rw [hU.out, if_neg (by simpa using he)]; rfl
    have HP6 := Lib.hid (HP6.out he)
    clear hU hI he
    have HBD := Lib.hid (HB.out.drop (ioff l))
    clear HB
    generalize l.drop (ioff l) = D at *
    generalize ihead l = H at *
    obtain ⟨pr, hpr⟩ : ∃ x, H.proto = x := ⟨_, rfl⟩
    obtain ⟨pa, pb, hpab, ho1, ho2⟩ := part_shape pr
    have HPR := Lib.hid hpr
    clear hpr
    have hsw := hxw.size
    go_upto_region 2 with (refine wpList_put_row 26 W1.heap.size _ (H.cells (.slice ao no co)) _ rfl rfl (heap_alloc_new _ _) (by kernel_rfl) rfl (by simp [Value.oneCell']) ?_; intro W2 k4 m2)
    have hx2 := m2.ext (Ext.new W1 _) (fun j hj => by omega)
    have hlt2 := lt_of_block k2
    have k2 := hx2.block k2
    have hxw := hxw.tr hx2
    have RO := Lib.hid (RO.out.kept hx2)
    have RP := Lib.hid (RP.out.ext hx2)
    generalize W1.heap.size = b4 at *
    clear m2 hx2
    try simp only [Act.put]
    have c4 := cell_blk k4 4
    simp at c4
    rw [HPR.out] at c4
    have HK4 := Lib.hid k4
    have HK2 := Lib.hid k2
    clear k4 k2
    go_upto_region 4 with (fail)
    refine wp_region_tail 8 [(0, MVp), (7, NVp W2)] (lasts_cons MVp.lasts (lasts_cons NVp.lasts lasts_nil)) (by kernel_rfl) (by kernel_rfl) (by kernel_rfl) ?_
    simp only [List.take, List.drop]
    apply wpL_some rfl rfl
    · intro w' hw' hn'
      go_simp
      refine ⟨Ext.rfl' _, ?_⟩
      refine (parts_any w').mono ?_
      rintro e w2 ⟨r, rfl, h1, h2, hx⟩
      exact ⟨_, rfl, hx, r, rfl, h2⟩
    intro v w' hw' hD' hv
    obtain ⟨r, rfl, -⟩ := hv
    clear hw' hD' w'
    intro K hK; go_simp; refine hK _ _ ?_; clear hK K
    iterate 1
      apply wpL_none rfl rfl
      · intro w' hw' hn'; go_simp; exact rfl
      intro K hK; go_simp; refine hK _ _ ?_; clear hK K
    iterate 1
      apply wpL_none rfl rfl
      · intro w' hw' hn'; have c4 := Ext.cell hw' c4; go_simp; exact rfl
      intro K hK; go_simp; refine hK _ _ ?_; clear hK K
    apply wpL_none rfl rfl
    · intro w' hw' hn'
      have hm : MVp (.map (some r)) w' := hn' ⟨0, .data⟩ (by simp) rfl
      obtain ⟨r', he, hm⟩ := hm
      cases he
      have hl := look_parts hm pr true
      rw [if_pos rfl, hpab] at hl
      go_simp
      exact rfl
    intro K hK; go_simp; refine hK _ _ ?_; clear hK K
    iterate 3
      apply wpL_none rfl rfl
      · intro w' hw' hn'; go_simp; exact rfl
      intro K hK; go_simp; refine hK _ _ ?_; clear hK K
    apply wpL_some rfl rfl
    · intro w' hw' hn'
      go_simp
      exact ⟨Ext.new _ _, _, rfl, hw'.size, heap_alloc_new _ _⟩
    intro v w' hw' hD' hv
    obtain ⟨g, rfl, hg, hb⟩ := hv
    clear hD' hw' hb w'
    intro K hK; go_simp; refine hK _ _ ?_; clear hK K
    refine wpL_nil ?_
    intro w' hw' hD'
    have hw' : Ext W2 w' := hw'
    have hnv := hD' 7
    simp [Loose.upd] at hnv
    obtain ⟨g', hg1, hg2, hg3⟩ := hnv
    cases hg1
    refine wpVL_put_row 51 g _ #[pa, pb] _ rfl rfl hg3 (by kernel_rfl) rfl (by simp [ho1, ho2]) ?_
    intro V hV9 mV
    have hxV : Ext W2 V := mV.ext hw' (fun j hj => by omega)
    apply wpVL_step rfl
    intro K hK
    go_simp
    refine hK _ _ ?_
    clear hK K mV
    refine wpVL_nil ?_
    have k2 := hxV.block HK2.out
    have k4 := hxV.block HK4.out
    have hxw := hxw.tr hxV
    have RO := Lib.hid (RO.out.kept hxV)
    have RP := Lib.hid (RP.out.ext hxV)
    have hgV := lt_of_block hV9
    clear hg3 hD' hw' c4 ho1 ho2 HK2 HK4 hxV
    obtain ⟨hs, hhs⟩ : ∃ b, hasP pr = b := ⟨_, rfl⟩
    rw [hhs]
    cases hs
    · have hPP := Lib.hid (show PP = (pno, 22) by rw [hU2.out, HPR.out, hhs]; rfl)
      clear hU2 hhs hpab k4
      go_wp2_with (first | (refine wpList_build_big 35 (pno.cells nos9 nos9 nos9 nos9 nos9) _ rfl (by kernel_rfl) ?_) | (refine wpList_put_row 35 w.heap.size _ (pno.cells nos9 nos9 nos9 nos9 nos9) _ rfl rfl k2 (by kernel_rfl) rfl (pk_one9 _ _ _ _ _ _ _ _ _ _ _ _ _ _ _ _) ?_; intro W9 k9 m9))
      refine bodyPost_ret (results_ct Tryz.results21 _ rfl (load_blk k9 35 _ Tryz.underlying35 rfl (show _ = some 24 by kernel_rfl))) rfl ?_
      obtain rfl := hPP.out
      exact ⟨_, _, _, _, _, _, _, _, _, rfl, Rd.nil _ _, RdO.nil _, Rd.nil _ _, m9.ext hxw (fun j hj => by omega)⟩
    obtain rfl : pr = 6 := by rw [← HPR.out]; exact HP6.out (by rw [HPR.out]; exact hhs)
    have hpab : Value.agg #[.func (.func 32) #[] #[], .func (.func 34) #[] #[]] = Value.agg #[pa, pb] := hpab
    simp at hpab
    obtain ⟨rfl, rfl⟩ := hpab
    have hU3 : Hid (PP = if (tpar H.src H.dst D).2 ≠ 0 then (pno, (tpar H.src H.dst D).2) else (⟨H, (tpar H.src H.dst D).1, Dg.none, Ms.none⟩, 0)) := by rw [hU2.out, HPR.out, hhs]; rfl
    clear hU2 hhs HPR HP6
    have hge : w.heap.size < V.heap.size := lt_of_block k2
    go_upto_region 8 with (first | (refine wpList_load_bigG 26 b4 _ _ _ rfl k4 rfl Tryz.underlying26 rfl (by kernel_rfl) ?_; simp only [Act.put, List.setIfInBounds_toArray, List.set_cons_succ, List.set_cons_zero]) | (refine wpList_build_big 35 (Pk.cells ⟨H, Sg.none, Dg.none, Ms.none⟩ (.slice ao no co) nos9 nos9 nos9 nos9) _ rfl (by kernel_rfl) ?_) | (refine wpList_put_row 35 V.heap.size _ (Pk.cells ⟨H, Sg.none, Dg.none, Ms.none⟩ (.slice ao no co) nos9 nos9 nos9 nos9) _ rfl rfl (heap_alloc_new _ _) (by kernel_rfl) rfl (pk_one9 _ _ _ _ _ _ _ _ _ _ _ _ _ _ _ _) ?_; intro V3 k9 m3))
    have hx3 := m3.ext (Ext.new V _) (fun j hj => by omega)
    have k2 := hx3.block k2
    have hV9 := hx3.block hV9
    have RP := Lib.hid (RP.out.ext hx3)
    have HXV := Lib.hid hx3
    generalize hB9 : V.heap.size = b9 at *
    simp only [Act.put]
    clear m3 hpab hx3 k4
    have hxw3 := Lib.hid (hxw.tr HXV.out)
    have cg := cell_blk hV9 1
    simp at cg
    have HC := Lib.hid (parse6_any H ao no co b9 _ D V3 k9 RP.out HBD.out HS.out.1 HS.out.2 HL.out)
    clear hV9 k9
    generalize tpar H.src H.dst D = TP at *
    obtain ⟨G, E⟩ := TP
    dsimp only at HC hU3
    go_wp2_with fail
    refine HC.out.mono ?_
    clear HC cg
    rintro e V4 ⟨a2, n2, c2, a3, n3, c3, rfl, k9, r2, r3, hm⟩
    have k2 := hm.keep k2 (by omega)
    have hxv4 : Ext V V4 := hm.ext HXV.out (fun j hj => by omega)
    have hx4 := Lib.hid (hxw.tr hxv4)
    have RO := Lib.hid (RO.out.kept hxv4)
    have hs3 : w.heap.size < V3.heap.size := by have := HXV.out.size; omega
    have R2 := Lib.hid r2
    have R3 := Lib.hid r3
    have hxw' := hx4.out
    clear hm hxv4 r2 r3
    by_cases hE : E = 0
    · subst hE
      have hPP := Lib.hid (show PP = (⟨H, G, Dg.none, Ms.none⟩, 0) by rw [hU3.out]; rfl)
      go_wp2_with (first | (refine wpList_load_bigG 35 b9 _ _ _ rfl k9 rfl Tryz.underlying35 rfl (by kernel_rfl) ?_; simp only [Act.put, List.setIfInBounds_toArray, List.set_cons_succ, List.set_cons_zero]) | (refine wpList_put_row 35 w.heap.size _ (Pk.cells ⟨H, G, Dg.none, Ms.none⟩ (.slice ao no co) (.slice a2 n2 c2) (.slice a3 n3 c3) nos9 nos9) _ rfl rfl k2 (by kernel_rfl) rfl (pk_one9 _ _ _ _ _ _ _ _ _ _ _ _ _ _ _ _) ?_; intro W9 k0 m9))
      refine bodyPost_ret (results_ct Tryz.results21 _ rfl (load_blk k0 35 _ Tryz.underlying35 rfl (show _ = some 24 by kernel_rfl))) rfl ?_
      obtain rfl := hPP.out
      exact ⟨_, _, _, _, _, _, _, _, _, rfl, (Fr.keep RO.out (Keep.ofMvs m9 (fun k hk => by omega))).rd, (R2.out.keep (Keep.ofMvs m9 (fun k hk => by omega))).rdo, (Fr.keep R3.out (Keep.ofMvs m9 (fun k hk => by omega))).rd, m9.ext hxw' (fun j hj => by omega)⟩
    · have bE : (E != 0) = true := by simpa using hE
      have hPP := Lib.hid (show PP = (pno, E) by rw [hU3.out, if_pos (by simpa using hE)])
      clear k9
      go_wp2_with (first | (refine wpList_build_big 35 (pno.cells nos9 nos9 nos9 nos9 nos9) _ rfl (by kernel_rfl) ?_) | (refine wpList_put_row 35 w.heap.size _ (pno.cells nos9 nos9 nos9 nos9 nos9) _ rfl rfl k2 (by kernel_rfl) rfl (pk_one9 _ _ _ _ _ _ _ _ _ _ _ _ _ _ _ _) ?_; intro W9 k9 m9))
      refine bodyPost_ret (results_ct Tryz.results21 _ rfl (load_blk k9 35 _ Tryz.underlying35 rfl (show _ = some 24 by kernel_rfl))) rfl ?_
      obtain rfl := hPP.out
      exact ⟨_, _, _, _, _, _, _, _, _, rfl, Rd.nil _ _, RdO.nil _, Rd.nil _ _, m9.ext hxw' (fun j hj => by omega)⟩
  · have bE : (ierr l != 0) = true := by simpa using he
    have hPP := Lib.hid (show PP = (pno, ierr l) by rw [hU.out, if_pos (by simpa using he)])
    rw [hI.out, if_neg he]
    dsimp only
    generalize ierr l = E at *
    have hsw := hxw.size
    go_upto_region 2 with (refine wpList_put_row 26 W1.heap.size _ (Hd.zero.cells (.slice ao no co)) _ rfl rfl (heap_alloc_new _ _) (by kernel_rfl) rfl (by simp [Value.oneCell']) ?_; intro W2 k4 m2)
    have hx2 := m2.ext (Ext.new W1 _) (fun j hj => by omega)
    have hlt2 := lt_of_block k2
    have k2 := hx2.block k2
    have hxw := hxw.tr hx2
    generalize W1.heap.size = b4 at *
    clear m2 hx2 hU hI he k4 RO RP HS HP6 HL
    try simp only [Act.put]
    go_wp2_with (first | (refine wpList_build_big 35 (pno.cells nos9 nos9 nos9 nos9 nos9) _ rfl (by kernel_rfl) ?_) | (refine wpList_put_row 35 w.heap.size _ (pno.cells nos9 nos9 nos9 nos9 nos9) _ rfl rfl k2 (by kernel_rfl) rfl (pk_one9 _ _ _ _ _ _ _ _ _ _ _ _ _ _ _ _) ?_; intro W9 k9 m9))
    refine bodyPost_ret (results_ct Tryz.results21 _ rfl (load_blk k9 35 _ Tryz.underlying35 rfl (show _ = some 24 by kernel_rfl))) rfl ?_
    obtain rfl := hPP.out
    exact ⟨_, _, _, _, _, _, _, _, _, rfl, Rd.nil _ _, RdO.nil _, Rd.nil _ _, m9.ext hxw (fun j hj => by omega)⟩
end Go.Proofs.YtbaidlkjbdeceaaGreat
