/-
  Proved here: the law SpliceMirror returns true.
-/
import Derived.Test.YtgbbpibcmpeneaaLegs
import Derived.Test.YtgbbpibcmpeneaaTcpW
import Derived.Deep.Cut
import Derived.Deep.CutRange
namespace Go.Proofs.Ytgbbpibcmpeneaa.spliceMirror
set_option maxRecDepth 200000
open Go.ChangeShapes Go.WideShapes Go.ChangeAt Go.RowKit Go.Cul Go.Loose
set_option linter.unusedVariables false
attribute [local go_sem] Loose.Still Loose.Upon Loose.vUpon

theorem new2a (w : World) (o1 o2 : Obj) : ((w.alloc o1).alloc o2).heap[w.heap.size]? = some o1 := by simp only [heap_alloc_at, World.size_alloc]; simp
theorem new2b (w : World) (o1 o2 : Obj) : ((w.alloc o1).alloc o2).heap[w.heap.size + 1]? = some o2 := by simp only [heap_alloc_at, World.size_alloc]; simp
abbrev opC (wh : Int) (sv : Bool) (g : Sg) (vo vd : Value) : Array Value := #[.int .i64 wh, .bool sv, .int .u16 g.sp, .int .u16 g.dp, .int .u32 g.seq, .int .u32 g.ack, .int .u8 g.f, .int .u16 g.win, .int .u16 g.urg, vo, vd]
abbrev opsSh : Sh := .rows 11 88 (.agg 11 (.more 1 (.int .i64) (.more 1 .bool (.more 9 segSh .done))))
theorem open_ops {w : World} {v : Value} (h : Reads w opsSh [v]) : ∃ a m cap, v = .slice a m cap ∧ m ≤ cap ∧ cap ≤ maxLen ∧ (m = 0 ∨ ∃ b o, a = some ⟨b, o, none⟩ ∧ ∀ i, i < m → ∃ wh sv g vo vd, w.rangeAt b (o + i * 11) (opC wh sv g vo vd).toList ∧ g.ok ∧ RdO w vo g.os ∧ Rd .u8 w vd g.data ∧ g.data.length ≤ 140737488351232) := by
  obtain ⟨v', a, m, cap, hv, rfl, hmc, hc, hb, hel⟩ := h
  obtain rfl : v = .slice a m cap := by simpa using hv
  refine ⟨a, m, cap, rfl, hmc, hc, ?_⟩
  rcases hel with h0 | ⟨b, o, rfl, hel⟩
  · exact .inl h0
  refine .inr ⟨b, o, rfl, fun i hi => ?_⟩
  obtain ⟨es, hl, hcell, hr⟩ := hel i hi
  obtain ⟨c1, c2, rfl, ⟨wh, rfl, ww⟩, d1, d2, rfl, ⟨sv, rfl⟩, e1, e2, rfl, hs, rfl⟩ := hr
  obtain ⟨g, vo, vd, he, hg, ho, hd, hn, -⟩ := open_segment (cs := e1.toArray) (by simpa using hs)
  obtain rfl : e1 = (g.cells vo vd).toList := by rw [← he]
  refine ⟨wh, sv, g, vo, vd, fun j x hx => ?_, hg, ho, hd, hn⟩
  have hj : j < 11 := (List.getElem?_eq_some_iff.1 hx).1
  rw [hcell j hj, ← hx]
  simp

/-- Four segments without options and data, just built. -/
theorem rds_quad {w : World} {g h g2 h2 : Sg} {B : Nat} (e1 : g.os = [] ∧ g.data = []) (e2 : h.os = [] ∧ h.data = []) (e3 : g2.os = [] ∧ g2.data = []) (e4 : h2.os = [] ∧ h2.data = []) (hB : w.heap.size = B) :
    RdS (w.alloc (.cells #[.int .u16 g.sp, .int .u16 g.dp, .int .u32 g.seq, .int .u32 g.ack, .int .u8 g.f, .int .u16 g.win, .int .u16 g.urg, nos, nos, .int .u16 h.sp, .int .u16 h.dp, .int .u32 h.seq, .int .u32 h.ack, .int .u8 h.f, .int .u16 h.win, .int .u16 h.urg, nos, nos,
      .int .u16 g2.sp, .int .u16 g2.dp, .int .u32 g2.seq, .int .u32 g2.ack, .int .u8 g2.f, .int .u16 g2.win, .int .u16 g2.urg, nos, nos, .int .u16 h2.sp, .int .u16 h2.dp, .int .u32 h2.seq, .int .u32 h2.ack, .int .u8 h2.f, .int .u16 h2.win, .int .u16 h2.urg, nos, nos] 51)) (.slice (some ⟨B, 0, none⟩) 4 4) [g, h, g2, h2] := by
  subst hB
  refine ⟨_, _, rfl, Nat.le_refl _, by decide, .inr ⟨w.heap.size, 0, rfl, fun i hi => ?_⟩⟩
  have hi : i < 4 := hi
  have key : ∀ (j : Nat) (x : Sg), x.os = [] ∧ x.data = [] → RdO (w.alloc (.cells #[] 51)) nos x.os ∧ Rd .u8 (w.alloc (.cells #[] 51)) nos x.data := fun j x e => ⟨by rw [e.1]; exact RdO.nil _, by rw [e.2]; exact Rd.nil _ _⟩
  rcases (by omega : i = 0 ∨ i = 1 ∨ i = 2 ∨ i = 3) with rfl | rfl | rfl | rfl
  · refine ⟨nos, nos, fun j v hv => ?_, by show RdO _ _ g.os; rw [e1.1]; exact RdO.nil _, by show Rd _ _ _ g.data; rw [e1.2]; exact Rd.nil _ _⟩
    rw [cell_new, ← hv]
    have hj : j < 9 := (List.getElem?_eq_some_iff.1 hv).1
    rcases (by omega : j = 0 ∨ j = 1 ∨ j = 2 ∨ j = 3 ∨ j = 4 ∨ j = 5 ∨ j = 6 ∨ j = 7 ∨ j = 8) with rfl | rfl | rfl | rfl | rfl | rfl | rfl | rfl | rfl <;> rfl
  · refine ⟨nos, nos, fun j v hv => ?_, by show RdO _ _ h.os; rw [e2.1]; exact RdO.nil _, by show Rd _ _ _ h.data; rw [e2.2]; exact Rd.nil _ _⟩
    rw [cell_new, ← hv]
    have hj : j < 9 := (List.getElem?_eq_some_iff.1 hv).1
    rcases (by omega : j = 0 ∨ j = 1 ∨ j = 2 ∨ j = 3 ∨ j = 4 ∨ j = 5 ∨ j = 6 ∨ j = 7 ∨ j = 8) with rfl | rfl | rfl | rfl | rfl | rfl | rfl | rfl | rfl <;> rfl
  · refine ⟨nos, nos, fun j v hv => ?_, by show RdO _ _ g2.os; rw [e3.1]; exact RdO.nil _, by show Rd _ _ _ g2.data; rw [e3.2]; exact Rd.nil _ _⟩
    rw [cell_new, ← hv]
    have hj : j < 9 := (List.getElem?_eq_some_iff.1 hv).1
    rcases (by omega : j = 0 ∨ j = 1 ∨ j = 2 ∨ j = 3 ∨ j = 4 ∨ j = 5 ∨ j = 6 ∨ j = 7 ∨ j = 8) with rfl | rfl | rfl | rfl | rfl | rfl | rfl | rfl | rfl <;> rfl
  · refine ⟨nos, nos, fun j v hv => ?_, by show RdO _ _ h2.os; rw [e4.1]; exact RdO.nil _, by show Rd _ _ _ h2.data; rw [e4.2]; exact Rd.nil _ _⟩
    rw [cell_new, ← hv]
    have hj : j < 9 := (List.getElem?_eq_some_iff.1 hv).1
    rcases (by omega : j = 0 ∨ j = 1 ∨ j = 2 ∨ j = 3 ∨ j = 4 ∨ j = 5 ∨ j = 6 ∨ j = 7 ∨ j = 8) with rfl | rfl | rfl | rfl | rfl | rfl | rfl | rfl | rfl <;> rfl

theorem tmay_data {g : Sg} (h : tmay g = true) : g.data.length ≤ 1460 := by
  unfold tmay at h
  simp only [Bool.and_eq_true, decide_eq_true_eq] at h
  omega
/-- What stays as it is while a round goes on. -/
structure Bun (bx bY : Nat) (y : Sp) (U V : List Sg) (va vb vc vd : Value) (w0 w : World) : Prop where
  x : SpAt w bx y
  m : SpAt w bY y.mir
  a : RdS w va U
  b : RdS w vb V
  c : RdS w vc U
  d : RdS w vd V
  mv : Mvs (fun j => j = bx ∨ j = bY) w0 w
theorem Bun.ext {bx bY : Nat} {y : Sp} {U V : List Sg} {va vb vc vd : Value} {w0 w w' : World} (h : Bun bx bY y U V va vb vc vd w0 w) (hx : Ext w w') : Bun bx bY y U V va vb vc vd w0 w' :=
  ⟨hx.block h.x, hx.block h.m, h.a.ext hx, h.b.ext hx, h.c.ext hx, h.d.ext hx, h.mv.tr (Mvs.ofExt hx)⟩

set_option maxHeartbeats 20000000 in
set_option maxRecDepth 200000 in
theorem walk (w : World) (cs0 : Array Value) (g0 : Reads w legSh cs0.toList) (v : Value) (g1 : Reads w opsSh [v]) : Calls Try.prog 6 #[.agg cs0, v] w fun e w' => e = .returned (.bool true) ∧ Ext w w' := by
  obtain ⟨l, rfl, hl⟩ := open_legs g0
  obtain ⟨ax, n, cap, rfl, hnc, hcm, hel⟩ := open_ops g1
  clear g0 g1
  have HEL := Lib.hid hel
  have HN := Lib.hid (And.intro hnc hcm)
  have hj0 := Lib.hid (fun (W : World) => joined_any l.none W (Lg.none_ok hl))
  have hj1 := Lib.hid (fun (W : World) => joined_any l.mir W (Lg.mir_ok hl))
  have hm1 := Lib.hid (Lg.mir_err l)
  have hm2 := Lib.hid (Lg.mir_sp l)
  have hso := Lib.hid (fun h => Lg.sp_ok (Lg.none_ok hl) h)
  have hone1 : l.mir.cells.all (·.oneCell') = true := by simp [Value.oneCell']
  have HONE1 := Lib.hid hone1
  clear hel hnc hcm hone1 hl
  go_enter Try.func6, Try.ntmps6
  go_upto_region 1 with (fail)
  generalize hW : w.alloc _ = W
  have hxW : Ext w W := by rw [← hW]; exact Ext.new _ _
  have kN : W.heap[w.heap.size]? = some (.cells l.cells 30) := by rw [← hW]; exact heap_alloc_new w _
  clear hW
  go_upto_region 2 with (refine wpList_put_cell 3 w.heap.size 30 _ _ (.int .i64 0) rfl rfl kN (by kernel_rfl) (by show 30 < 31; decide) rfl rfl ?_; intro W1 k1 m1)
  have kN : W1.heap[w.heap.size]? = some (.cells l.none.cells 30) := k1
  have hx := m1.ext hxW (fun k hk => by omega)
  clear k1 m1 hxW
  go_wp2_with (refine wpList_load_bigG 30 w.heap.size _ _ _ rfl kN rfl Try.underlying30 rfl (by kernel_rfl) ?_)
  refine (hj0.out W1).mono ?_
  clear hj0
  rintro e v1 ⟨hx1, h | h⟩
  · obtain ⟨herr, rfl⟩ := h
    have hx := hx.tr hx1
    have kN := hx1.block kN
    obtain ⟨r0, r1, r2, r3⟩ := legs_at kN
    clear kN hx1
    go_upto_region 4 with (first | (refine wpList_load_mid rfl 25 _ rfl w.heap.size 0 rfl l.c.cells.toList _ r0 Try.underlying25 rfl (by kernel_rfl) ?_) | (refine wpList_load_mid rfl 25 _ rfl w.heap.size 6 rfl l.s.cells.toList _ r1 Try.underlying25 rfl (by kernel_rfl) ?_) | (refine wpList_load_mid rfl 28 _ rfl w.heap.size 12 rfl l.cs.cells.toList _ r2 Try.underlying28 rfl (by kernel_rfl) ?_) | (refine wpList_load_mid rfl 28 _ rfl w.heap.size 21 rfl l.ss.cells.toList _ r3 Try.underlying28 rfl (by kernel_rfl) ?_) | (refine wpList_build_big 30 l.mir.cells _ rfl (by kernel_rfl) ?_) | (refine wpList_store_big 30 l.mir.cells rfl rfl (by kernel_rfl) rfl HONE1.out ?_))
    generalize hV : v1.alloc _ = V
    have hxV : Ext v1 V := by rw [← hV]; exact Ext.new _ _
    have kM : V.heap[v1.heap.size]? = some (.cells l.mir.cells 30) := by rw [← hV]; exact heap_alloc_new v1 _
    clear hV r0 r1 r2 r3
    go_wp2_with (refine wpList_load_bigG 30 v1.heap.size _ _ _ rfl kM rfl Try.underlying30 rfl (by kernel_rfl) ?_)
    refine (hj1.out V).mono ?_
    clear hj1
    rintro e v4 ⟨hx4, h | h⟩
    · obtain ⟨-, rfl⟩ := h
      have HX := Lib.hid (hx.tr (hxV.tr hx4))
      clear hx hxV hx4 kM
      go_wp2_with fail
      refine (wakes26_any v4).mono ?_
      rintro e v5 ⟨rfl, hx5⟩
      go_wp2_with fail
      go_ret
      exact ⟨rfl, HX.out.tr hx5⟩
    · exact absurd h.1 (by rw [hm1.out, herr]; decide)
  obtain ⟨herr, bx, rfl, hwb, hB⟩ := h
  have hwb := Nat.le_trans hx.size hwb
  have hok := Lib.hid (hso.out herr)
  have hx := hx.tr hx1
  have kN := hx1.block kN
  obtain ⟨r0, r1, r2, r3⟩ := legs_at kN
  clear kN hx1 hso
  go_upto_region 4 with (first | (refine wpList_load_mid rfl 25 _ rfl w.heap.size 0 rfl l.c.cells.toList _ r0 Try.underlying25 rfl (by kernel_rfl) ?_) | (refine wpList_load_mid rfl 25 _ rfl w.heap.size 6 rfl l.s.cells.toList _ r1 Try.underlying25 rfl (by kernel_rfl) ?_) | (refine wpList_load_mid rfl 28 _ rfl w.heap.size 12 rfl l.cs.cells.toList _ r2 Try.underlying28 rfl (by kernel_rfl) ?_) | (refine wpList_load_mid rfl 28 _ rfl w.heap.size 21 rfl l.ss.cells.toList _ r3 Try.underlying28 rfl (by kernel_rfl) ?_) | (refine wpList_build_big 30 l.mir.cells _ rfl (by kernel_rfl) ?_) | (refine wpList_store_big 30 l.mir.cells rfl rfl (by kernel_rfl) rfl HONE1.out ?_))
  generalize hV : v1.alloc _ = V
  have hxV : Ext v1 V := by rw [← hV]; exact Ext.new _ _
  have kM : V.heap[v1.heap.size]? = some (.cells l.mir.cells 30) := by rw [← hV]; exact heap_alloc_new v1 _
  clear hV r0 r1 r2 r3
  go_wp2_with (refine wpList_load_bigG 30 v1.heap.size _ _ _ rfl kM rfl Try.underlying30 rfl (by kernel_rfl) ?_)
  refine (hj1.out V).mono ?_
  clear hj1
  rintro e v4 ⟨hx4, h | h⟩
  · exact absurd h.1 (by rw [hm1.out, herr]; decide)
  obtain ⟨-, bY, rfl, hbY, hC⟩ := h
  rw [hm2.out] at hC
  have hlx := lt_of_block hB
  have hlY : v1.heap.size ≤ bY := Nat.le_trans hxV.size hbY
  have hB := hx4.block (hxV.block hB)
  have hx := hx.tr (hxV.tr hx4)
  clear hxV hx4 kM hbY herr hm1 hm2 HONE1
  generalize l.none.sp = X0 at *
  have hxy : bx ≠ bY := by omega
  have hwy : w.heap.size ≤ bY := by omega
  go_wp2_with fail
  go_loopw [10] (fun iv wr => ∃ (i : Nat) (x : Sp), i ≤ n ∧ i ≤ 40 ∧ iv = .int .i64 i ∧ x.ok ∧ SpAt wr bx x ∧ SpAt wr bY x.mir ∧ Mvs (fun j => j = bx ∨ j = bY) v4 wr) (fun iv _ => 40 - (intOf iv).toNat)
  case atStart => exact ⟨0, X0, by omega, by omega, rfl, hok.out, hB, hC, Mvs.refl _ _⟩
  case round =>
    obtain ⟨i, x, hin, hi40, rfl, hxo, hB, hC, hm⟩ := hrel
    have hxr : Ext w wr := hm.ext hx (fun k hk => by omega)
    by_cases hlt : i < n ∧ i < 40
    · obtain ⟨hln, hl4⟩ := hlt
      rcases HEL.out with h0 | ⟨ba, oa, rfl, hel⟩
      · omega
      obtain ⟨wh, sv, g, vo, vd, hrg, hgo, hvo, hvd, hdl⟩ := hel i hln
      have hrg := range_ext hrg hxr
      obtain ⟨ao, co, rfl⟩ := hvo.shape
      obtain ⟨ad, cd, rfl, -⟩ := id hvd
      have hrd := Lib.hid (fun (W : World) (h : Ext w W) => And.intro (hvo.ext h) (hvd.ext h))
      clear hel
      have hi4 : (i : Int) < 40 := by omega
      have hin' : (i : Int) < (n : Int) := by omega
      have honeC : (opC wh sv g (.slice ao g.os.length co) (.slice ad g.data.length cd)).all (·.oneCell') = true := by simp [Value.oneCell']
      go_upto_region 11 with (first | (refine wpList_load_mid rfl 64 _ rfl ba (oa + i * 11) rfl (opC wh sv g (.slice ao g.os.length co) (.slice ad g.data.length cd)).toList _ hrg Try.underlying64 rfl (by kernel_rfl) ?_) | (refine wpList_store_big 64 (opC wh sv g (.slice ao g.os.length co) (.slice ad g.data.length cd)) rfl rfl (by kernel_rfl) rfl honeC ?_))
      generalize hW2 : wr.alloc _ = W2
      have hxr2 : Ext wr W2 := by rw [← hW2]; exact Ext.new _ _
      have kop : W2.heap[wr.heap.size]? = some (.cells (opC wh sv g (.slice ao g.os.length co) (.slice ad g.data.length cd)) 64) := by rw [← hW2]; exact heap_alloc_new wr _
      have hlbx := lt_of_block hB
      have hlby := lt_of_block hC
      have hlw := hxr.size
      have hB2 := hxr2.block hB
      have hC2 := hxr2.block hC
      have hm2 := hm.tr (Mvs.ofExt hxr2)
      have hvo2 := hvo.ext (hxr.tr hxr2)
      have hvd2 := hvd.ext (hxr.tr hxr2)
      have hseg : W2.rangeAt wr.heap.size 2 (g.cells (.slice ao g.os.length co) (.slice ad g.data.length cd)).toList := fun j v hv => by
        rw [cell_blk kop, ← hv]
        have hj : j < 9 := (List.getElem?_eq_some_iff.1 hv).1
        rcases (by omega : j = 0 ∨ j = 1 ∨ j = 2 ∨ j = 3 ∨ j = 4 ∨ j = 5 ∨ j = 6 ∨ j = 7 ∨ j = 8) with rfl | rfl | rfl | rfl | rfl | rfl | rfl | rfl | rfl <;> rfl
      have e1 := cell_blk kop 1
      simp at e1
      have hbo := hxr2.size
      clear hrg hW2 honeC hvo hvd hB hC hm kop hxr2
      generalize wr.heap.size = bo at *
      have hmay := tmay_any g _ _ W2 hgo hvo2 hvd2 hdl
      have hmf := And.intro (@tmay_few g) (@tmay_data g)
      generalize tmay g = my at *
      go_wp2_with (refine wpList_load_mid rfl 51 _ rfl bo 2 rfl (g.cells (.slice ao g.os.length co) (.slice ad g.data.length cd)).toList _ hseg Try.underlying51 rfl (by kernel_rfl) ?_)
      refine hmay.mono ?_
      clear hmay
      rintro e w3 ⟨rfl, hx3⟩
      have hB3 := hx3.block hB2
      have hC3 := hx3.block hC2
      have hm3 := hm2.tr (Mvs.ofExt hx3)
      have hseg := range_ext hseg hx3
      have e1 := hx3.cell e1
      have hlx3 := Nat.lt_of_lt_of_le hlbx (Nat.le_trans hbo hx3.size)
      have hly3 := Nat.lt_of_lt_of_le hlby (Nat.le_trans hbo hx3.size)
      clear hB2 hC2 hm2 hvo2 hvd2 hx3
      have HXO := Lib.hid hxo
      have HB3 := Lib.hid hB3
      have HC3 := Lib.hid hC3
      have HM3 := Lib.hid hm3
      clear hxo hB3 hC3 hm3
      cases my
      · go_wp2_with fail
        go_roundw
        case rel => exact ⟨i + 1, x, by omega, by omega, by go_num, HXO.out, HB3.out, HC3.out, HM3.out⟩
        case measure => simp [intOf]; omega
      have hfew := hmf.1 rfl
      have hdl14 := hmf.2 rfl
      obtain ⟨F, hF⟩ : ∃ F, frM x sv g = F := ⟨_, rfl⟩
      obtain ⟨y, U, V', E⟩ := F
      have hyo := frM_ok HXO.out sv hgo
      have hUV := frM_okL HXO.out sv hgo
      have hF2 := frM_mir x sv g
      rw [hF] at hyo hUV hF2
      dsimp only at hyo hUV hF2
      have hs1 := Lib.hid (fun (W : World) (h : SpAt W bx x) (ho : RdO W (.slice ao g.os.length co) g.os) (hd : Rd .u8 W (.slice ad g.data.length cd) g.data) => send_any sv hF bx _ _ W HXO.out hgo h ho hd hfew)
      have hs2 := Lib.hid (fun (W : World) (h : SpAt W bY x.mir) (ho : RdO W (.slice ao g.os.length co) g.os) (hd : Rd .u8 W (.slice ad g.data.length cd) g.data) => send_any (!sv) hF2 bY _ _ W (mir_ok HXO.out) hgo h ho hd hfew)
      have HYO := Lib.hid hyo
      have HU := Lib.hid hUV.1
      have HV := Lib.hid hUV.2.1
      have HUl : Hid (U.length ≤ 1000000) := Nat.le_trans hUV.2.2.1 (by omega)
      have HVl : Hid (V'.length ≤ 1000000) := Nat.le_trans hUV.2.2.2 (by decide)
      clear hF hF2 hyo hUV hmf hfew hgo hdl
      have hmf : ∀ (fn : Fn) (first cap : Array Value) (w : World), (Instr.makeFunc fn first cap).run Try.prog w = .ok (.func fn first cap) w := fun _ _ _ _ => rfl
      go_upto_if 87 with (fail)
      go_cut [12, 13] from 88 to 91 (fun p q wc => p = .func (.func (sendF sv)) #[spp bx] #[] ∧ q = .func (.func (sendF (!sv))) #[spp bY] #[] ∧ wc = w3)
      case first =>
        cases sv
        all_goals
          go_wp2_with fail
          go_meet
          case rel => exact ⟨rfl, rfl, rfl⟩
      obtain ⟨rfl, rfl, hwc⟩ := hcut
      obtain rfl : w3 = wc := hwc.symm
      clear hwc hmf e1
      have hcf1 := send_enter sv
      have hcf2 := send_enter (!sv)
      have hmf := (0 : Nat)
      clear hmf
      generalize sendF sv = F1 at *
      generalize sendF (!sv) = F2 at *
      go_wp2_with (refine wpList_load_mid rfl 51 _ rfl bo 2 rfl (g.cells (.slice ao g.os.length co) (.slice ad g.data.length cd)).toList _ hseg Try.underlying51 rfl (by kernel_rfl) ?_)
      refine (hs1.out w3 HB3.out (hrd.out _ (HM3.out.ext hx (fun k hk => by omega))).1 (hrd.out _ (HM3.out.ext hx (fun k hk => by omega))).2).mono ?_
      rintro e w4 ⟨a1, c1, a2, c2, rfl, f1, f2, hB4, m4⟩
      have hC4 := m4.keep HC3.out (fun h => hxy h.symm)
      have hm4 := HM3.out.tr (m4.mono (fun k _ hk => .inl hk))
      have hvo4 := hrd.out w4 (hm4.ext hx (fun k hk => by omega))
      have hseg : w4.rangeAt bo 2 (g.cells (.slice ao g.os.length co) (.slice ad g.data.length cd)).toList := fun j v hv => cellM m4 (hseg j v hv) (by show bo ≠ bx; omega)
      have hly4 := Nat.lt_of_lt_of_le hly3 m4.size
      clear m4 hs1 hcf1 hrd
      go_wp2_with (refine wpList_load_mid rfl 51 _ rfl bo 2 rfl (g.cells (.slice ao g.os.length co) (.slice ad g.data.length cd)).toList _ hseg Try.underlying51 rfl (by kernel_rfl) ?_)
      refine (hs2.out w4 hC4 hvo4.1 hvo4.2).mono ?_
      rintro e w5 ⟨a3, c3, a4, c4, rfl, f3, f4, hC5, m5⟩
      have hB5 := m5.keep hB4 hxy
      have hm5 := hm4.tr (m5.mono (fun k _ hk => .inr hk))
      have f1 := (f1.keep (Keep.ofMvs m5 (fun k hk => by omega))).rds
      have f2 := (f2.keep (Keep.ofMvs m5 (fun k hk => by omega))).rds
      have hb : Bun bx bY y U V' (.slice a1 U.length c1) (.slice a2 V'.length c2) (.slice a3 U.length c3) (.slice a4 V'.length c4) v4 w5 := ⟨hB5, hC5, f1, f2, f3.rds, f4.rds, hm5⟩
      clear m5 hs2 hcf2 hseg hC4 hm4 hvo4 hB4 f1 f2 f3 f4 hB5 hC5 hm5 hly4
      have hU1 := Lib.hid (fun (W : World) (h : SpAt W bx y) => upds_any bx y W h HYO.out)
      have hU2 := Lib.hid (fun (W : World) (h : SpAt W bY y.mir) => upds_any bY y.mir W h (mir_ok HYO.out))
      have hR1 := Lib.hid (fun (W : World) (h : SpAt W bx y) => rsts_any bx y W h HYO.out)
      have hR2 := Lib.hid (fun (W : World) (h : SpAt W bY y.mir) => rsts_any bY y.mir W h (mir_ok HYO.out))
      have hS1 := Lib.hid (fun (W : World) (h : SpAt W bx y) => sstate_any bx y W h HYO.out)
      have hS2 := Lib.hid (fun (W : World) (h : SpAt W bY y.mir) => sstate_any bY y.mir W h (mir_ok HYO.out))
      rw [show updG y.mir false = updG y true from mir_upd y true, show updG y.mir true = updG y false from mir_upd y false] at hU2
      rw [show rstG y.mir false = rstG y true from mir_rst y true, show rstG y.mir true = rstG y false from mir_rst y false] at hR2
      rw [mir_state] at hS2
      have hA0 : Hid ((updG y false).os = [] ∧ (updG y false).data = []) := ⟨rfl, rfl⟩
      have hB0 : Hid ((updG y true).os = [] ∧ (updG y true).data = []) := ⟨rfl, rfl⟩
      have hC0 : Hid ((rstG y false).os = [] ∧ (rstG y false).data = []) := ⟨rfl, rfl⟩
      have hD0 : Hid ((rstG y true).os = [] ∧ (rstG y true).data = []) := ⟨rfl, rfl⟩
      have hA1 := Lib.hid (updG_ok HYO.out false)
      have hB1 := Lib.hid (updG_ok HYO.out true)
      have hC1 := Lib.hid (rstG_ok HYO.out false)
      have hD1 := Lib.hid (rstG_ok HYO.out true)
      generalize updG y false = A at *
      generalize updG y true = B at *
      generalize rstG y false = C at *
      generalize rstG y true = D at *
      generalize y.state = ST at *
      have hone : ∀ g : Sg, (g.cells nos nos).all (·.oneCell') = true := fun g => by simp [Value.oneCell']
      have HONE := Lib.hid hone
      clear hone
      obtain ⟨wb, rfl⟩ : ∃ v : World, v = w5 := ⟨_, rfl⟩
      go_wp2_with fail
      refine (hU1.out wb hb.x).mono ?_
      rintro e wc ⟨rfl, hxc⟩
      replace hb := hb.ext hxc
      clear hxc
      go_upto_region 18 with (first | (refine wpList_put_row 51 wc.heap.size _ (Sg.cells A nos nos) _ rfl rfl (new2a _ _ _) (by kernel_rfl) rfl (HONE.out _) ?_; intro Va k20 ma) | (refine wpList_put_row 51 (wc.heap.size + 1) _ (Sg.cells B nos nos) _ rfl rfl (ma.keep (new2b _ _ _) (by omega)) (by kernel_rfl) rfl (HONE.out _) ?_; intro Vb k21 mb))
      replace k20 := mb.keep k20 (by omega)
      have hxx := (Ext.new wc (.cells (Sg.none.cells nos nos) 51)).al (.cells (Sg.none.cells nos nos) 51)
      have hx8 : Ext wc Vb := mb.ext (ma.ext hxx (fun k hk => by omega)) (fun k hk => by omega)
      replace hb := hb.ext hx8
      generalize wc.heap.size = b20 at *
      clear ma mb hxx hx8 wb
      obtain ⟨wb, rfl⟩ : ∃ v : World, v = Vb := ⟨_, rfl⟩
      go_wp2_with fail
      refine (hU2.out wb hb.m).mono ?_
      rintro e wc ⟨rfl, hxc⟩
      replace hb := hb.ext hxc
      replace k20 := hxc.block k20
      replace k21 := hxc.block k21
      clear hxc
      go_upto_region 19 with (first | (refine wpList_put_row 51 wc.heap.size _ (Sg.cells B nos nos) _ rfl rfl (new2a _ _ _) (by kernel_rfl) rfl (HONE.out _) ?_; intro Va k22 ma) | (refine wpList_put_row 51 (wc.heap.size + 1) _ (Sg.cells A nos nos) _ rfl rfl (ma.keep (new2b _ _ _) (by omega)) (by kernel_rfl) rfl (HONE.out _) ?_; intro Vb k23 mb))
      replace k22 := mb.keep k22 (by omega)
      have hxx := (Ext.new wc (.cells (Sg.none.cells nos nos) 51)).al (.cells (Sg.none.cells nos nos) 51)
      have hx8 : Ext wc Vb := mb.ext (ma.ext hxx (fun k hk => by omega)) (fun k hk => by omega)
      replace hb := hb.ext hx8
      replace k20 := hx8.block k20
      replace k21 := hx8.block k21
      generalize wc.heap.size = b22 at *
      clear ma mb hxx hx8 wb
      obtain ⟨wb, rfl⟩ : ∃ v : World, v = Vb := ⟨_, rfl⟩
      go_wp2_with fail
      refine (hR1.out wb hb.x).mono ?_
      rintro e wc ⟨rfl, hxc⟩
      replace hb := hb.ext hxc
      replace k20 := hxc.block k20
      replace k21 := hxc.block k21
      replace k22 := hxc.block k22
      replace k23 := hxc.block k23
      clear hxc
      go_upto_region 20 with (first | (refine wpList_put_row 51 wc.heap.size _ (Sg.cells C nos nos) _ rfl rfl (new2a _ _ _) (by kernel_rfl) rfl (HONE.out _) ?_; intro Va k24 ma) | (refine wpList_put_row 51 (wc.heap.size + 1) _ (Sg.cells D nos nos) _ rfl rfl (ma.keep (new2b _ _ _) (by omega)) (by kernel_rfl) rfl (HONE.out _) ?_; intro Vb k25 mb))
      replace k24 := mb.keep k24 (by omega)
      have hxx := (Ext.new wc (.cells (Sg.none.cells nos nos) 51)).al (.cells (Sg.none.cells nos nos) 51)
      have hx8 : Ext wc Vb := mb.ext (ma.ext hxx (fun k hk => by omega)) (fun k hk => by omega)
      replace hb := hb.ext hx8
      replace k20 := hx8.block k20
      replace k21 := hx8.block k21
      replace k22 := hx8.block k22
      replace k23 := hx8.block k23
      generalize wc.heap.size = b24 at *
      clear ma mb hxx hx8 wb
      obtain ⟨wb, rfl⟩ : ∃ v : World, v = Vb := ⟨_, rfl⟩
      go_wp2_with fail
      refine (hR2.out wb hb.m).mono ?_
      rintro e wc ⟨rfl, hxc⟩
      replace hb := hb.ext hxc
      replace k20 := hxc.block k20
      replace k21 := hxc.block k21
      replace k22 := hxc.block k22
      replace k23 := hxc.block k23
      replace k24 := hxc.block k24
      replace k25 := hxc.block k25
      clear hxc
      go_upto_region 21 with (first | (refine wpList_put_row 51 wc.heap.size _ (Sg.cells D nos nos) _ rfl rfl (new2a _ _ _) (by kernel_rfl) rfl (HONE.out _) ?_; intro Va k26 ma) | (refine wpList_put_row 51 (wc.heap.size + 1) _ (Sg.cells C nos nos) _ rfl rfl (ma.keep (new2b _ _ _) (by omega)) (by kernel_rfl) rfl (HONE.out _) ?_; intro Vb k27 mb))
      replace k26 := mb.keep k26 (by omega)
      have hxx := (Ext.new wc (.cells (Sg.none.cells nos nos) 51)).al (.cells (Sg.none.cells nos nos) 51)
      have hx8 : Ext wc Vb := mb.ext (ma.ext hxx (fun k hk => by omega)) (fun k hk => by omega)
      replace hb := hb.ext hx8
      replace k20 := hx8.block k20
      replace k21 := hx8.block k21
      replace k22 := hx8.block k22
      replace k23 := hx8.block k23
      replace k24 := hx8.block k24
      replace k25 := hx8.block k25
      generalize wc.heap.size = b26 at *
      clear ma mb hxx hx8 wb
      obtain ⟨wb, rfl⟩ : ∃ v : World, v = Vb := ⟨_, rfl⟩
      go_wp2_with fail
      refine (same26_any U U _ _ wb hb.a hb.c HU.out HU.out HUl.out).mono ?_
      rw [sameL_eq]
      rintro e wc ⟨rfl, hxc⟩
      replace hb := hb.ext hxc
      replace k20 := hxc.block k20
      replace k21 := hxc.block k21
      replace k22 := hxc.block k22
      replace k23 := hxc.block k23
      replace k24 := hxc.block k24
      replace k25 := hxc.block k25
      replace k26 := hxc.block k26
      replace k27 := hxc.block k27
      clear hxc wb
      go_wp2_with fail
      refine (same26_any V' V' _ _ wc hb.b hb.d HV.out HV.out HVl.out).mono ?_
      rw [sameL_eq]
      rintro e wb ⟨rfl, hxc⟩
      replace hb := hb.ext hxc
      replace k20 := hxc.block k20
      replace k21 := hxc.block k21
      replace k22 := hxc.block k22
      replace k23 := hxc.block k23
      replace k24 := hxc.block k24
      replace k25 := hxc.block k25
      replace k26 := hxc.block k26
      replace k27 := hxc.block k27
      clear hxc wc
      go_wp2_with fail
      refine (hS1.out wb hb.x).mono ?_
      rintro e wc ⟨rfl, hxc⟩
      replace hb := hb.ext hxc
      replace k20 := hxc.block k20
      replace k21 := hxc.block k21
      replace k22 := hxc.block k22
      replace k23 := hxc.block k23
      replace k24 := hxc.block k24
      replace k25 := hxc.block k25
      replace k26 := hxc.block k26
      replace k27 := hxc.block k27
      clear hxc wb
      go_wp2_with fail
      refine (hS2.out wc hb.m).mono ?_
      rintro e wb ⟨rfl, hxc⟩
      replace hb := hb.ext hxc
      replace k20 := hxc.block k20
      replace k21 := hxc.block k21
      replace k22 := hxc.block k22
      replace k23 := hxc.block k23
      replace k24 := hxc.block k24
      replace k25 := hxc.block k25
      replace k26 := hxc.block k26
      replace k27 := hxc.block k27
      clear hxc wc
      have HB := Lib.hid hb
      clear hb hS1 hS2 hU1 hU2 hR1 hR2
      go_wp2_with (first | (refine wpList_load_bigG (dst := some 151) 51 b20 _ _ _ rfl k20 rfl Try.underlying51 rfl (by kernel_rfl) ?_; simp only [Act.put, List.setIfInBounds_toArray, List.set_cons_succ, List.set_cons_zero]) | (refine wpList_load_bigG (dst := some 152) 51 (b20 + 1) _ _ _ rfl k21 rfl Try.underlying51 rfl (by kernel_rfl) ?_; simp only [Act.put, List.setIfInBounds_toArray, List.set_cons_succ, List.set_cons_zero]) | (refine wpList_load_bigG (dst := some 153) 51 b24 _ _ _ rfl k24 rfl Try.underlying51 rfl (by kernel_rfl) ?_; simp only [Act.put, List.setIfInBounds_toArray, List.set_cons_succ, List.set_cons_zero]) | (refine wpList_load_bigG (dst := some 154) 51 (b24 + 1) _ _ _ rfl k25 rfl Try.underlying51 rfl (by kernel_rfl) ?_; simp only [Act.put, List.setIfInBounds_toArray, List.set_cons_succ, List.set_cons_zero]) | (refine wpList_load_bigG (dst := some 157) 51 b22 _ _ _ rfl ((Ext.new wb _).block k22) rfl Try.underlying51 rfl (by kernel_rfl) ?_; simp only [Act.put, List.setIfInBounds_toArray, List.set_cons_succ, List.set_cons_zero]) | (refine wpList_load_bigG (dst := some 156) 51 (b22 + 1) _ _ _ rfl ((Ext.new wb _).block k23) rfl Try.underlying51 rfl (by kernel_rfl) ?_; simp only [Act.put, List.setIfInBounds_toArray, List.set_cons_succ, List.set_cons_zero]) | (refine wpList_load_bigG (dst := some 159) 51 b26 _ _ _ rfl ((Ext.new wb _).block k26) rfl Try.underlying51 rfl (by kernel_rfl) ?_; simp only [Act.put, List.setIfInBounds_toArray, List.set_cons_succ, List.set_cons_zero]) | (refine wpList_load_bigG (dst := some 158) 51 (b26 + 1) _ _ _ rfl ((Ext.new wb _).block k27) rfl Try.underlying51 rfl (by kernel_rfl) ?_; simp only [Act.put, List.setIfInBounds_toArray, List.set_cons_succ, List.set_cons_zero]))
      have hokq : OkL [A, B, C, D] := fun g hg => by
        simp only [List.mem_cons, List.not_mem_nil, or_false] at hg
        rcases hg with rfl | rfl | rfl | rfl
        · exact hA1.out
        · exact hB1.out
        · exact hC1.out
        · exact hD1.out
      refine (same26_any [A, B, C, D] [A, B, C, D] _ _ _ ((rds_quad hA0.out hB0.out hC0.out hD0.out rfl).ext (Ext.new _ _)) (rds_quad hA0.out hB0.out hC0.out hD0.out (by simp)) hokq hokq (by simp)).mono ?_
      rw [sameL_eq]
      rintro e wc ⟨rfl, hxc⟩
      have hxc := ((Ext.new wb _).al _).tr hxc
      have hb := Lib.hid (HB.out.ext hxc)
      clear hxc k20 k21 k22 k23 k24 k25 k26 k27 hokq HB
      go_wp2_with fail
      go_roundw
      case rel => exact ⟨i + 1, y, by omega, by omega, by go_num, HYO.out, hb.out.x, hb.out.m, hb.out.mv⟩
      case measure => simp [intOf]; omega
    · have hcase : (¬ (i : Int) < (n : Int)) ∨ ((i : Int) < (n : Int) ∧ ¬ (i : Int) < 40) := by omega
      have HXO := Lib.hid hxo
      have HX := Lib.hid hxr
      have HB3 := Lib.hid hB
      have HC3 := Lib.hid hC
      have hsh2 := Lib.hid (fun (W : World) (h : SpAt W bY x.mir) => shifts_any bY x.mir W h (mir_ok hxo))
      have hsh1 := Lib.hid (fun (W : World) (h : SpAt W bx x) => shifts_any bx x W h hxo)
      have hs0 : x.mir.c.ov = x.s.ov ∧ x.mir.s.ov = x.c.ov := ⟨rfl, rfl⟩
      rw [hs0.1, hs0.2] at hsh2
      clear hm hxo hB hC hlt hxr hs0
      generalize x.c.ov = T at *
      generalize x.s.ov = K at *
      have hbx : ∀ (y : Shf), y.cells.all (·.oneCell') = true := fun y => by simp [Value.oneCell']
      have HBX := Lib.hid hbx
      clear hbx
      rcases hcase with q | ⟨q, q2⟩
      all_goals
        go_wp2_with fail
        refine (hsh1.out wr HB3.out).mono ?_
        rintro e wc ⟨rfl, hxc⟩
        have HC4 := Lib.hid (hxc.block HC3.out)
        have HX4 := Lib.hid (HX.out.tr hxc)
        clear hxc
        go_upto_region 24 with (first | (refine wpList_put_row 40 wc.heap.size _ T.cells _ rfl rfl (new2a _ _ _) (by kernel_rfl) rfl (HBX.out _) ?_; intro Va k28 ma) | (refine wpList_put_row 40 (wc.heap.size + 1) _ K.cells _ rfl rfl (ma.keep (new2b _ _ _) (by omega)) (by kernel_rfl) rfl (HBX.out _) ?_; intro Vb k29 mb))
        replace k28 := mb.keep k28 (by omega)
        have hxx := (Ext.new wc (.cells (Shf.cells ⟨0, 0, false, 0, 0, 0⟩) 40)).al (.cells (Shf.cells ⟨0, 0, false, 0, 0, 0⟩) 40)
        have hx8 : Ext wc Vb := mb.ext (ma.ext hxx (fun k hk => by omega)) (fun k hk => by omega)
        have HC5 := Lib.hid (hx8.block HC4.out)
        have HX5 := Lib.hid (HX4.out.tr hx8)
        generalize wc.heap.size = b28 at *
        clear ma mb hxx hx8
        obtain ⟨wb, rfl⟩ : ∃ v : World, v = Vb := ⟨_, rfl⟩
        go_wp2_with fail
        refine (hsh2.out wb HC5.out).mono ?_
        rintro e wd ⟨rfl, hxc⟩
        replace k28 := hxc.block k28
        replace k29 := hxc.block k29
        have HX6 := Lib.hid (HX5.out.tr hxc)
        clear hxc
        go_upto_region 25 with (first | (refine wpList_put_row 40 wd.heap.size _ K.cells _ rfl rfl (new2a _ _ _) (by kernel_rfl) rfl (HBX.out _) ?_; intro Va k30 ma) | (refine wpList_put_row 40 (wd.heap.size + 1) _ T.cells _ rfl rfl (ma.keep (new2b _ _ _) (by omega)) (by kernel_rfl) rfl (HBX.out _) ?_; intro Vb k31 mb))
        replace k30 := mb.keep k30 (by omega)
        have hxx := (Ext.new wd (.cells (Shf.cells ⟨0, 0, false, 0, 0, 0⟩) 40)).al (.cells (Shf.cells ⟨0, 0, false, 0, 0, 0⟩) 40)
        have hx8 : Ext wd Vb := mb.ext (ma.ext hxx (fun k hk => by omega)) (fun k hk => by omega)
        replace k28 := hx8.block k28
        replace k29 := hx8.block k29
        have HX7 := Lib.hid (HX6.out.tr hx8)
        generalize wd.heap.size = b30 at *
        clear ma mb hxx hx8
        obtain ⟨we, rfl⟩ : ∃ v : World, v = Vb := ⟨_, rfl⟩
        go_wp2_with (first | (refine wpList_load_bigG 40 b28 _ _ _ rfl k28 rfl Try.underlying40 rfl (by kernel_rfl) ?_; simp only [Act.put, List.setIfInBounds_toArray, List.set_cons_succ, List.set_cons_zero]) | (refine wpList_load_bigG 40 (b28 + 1) _ _ _ rfl k29 rfl Try.underlying40 rfl (by kernel_rfl) ?_; simp only [Act.put, List.setIfInBounds_toArray, List.set_cons_succ, List.set_cons_zero]) | (refine wpList_load_bigG 40 b30 _ _ _ rfl k30 rfl Try.underlying40 rfl (by kernel_rfl) ?_; simp only [Act.put, List.setIfInBounds_toArray, List.set_cons_succ, List.set_cons_zero]) | (refine wpList_load_bigG 40 (b30 + 1) _ _ _ rfl k31 rfl Try.underlying40 rfl (by kernel_rfl) ?_; simp only [Act.put, List.setIfInBounds_toArray, List.set_cons_succ, List.set_cons_zero]))
        refine (wakes26_any we).mono ?_
        rintro e wf ⟨rfl, hxf⟩
        go_wp2_with fail
        go_ret
        exact ⟨rfl, HX7.out.tr hxf⟩
end Go.Proofs.Ytgbbpibcmpeneaa.spliceMirror
