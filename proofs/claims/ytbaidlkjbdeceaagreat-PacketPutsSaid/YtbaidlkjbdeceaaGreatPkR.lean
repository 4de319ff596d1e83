/-
  Proved here: what packet.Put computes, for every packet. (PRINTED BY tools/genpkr.py)
-/
import Derived.Test.YtbaidlkjbdeceaaGreatPkQ
namespace Go.Proofs.YtbaidlkjbdeceaaGreat
set_option maxRecDepth 200000
open Go.ChangeShapes Go.WideShapes Go.ChangeAt Go.RowKit Go.Cul Go.Loose
set_option linter.unusedVariables false
attribute [local go_sem] Loose.Still Loose.Upon Loose.vUpon First.pUpon

/-- Lengths that any machine has. -/
structure Pk.len (p : Pk) : Prop where
  h : p.h.op.length ≤ 140737488351232
  g : p.g.data.length ≤ 140737488351232
  d : p.d.data.length ≤ 140737488351232
  m : p.m.data.length ≤ 140737488351232
theorem plput_len (p : Pk) : (plput p).1.length ≤ 140737488351232 := by
  unfold plput
  split
  · unfold tput
    split
    · exact Nat.zero_le _
    split
    · exact Nat.zero_le _
    · rw [lay_len]; omega
  split
  · unfold uput
    split
    · exact Nat.zero_le _
    · rw [udpl_len]; omega
  · unfold mput
    split
    · exact Nat.zero_le _
    · rw [Ms.lay_len]; omega
def PVp (base : Nat) (T : List Int) (E : Int) (v : Value) (w : World) : Prop := ∃ u, v = .tuple #[u, .int .i64 E] ∧ Fr w base 5 .u8 u T
theorem PVp.lasts {base : Nat} {T : List Int} {E : Int} : ∀ v w w', Ext w w' → PVp base T E v w → PVp base T E v w' := fun v w w' hx ⟨u, h1, h2⟩ => ⟨u, h1, h2.kept hx⟩

set_option maxHeartbeats 4000000
set_option maxRecDepth 100000
theorem pput_any (p : Pk) (vh vo vg vd vm : Value) (w : World) (hp : p.ok) (r : PkR w p vh vo vg vd vm) (hn : p.len) :
    Calls Tryz.prog 5 #[.agg (p.cells vh vo vg vd vm)] w fun e w' => ∃ u, e = .returned (.tuple #[u, .int .i64 (pput p).2]) ∧ Fr w' w.heap.size 5 .u8 u (pput p).1 ∧ Ext w w' := by
  have hx0 := Ext.new w (.cells (p.cells vh vo vg vd vm) 35)
  have k1 := heap_alloc_new w (.cells (p.cells vh vo vg vd vm) 35)
  have R := Lib.hid r
  have HP := Lib.hid hp
  have HL := Lib.hid hn
  have HC0 := Lib.hid (pmay_any p vh vo vg vd vm _ hp (r.ext hx0) hn.h)
  have HT := Lib.hid (plput_len p)
  have hU : Hid (pput p = if p.may = false then ([], 1) else if (plput p).2 ≠ 0 then ([], (plput p).2) else hput p.h (plput p).1) := rfl
  have hM : Hid (p.may = true → hasP p.h.proto = true) := fun h => by
    unfold Pk.may at h
    revert h
    cases hasP p.h.proto <;> simp
  generalize pput p = PP at *
  clear r hp hn
  obtain ⟨ah, ch, rfl, -⟩ := id R.out.h
  obtain ⟨ao, co, rfl⟩ := R.out.o.shape
  obtain ⟨ag, cg, rfl, -⟩ := id R.out.g
  obtain ⟨ad, cd, rfl, -⟩ := id R.out.d
  obtain ⟨am, cm, rfl, -⟩ := id R.out.m
  generalize p.may = my at *
  go_enter Tryz.func5, Tryz.ntmps5
  go_upto_region 1 with (fail)
  generalize hW : World.alloc w _ = W at *
  clear hW
  go_wp2_with (refine wpList_load_bigG 35 w.heap.size _ _ _ rfl k1 rfl Tryz.underlying35 rfl (by kernel_rfl) ?_; simp only [Act.put, List.setIfInBounds_toArray, List.set_cons_succ, List.set_cons_zero])
  refine HC0.out.mono ?_
  clear HC0
  rintro e W1 ⟨rfl, hx1⟩
  have k1 := hx1.block k1
  have hxw := Lib.hid (hx0.tr hx1)
  clear hx0 hx1
  cases my
  · go_wp2_with fail
    go_ret2
    refine ⟨_, by rw [hU.out]; rfl, ?_, hxw.out⟩
    rw [hU.out]
    exact .inr ⟨_, rfl, rfl⟩
  have hM2 := hM.out rfl
  have hU2 : Hid (PP = if (plput p).2 ≠ 0 then ([], (plput p).2) else hput p.h (plput p).1) := by rw [hU.out]; rfl
  clear hU
  have c4 := cell_blk k1 4
  simp at c4
  have HK1 := Lib.hid k1
  clear k1
  go_upto_region 3 with (fail)
  by_cases h6 : p.h.proto = 6
  · have hpl : plput p = tput p.h.src p.h.dst p.g := by unfold plput; rw [if_pos h6]
    have HC := Lib.hid (fun (W' : World) (hx : Ext w W') => part6_any p _ _ _ _ _ W' HP.out (R.out.ext hx) HL.out.g)
    rw [← hpl] at HC
    clear hpl
    generalize plput p = TP at *
    obtain ⟨T, E⟩ := TP
    dsimp only at HC hU2 HT
    rw [h6] at c4
    clear h6
    refine wp_region_grow [(0, MVp), (7, PVp w.heap.size T E)] (lasts_cons MVp.lasts (lasts_cons PVp.lasts lasts_nil)) (by kernel_rfl) (by kernel_rfl) ?_
    apply wpL_some rfl rfl
    · intro w' hw' hn'
      go_simp
      refine ⟨Ext.rfl' _, ?_⟩
      refine (parts_any w').mono ?_
      rintro e w2 ⟨r, rfl, h1, h2, hx⟩
      exact ⟨_, rfl, hx, r, rfl, h2⟩
    intro v w' hw' hD' hv
    obtain ⟨r, rfl, -⟩ := hv
    clear hw' hD' w'
    intro K hK; go_simp; refine hK _ _ ?_; clear hK K
    iterate 2
      apply wpL_none rfl rfl
      · intro w' hw' hn'; go_simp; exact rfl
      intro K hK; go_simp; refine hK _ _ ?_; clear hK K
    iterate 1
      apply wpL_none rfl rfl
      · intro w' hw' hn'; have c4 := Ext.cell hw' c4; go_simp; exact rfl
      intro K hK; go_simp; refine hK _ _ ?_; clear hK K
    apply wpL_none rfl rfl
    · intro w' hw' hn'
      have hm : MVp (.map (some r)) w' := hn' ⟨0, .data⟩ (by simp) rfl
      obtain ⟨r', he, hm⟩ := hm
      cases he
      have hl := look_parts hm 6 false
      rw [if_neg (by decide), show partOf 6 = .agg #[.func (.func 32) #[] #[], .func (.func 34) #[] #[]] from rfl] at hl
      go_simp
      exact rfl
    intro K hK; go_simp; refine hK _ _ ?_; clear hK K
    have hfd : ∀ w : World, (Instr.field 51 (.agg #[.func (.func 32) #[] #[], .func (.func 34) #[] #[]]) 0).run Tryz.prog w = .ok (.func (.func 32) #[] #[]) w := fun _ => by kernel_rfl
    iterate 1
      apply wpL_none rfl rfl
      · intro w' hw' hn'; go_simp; exact rfl
      intro K hK; go_simp; refine hK _ _ ?_; clear hK K
    clear hfd
    apply wpL_none rfl rfl
    · intro w' hw' hn'
      exact still_load 35 _ rfl w.heap.size _ rfl (p.cells (.slice ah p.h.op.length ch) (.slice ao p.g.os.length co) (.slice ag p.g.data.length cg) (.slice ad p.d.data.length cd) (.slice am p.m.data.length cm)) _ (fun j v hv => by rw [Nat.zero_add, cell_blk (Ext.block hw' HK1.out)]; simpa using hv) Tryz.underlying35 rfl (by kernel_rfl)
    intro K hK; go_simp; refine hK _ _ ?_; clear hK K
    apply wpL_some rfl rfl
    · intro w' hw' hn'
      go_simp
      refine ⟨Ext.rfl' _, ?_⟩
      refine (HC.out _ (hxw.out.tr hw')).mono ?_
      rintro e w2 ⟨u, rfl, hu, hx⟩
      exact ⟨_, rfl, hx, u, rfl, .inl (hu.low (hxw.out.tr hw').size)⟩
    intro v w' hw' hD' hv
    obtain ⟨u, rfl, hu⟩ := hv
    obtain ⟨au, nu, cu, rfl⟩ := hu.rd.shape
    clear hw' hD' hu w'
    intro K hK; go_simp; refine hK _ _ ?_; clear hK K
    iterate 5
      apply wpL_none rfl rfl
      · intro w' hw' hn'; go_simp; exact rfl
      intro K hK; go_simp; refine hK _ _ ?_; clear hK K
    refine wpL_nil ?_
    intro w2 hx2 hD
    have hx2 : Ext W1 w2 := hx2
    have hu := hD 7
    simp [Loose.upd] at hu
    obtain ⟨u, he, hu⟩ := hu
    cases he
    clear hD c4 HC
    by_cases hE : E = 0
    · subst hE
      have hU3 : Hid (PP = hput p.h T) := by rw [hU2.out]; rfl
      have k1 := hx2.block HK1.out
      have hxw2 := Lib.hid (hxw.out.tr hx2)
      obtain ⟨rh, -, -, -⟩ := pk_rng k1
      clear k1 HK1 hU2
      have HI := Lib.hid (hput_any p.h _ _ T w2 HP.out.h (R.out.h.ext hxw2.out) hu.rd HL.out.h HT.out)
      rw [← hU3.out] at HI
      go_wp2_with (refine wpList_load_midG rfl 26 _ rfl w.heap.size 0 rfl _ _ rh Tryz.underlying26 rfl (by kernel_rfl) ?_)
      refine HI.out.mono ?_
      rintro e w3 ⟨v, rfl, hv, hx3⟩
      obtain ⟨a3, n3, c3, rfl⟩ := hv.rd.shape
      clear rh HI
      go_wp2_with fail
      go_ret2
      exact ⟨_, rfl, .inl (hv.low hxw2.out.size), hxw2.out.tr hx3⟩
    · have bE : (E != 0) = true := by simpa using hE
      go_wp2_with fail
      go_ret2
      obtain rfl : PP = ([], E) := by rw [hU2.out, if_pos (by simpa using hE)]
      exact ⟨_, rfl, .inr ⟨_, rfl, rfl⟩, hxw.out.tr hx2⟩
  by_cases h17 : p.h.proto = 17
  · have hpl : plput p = uput p.h.src p.h.dst p.d.sp p.d.dp p.d.data := by unfold plput; rw [if_neg h6, if_pos h17]
    have HC := Lib.hid (fun (W' : World) (hx : Ext w W') => part17_any p _ _ _ _ _ W' HP.out (R.out.ext hx) HL.out.d)
    rw [← hpl] at HC
    clear hpl
    generalize plput p = TP at *
    obtain ⟨T, E⟩ := TP
    dsimp only at HC hU2 HT
    rw [h17] at c4
    clear h17
    refine wp_region_grow [(0, MVp), (7, PVp w.heap.size T E)] (lasts_cons MVp.lasts (lasts_cons PVp.lasts lasts_nil)) (by kernel_rfl) (by kernel_rfl) ?_
    apply wpL_some rfl rfl
    · intro w' hw' hn'
      go_simp
      refine ⟨Ext.rfl' _, ?_⟩
      refine (parts_any w').mono ?_
      rintro e w2 ⟨r, rfl, h1, h2, hx⟩
      exact ⟨_, rfl, hx, r, rfl, h2⟩
    intro v w' hw' hD' hv
    obtain ⟨r, rfl, -⟩ := hv
    clear hw' hD' w'
    intro K hK; go_simp; refine hK _ _ ?_; clear hK K
    iterate 2
      apply wpL_none rfl rfl
      · intro w' hw' hn'; go_simp; exact rfl
      intro K hK; go_simp; refine hK _ _ ?_; clear hK K
    iterate 1
      apply wpL_none rfl rfl
      · intro w' hw' hn'; have c4 := Ext.cell hw' c4; go_simp; exact rfl
      intro K hK; go_simp; refine hK _ _ ?_; clear hK K
    apply wpL_none rfl rfl
    · intro w' hw' hn'
      have hm : MVp (.map (some r)) w' := hn' ⟨0, .data⟩ (by simp) rfl
      obtain ⟨r', he, hm⟩ := hm
      cases he
      have hl := look_parts hm 17 false
      rw [if_neg (by decide), show partOf 17 = .agg #[.func (.func 36) #[] #[], .func (.func 38) #[] #[]] from rfl] at hl
      go_simp
      exact rfl
    intro K hK; go_simp; refine hK _ _ ?_; clear hK K
    have hfd : ∀ w : World, (Instr.field 51 (.agg #[.func (.func 36) #[] #[], .func (.func 38) #[] #[]]) 0).run Tryz.prog w = .ok (.func (.func 36) #[] #[]) w := fun _ => by kernel_rfl
    iterate 1
      apply wpL_none rfl rfl
      · intro w' hw' hn'; go_simp; exact rfl
      intro K hK; go_simp; refine hK _ _ ?_; clear hK K
    clear hfd
    apply wpL_none rfl rfl
    · intro w' hw' hn'
      exact still_load 35 _ rfl w.heap.size _ rfl (p.cells (.slice ah p.h.op.length ch) (.slice ao p.g.os.length co) (.slice ag p.g.data.length cg) (.slice ad p.d.data.length cd) (.slice am p.m.data.length cm)) _ (fun j v hv => by rw [Nat.zero_add, cell_blk (Ext.block hw' HK1.out)]; simpa using hv) Tryz.underlying35 rfl (by kernel_rfl)
    intro K hK; go_simp; refine hK _ _ ?_; clear hK K
    apply wpL_some rfl rfl
    · intro w' hw' hn'
      go_simp
      refine ⟨Ext.rfl' _, ?_⟩
      refine (HC.out _ (hxw.out.tr hw')).mono ?_
      rintro e w2 ⟨u, rfl, hu, hx⟩
      exact ⟨_, rfl, hx, u, rfl, .inl (hu.low (hxw.out.tr hw').size)⟩
    intro v w' hw' hD' hv
    obtain ⟨u, rfl, hu⟩ := hv
    obtain ⟨au, nu, cu, rfl⟩ := hu.rd.shape
    clear hw' hD' hu w'
    intro K hK; go_simp; refine hK _ _ ?_; clear hK K
    iterate 5
      apply wpL_none rfl rfl
      · intro w' hw' hn'; go_simp; exact rfl
      intro K hK; go_simp; refine hK _ _ ?_; clear hK K
    refine wpL_nil ?_
    intro w2 hx2 hD
    have hx2 : Ext W1 w2 := hx2
    have hu := hD 7
    simp [Loose.upd] at hu
    obtain ⟨u, he, hu⟩ := hu
    cases he
    clear hD c4 HC
    by_cases hE : E = 0
    · subst hE
      have hU3 : Hid (PP = hput p.h T) := by rw [hU2.out]; rfl
      have k1 := hx2.block HK1.out
      have hxw2 := Lib.hid (hxw.out.tr hx2)
      obtain ⟨rh, -, -, -⟩ := pk_rng k1
      clear k1 HK1 hU2
      have HI := Lib.hid (hput_any p.h _ _ T w2 HP.out.h (R.out.h.ext hxw2.out) hu.rd HL.out.h HT.out)
      rw [← hU3.out] at HI
      go_wp2_with (refine wpList_load_midG rfl 26 _ rfl w.heap.size 0 rfl _ _ rh Tryz.underlying26 rfl (by kernel_rfl) ?_)
      refine HI.out.mono ?_
      rintro e w3 ⟨v, rfl, hv, hx3⟩
      obtain ⟨a3, n3, c3, rfl⟩ := hv.rd.shape
      clear rh HI
      go_wp2_with fail
      go_ret2
      exact ⟨_, rfl, .inl (hv.low hxw2.out.size), hxw2.out.tr hx3⟩
    · have bE : (E != 0) = true := by simpa using hE
      go_wp2_with fail
      go_ret2
      obtain rfl : PP = ([], E) := by rw [hU2.out, if_pos (by simpa using hE)]
      exact ⟨_, rfl, .inr ⟨_, rfl, rfl⟩, hxw.out.tr hx2⟩
  by_cases h1 : p.h.proto = 1
  · have hpl : plput p = mput p.m := by unfold plput; rw [if_neg h6, if_neg h17]
    have HC := Lib.hid (fun (W' : World) (hx : Ext w W') => part1_any p _ _ _ _ _ W' HP.out (R.out.ext hx) HL.out.m)
    rw [← hpl] at HC
    clear hpl
    generalize plput p = TP at *
    obtain ⟨T, E⟩ := TP
    dsimp only at HC hU2 HT
    rw [h1] at c4
    clear h1
    refine wp_region_grow [(0, MVp), (7, PVp w.heap.size T E)] (lasts_cons MVp.lasts (lasts_cons PVp.lasts lasts_nil)) (by kernel_rfl) (by kernel_rfl) ?_
    apply wpL_some rfl rfl
    · intro w' hw' hn'
      go_simp
      refine ⟨Ext.rfl' _, ?_⟩
      refine (parts_any w').mono ?_
      rintro e w2 ⟨r, rfl, h1, h2, hx⟩
      exact ⟨_, rfl, hx, r, rfl, h2⟩
    intro v w' hw' hD' hv
    obtain ⟨r, rfl, -⟩ := hv
    clear hw' hD' w'
    intro K hK; go_simp; refine hK _ _ ?_; clear hK K
    iterate 2
      apply wpL_none rfl rfl
      · intro w' hw' hn'; go_simp; exact rfl
      intro K hK; go_simp; refine hK _ _ ?_; clear hK K
    iterate 1
      apply wpL_none rfl rfl
      · intro w' hw' hn'; have c4 := Ext.cell hw' c4; go_simp; exact rfl
      intro K hK; go_simp; refine hK _ _ ?_; clear hK K
    apply wpL_none rfl rfl
    · intro w' hw' hn'
      have hm : MVp (.map (some r)) w' := hn' ⟨0, .data⟩ (by simp) rfl
      obtain ⟨r', he, hm⟩ := hm
      cases he
      have hl := look_parts hm 1 false
      rw [if_neg (by decide), show partOf 1 = .agg #[.func (.func 40) #[] #[], .func (.func 42) #[] #[]] from rfl] at hl
      go_simp
      exact rfl
    intro K hK; go_simp; refine hK _ _ ?_; clear hK K
    have hfd : ∀ w : World, (Instr.field 51 (.agg #[.func (.func 40) #[] #[], .func (.func 42) #[] #[]]) 0).run Tryz.prog w = .ok (.func (.func 40) #[] #[]) w := fun _ => by kernel_rfl
    iterate 1
      apply wpL_none rfl rfl
      · intro w' hw' hn'; go_simp; exact rfl
      intro K hK; go_simp; refine hK _ _ ?_; clear hK K
    clear hfd
    apply wpL_none rfl rfl
    · intro w' hw' hn'
      exact still_load 35 _ rfl w.heap.size _ rfl (p.cells (.slice ah p.h.op.length ch) (.slice ao p.g.os.length co) (.slice ag p.g.data.length cg) (.slice ad p.d.data.length cd) (.slice am p.m.data.length cm)) _ (fun j v hv => by rw [Nat.zero_add, cell_blk (Ext.block hw' HK1.out)]; simpa using hv) Tryz.underlying35 rfl (by kernel_rfl)
    intro K hK; go_simp; refine hK _ _ ?_; clear hK K
    apply wpL_some rfl rfl
    · intro w' hw' hn'
      go_simp
      refine ⟨Ext.rfl' _, ?_⟩
      refine (HC.out _ (hxw.out.tr hw')).mono ?_
      rintro e w2 ⟨u, rfl, hu, hx⟩
      exact ⟨_, rfl, hx, u, rfl, .inl (hu.low (hxw.out.tr hw').size)⟩
    intro v w' hw' hD' hv
    obtain ⟨u, rfl, hu⟩ := hv
    obtain ⟨au, nu, cu, rfl⟩ := hu.rd.shape
    clear hw' hD' hu w'
    intro K hK; go_simp; refine hK _ _ ?_; clear hK K
    iterate 5
      apply wpL_none rfl rfl
      · intro w' hw' hn'; go_simp; exact rfl
      intro K hK; go_simp; refine hK _ _ ?_; clear hK K
    refine wpL_nil ?_
    intro w2 hx2 hD
    have hx2 : Ext W1 w2 := hx2
    have hu := hD 7
    simp [Loose.upd] at hu
    obtain ⟨u, he, hu⟩ := hu
    cases he
    clear hD c4 HC
    by_cases hE : E = 0
    · subst hE
      have hU3 : Hid (PP = hput p.h T) := by rw [hU2.out]; rfl
      have k1 := hx2.block HK1.out
      have hxw2 := Lib.hid (hxw.out.tr hx2)
      obtain ⟨rh, -, -, -⟩ := pk_rng k1
      clear k1 HK1 hU2
      have HI := Lib.hid (hput_any p.h _ _ T w2 HP.out.h (R.out.h.ext hxw2.out) hu.rd HL.out.h HT.out)
      rw [← hU3.out] at HI
      go_wp2_with (refine wpList_load_midG rfl 26 _ rfl w.heap.size 0 rfl _ _ rh Tryz.underlying26 rfl (by kernel_rfl) ?_)
      refine HI.out.mono ?_
      rintro e w3 ⟨v, rfl, hv, hx3⟩
      obtain ⟨a3, n3, c3, rfl⟩ := hv.rd.shape
      clear rh HI
      go_wp2_with fail
      go_ret2
      exact ⟨_, rfl, .inl (hv.low hxw2.out.size), hxw2.out.tr hx3⟩
    · have bE : (E != 0) = true := by simpa using hE
      go_wp2_with fail
      go_ret2
      obtain rfl : PP = ([], E) := by rw [hU2.out, if_pos (by simpa using hE)]
      exact ⟨_, rfl, .inr ⟨_, rfl, rfl⟩, hxw.out.tr hx2⟩
  exact absurd hM2 (by simp [hasP, h6, h17, h1])
end Go.Proofs.YtbaidlkjbdeceaaGreat
