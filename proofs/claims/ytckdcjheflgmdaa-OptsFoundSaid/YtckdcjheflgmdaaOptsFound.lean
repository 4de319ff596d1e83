/-
  Proved here: the law OptsFound returns true. Condition: each slice at most 2^47 - 4096 bytes (the form's own reach).
-/
import Derived.Test.YtckdcjheflgmdaaOptFnd
import Derived.Test.YtckdcjheflgmdaaRef5W
import Derived.Deep.Cut
namespace Go.Proofs.Ytckdcjheflgmdaa.optsFound
set_option maxRecDepth 16000
open Go.ChangeShapes Go.WideShapes Go.ChangeAt Go.RowKit Go.Cul Go.Loose
set_option linter.unusedVariables false
attribute [local go_sem] Loose.Still Loose.Upon Loose.vUpon

theorem src_blk {w : World} {base b : Nat} {ys : List (Op1 × Value)} {t : TypeId} (hb : w.heap[b]? = some (.cells (rowsO ys).toArray t)) (hd : ∀ y ∈ ys, DatO base w y.2 y.1.2) (hm : ys.length ≤ maxLen) :
    SrcO base w (.slice (some ⟨b, 0, none⟩) ys.length ys.length) (ys.map (·.1)) := by
  refine ⟨_, ys.length, by rw [List.length_map], by rw [List.length_map]; exact Nat.le_refl _, hm, .inr ⟨b, 0, rfl, fun i hi => ?_⟩⟩
  rw [List.length_map] at hi
  obtain ⟨c0, c1⟩ := rowsO_at ys i hi
  have hx : (ys.map (·.1)).getD i (0, []) = (ys.getD i ((0, []), undef)).1 := by simp [List.getD, hi]
  refine ⟨(ys.getD i ((0, []), undef)).2, ?_, ?_, ?_⟩
  · rw [Nat.zero_add, cell_blk hb, hx]; simpa using c0
  · rw [Nat.zero_add, cell_blk hb]; simpa using c1
  · rw [hx]; exact hd _ (by simp [List.getD, hi])
/-- From the arguments' reading. -/
theorem rdb_of_rows {w : World} {v : Value} (h : Reads w (.rows 2 8 (.agg 2 (.more 1 (.int .u32) (.more 1 (.int .u32) .done)))) [v]) : ∃ bs, RdB w v bs ∧ okB bs := by
  simp only [Reads] at h
  obtain ⟨v', a, m, cap, hv, rfl, hmc, hc, hb, hel⟩ := h
  obtain rfl : v = .slice a m cap := by simpa using hv
  have hch : ∀ i, ∃ o : Bk, i < m → (((0 ≤ o.1 ∧ o.1 ≤ 4294967295) ∧ (0 ≤ o.2 ∧ o.2 ≤ 4294967295)) ∧ ∀ b off, a = some ⟨b, off, none⟩ → w.cell? ⟨b, off + i * 2, none⟩ = some (.int .u32 o.1) ∧ w.cell? ⟨b, off + i * 2 + 1, none⟩ = some (.int .u32 o.2)) := by
    intro i
    by_cases hi : i < m
    · rcases hel with h0 | ⟨b, off, rfl, hel⟩
      · omega
      obtain ⟨es, hl, hcell, _, _, rfl, ⟨x, rfl, wx⟩, _, _, rfl, ⟨y, rfl, wy⟩, rfl⟩ := hel i hi
      refine ⟨(x, y), fun _ => ⟨⟨wf_u32 wx, wf_u32 wy⟩, fun b' off' he => ?_⟩⟩
      cases he
      exact ⟨by simpa using hcell 0 (by omega), by simpa using hcell 1 (by omega)⟩
    · exact ⟨(0, 0), fun h => absurd h hi⟩
  obtain ⟨f, hf⟩ : ∃ f : Nat → Bk, ∀ i, i < m → (((0 ≤ (f i).1 ∧ (f i).1 ≤ 4294967295) ∧ (0 ≤ (f i).2 ∧ (f i).2 ≤ 4294967295)) ∧ ∀ b off, a = some ⟨b, off, none⟩ → w.cell? ⟨b, off + i * 2, none⟩ = some (.int .u32 (f i).1) ∧ w.cell? ⟨b, off + i * 2 + 1, none⟩ = some (.int .u32 (f i).2)) := ⟨fun i => Classical.choose (hch i), fun i hi => Classical.choose_spec (hch i) hi⟩
  have hlen : ((List.range m).map f).length = m := by simp
  have hget : ∀ i, i < m → ((List.range m).map f).getD i (0, 0) = f i := fun i hi => by simp [List.getD, hi]
  refine ⟨(List.range m).map f, ⟨a, cap, by rw [hlen], by rw [hlen]; exact hmc, hc, ?_⟩, ?_⟩
  · rcases hel with h0 | ⟨b, off, rfl, _⟩
    · left; simp [h0]
    · refine .inr ⟨b, off, rfl, fun i hi => ?_⟩
      rw [hlen] at hi
      rw [hget i hi]
      exact (hf i hi).2 b off rfl
  · intro o ho
    obtain ⟨i, hi, rfl⟩ := List.mem_map.1 ho
    exact (hf i (by simpa using hi)).1
theorem RdB.take {w : World} {a : Option Addr} {n cap : Nat} {os : List Bk} (h : RdB w (.slice a n cap) os) {m : Nat} (hm : m ≤ os.length) : RdB w (.slice a m cap) (os.take m) := by
  obtain ⟨a', cap', he, h1, h2, h3⟩ := h
  cases he
  have hl : (os.take m).length = m := by rw [List.length_take]; omega
  refine ⟨a, cap, by rw [hl], by omega, h2, ?_⟩
  rcases h3 with h3 | ⟨b, o, rfl, h3⟩
  · left; rw [h3]; simp
  · refine .inr ⟨b, o, rfl, fun i hi => ?_⟩
    rw [hl] at hi
    have hg : (os.take m).getD i (0, 0) = os.getD i (0, 0) := by simp [List.getD, hi]
    rw [hg]
    exact h3 i (by omega)

set_option maxHeartbeats 2000000 in
theorem walk (w : World) (v0 : Value) (h0 : Reads w (.rows 2 32 (.agg 2 (.more 1 (.int .u8) (.more 1 (.ints .u8 1) .done)))) [v0]) (n : Int) (hn : 0 ≤ n ∧ n ≤ 65535) (v2 : Value) (h2 : Reads w (.rows 2 8 (.agg 2 (.more 1 (.int .u32) (.more 1 (.int .u32) .done)))) [v2]) :
    Calls Try.prog 8 #[v0, .int .u16 n, v2] w fun e w' => e = .returned (.bool true) ∧ Ext w w' := by
  obtain ⟨os, hr, hby, -, -⟩ := rdo_of_rows h0
  obtain ⟨bb, hbr, hbo⟩ := rdb_of_rows h2
  clear h0 h2
  obtain ⟨a0, c0, rfl⟩ := hr.shape
  obtain ⟨a, cap, rfl, hc1, hc2, -⟩ := id hbr
  obtain ⟨m, hm⟩ : ∃ m : Nat, m = min bb.length 4 := ⟨_, rfl⟩
  have hml : m ≤ bb.length := by omega
  have hm4 : m ≤ 4 := by omega
  have hv1 := RdB.take hbr hml
  have hmin : (if (4 : Int) < (bb.length : Int) then (4 : Int) else (bb.length : Int)) = (m : Int) := by split <;> omega
  have hLl : (bb.take m).length = m := by rw [List.length_take]; omega
  have HOB := Lib.hid (show okB (bb.take m) from fun b hb => hbo b (List.mem_of_mem_take hb))
  have HLl := Lib.hid hLl
  have HV := Lib.hid hv1
  have hmc : m ≤ cap := by omega
  unfold maxLen at hc2
  clear hbr hbo hm hLl hv1
  generalize bb.take m = bs at *
  have HFB := Lib.hid (fewM_byt hby)
  have hfl := fewM_len os
  have H300 : Hid (∀ o ∈ fewM os, o.2.length ≤ 140737488351232) := by
    intro o ho
    obtain ⟨x, hx, rfl⟩ := List.mem_map.1 ho
    unfold few1
    dsimp only
    rw [List.length_take]; omega
  have HF := Lib.hid (fun (w' : World) (hx : Ext w w') => few_any (.slice a0 os.length c0) os w' (hr.ext hx))
  clear hr hby
  generalize fewM os = M at *
  go_enter Try.func8, Try.ntmps8
  go_upto_region 1 with (fail)
  refine wp_region_grow [(1, fun v w' => RdO w' v M)] ?_ (by kernel_rfl) (by kernel_rfl) ?_
  · exact lasts_cons (fun _ _ _ hx h => RdO.ext h hx) lasts_nil
  iterate 1
    apply wpL_none rfl rfl
    · intro w' hw' hn'; go_simp; exact rfl
    intro K hK; go_simp; refine hK _ _ ?_; clear hK K
  apply wpL_some rfl rfl
  · intro w' hw' hn'
    go_simp
    refine ⟨Ext.rfl' _, ?_⟩
    refine (HF.out w' hw').mono ?_
    rintro e w2 ⟨u, rfl, hu, hx⟩
    exact ⟨_, rfl, hx, hu.rdo⟩
  intro v1 w1 hw1 hD1 hv1
  obtain ⟨a1, c1, rfl⟩ := hv1.shape
  clear hw1 hD1 hv1 w1
  intro K hK; go_simp; refine hK _ _ ?_; clear hK K
  iterate 7
    apply wpL_none rfl rfl
    · intro w' hw' hn'; go_simp; exact rfl
    intro K hK; go_simp; refine hK _ _ ?_; clear hK K
  refine wpL_nil ?_
  intro w1 hw1 hD1
  have hv1 := hD1 1
  simp [Loose.upd] at hv1
  clear hD1 HF
  go_wp2_with fail
  go_loopw [0, 7] (fun u kd wr => ∃ k : Nat, k ≤ 4 ∧ kd = .int .u8 (2 + (k : Int)) ∧ RdO wr u (wo4 M k) ∧ Ext w1 wr) (fun _ kd _ => 6 - (intOf kd).toNat)
  case atStart => exact ⟨0, by omega, rfl, hv1, Ext.rfl' _⟩
  case round =>
    obtain ⟨k, hk, rfl, hl, hx⟩ := hrel
    obtain ⟨al, cl, rfl⟩ := hl.shape
    by_cases hlt : k < 4
    · have hW := Lib.hid (without_any _ (wo4 M k) (2 + (k : Int)) wr hl (by have := wo4_len M k; omega) (fun o ho => H300.out o (wo4_mem ho)))
      have h5 : (2 : Int) + (k : Int) ≤ 5 := by omega
      clear hl
      go_wp2_with fail
      refine hW.out.mono ?_
      rintro e w2 ⟨u2, rfl, hu2, hx2⟩
      have ho2 := hu2.rdo
      obtain ⟨a2, c2, rfl⟩ := ho2.shape
      clear hu2
      have hwr : IntKind.u8.wrap ((2 : Int) + (k : Int) + 1) = 2 + ((k + 1 : Nat) : Int) := by simp [IntKind.wrap, IntKind.bits, IntKind.signed]; omega
      go_wp2_with fail
      go_roundw
      case rel => exact ⟨k + 1, by omega, by first | rfl | (congr 1; omega), ho2, hx.tr hx2⟩
      case measure => simp [intOf]; omega
    · obtain rfl : k = 4 := by omega
      have hL0 := wo4_no M
      have hLl := wo4_len M 4
      have hLb : BytO (wo4 M 4) := fun o ho => HFB.out o (wo4_mem ho)
      have hL3 : ∀ o ∈ wo4 M 4, o.2.length ≤ 140737488351232 := fun o ho => H300.out o (wo4_mem ho)
      generalize wo4 M 4 = L at *
      have hxr : Ext w wr := Ext.tr hw1 hx
      have HL0 := Lib.hid hL0
      have HLb := Lib.hid hLb
      have HL3 := Lib.hid hL3
      have HV2 := Lib.hid (HV.out.ext hxr)
      have HRL := Lib.hid hl
      clear hL0 hLb hL3 HV H300 HFB hx hw1 hv1 hl
      have h5 : ¬ ((2 : Int) + ((4 : Nat) : Int) ≤ 5) := by omega
      go_upto_region 6 with (fail)
      obtain ⟨q, hq⟩ : ∃ q : Int, Hid (q = n % 15) := ⟨_, rfl⟩
      obtain ⟨p, hp⟩ : ∃ p : Int, Hid (p = (n + 1) % 65536) := ⟨_, rfl⟩
      have hq14 : 0 ≤ q ∧ q ≤ 14 := by have := hq.out; omega
      have hp16 : 0 ≤ p ∧ p ≤ 65535 := by have := hp.out; omega
      have hr1 : n % 15 = q := hq.out.symm
      have hr2 : Int.tmod n 15 = q := by rw [Int.tmod_eq_emod_of_nonneg hn.1]; exact hr1
      have hr3 : IntKind.i64.wrap q = q := by rw [IntWalk.i64_in _ (by omega)]
      have hr4 : IntKind.u16.wrap q = q := by simp [IntKind.wrap, IntKind.bits, IntKind.signed]; omega
      have hr5 : IntKind.u16.wrap (n + 1) = p := by rw [hp.out]; simp [IntKind.wrap, IntKind.bits, IntKind.signed]
      go_wp2_with (at_builtin; go_must (refine wpList_appM rfl (.tmp 35) (.tmp 36) rfl wr.heap.size _ [] rfl (MiO.empty _ _ _) _ L rfl (SrcO.of HRL.out (Nat.le_refl _) (Ext.new _ _)) (by simp; omega) (by simp) ?_); intro va wa hma hxa)
      rw [List.nil_append] at hma
      have hya := hxa wr (Nat.le_refl _) (Ext.new _ _)
      clear hxa
      obtain ⟨aa, ca, rfl⟩ := hma.rdo.shape
      refine (withmss_any n wa hn).mono ?_
      rintro e wb ⟨u1, rfl, hu1, hyb⟩
      obtain ⟨b1, n1, d1, rfl⟩ := hu1.rd.shape
      go_wp2_with fail
      refine (withscale_any q q wb (by omega) (by split <;> (try split) <;> omega)).mono ?_
      rintro e wc ⟨u2, rfl, hu2, hyc⟩
      obtain ⟨b2, n2, d2, rfl⟩ := hu2.rd.shape
      go_wp2_with fail
      refine (permit_any wc).mono ?_
      rintro e wd ⟨rfl, hyd⟩
      go_wp2_with fail
      refine (withmss_any p wd hp16).mono ?_
      rintro e we ⟨u3, rfl, hu3, hye⟩
      obtain ⟨b3, n3, d3, rfl⟩ := hu3.rd.shape
      have hsb := hya.size
      have hsc := hyb.size
      have hsd := hyc.size
      have hse := hyd.size
      have hye2 := hyd.tr hye
      have hye3 := hyc.tr hye2
      have hwe := hya.tr (hyb.tr hye3)
      have hD1 := (hu1.low (base' := wr.heap.size) (by omega)).kept hye3
      have hD2 := (hu2.low (base' := wr.heap.size) (by omega)).kept hye2
      have hD3 := hu3.low (base' := wr.heap.size) (by omega)
      have hMa := hma.ext (hyb.tr hye3)
      clear hu1 hu2 hu3 hma hya hyb hyc hyd hye hye2 hye3 hsb hsc hsd hse
      have hall : Hid (∀ (o : Obj) (y : Op1 × Value), y ∈ [((2, by2 n), Value.slice b1 n1 d1), ((3, [q]), .slice b2 n2 d2), ((4, []), .slice none 0 0), ((2, by2 p), .slice b3 n3 d3)] → DatO wr.heap.size (we.alloc o) y.2 y.1.2) := by
        intro o y hy
        simp only [List.mem_cons, List.not_mem_nil, or_false] at hy
        rcases hy with rfl | rfl | rfl | rfl
        · exact .inl (hD1.kept (Ext.new _ _))
        · exact .inl (hD2.kept (Ext.new _ _))
        · exact .inl (.inr ⟨_, rfl, rfl⟩)
        · exact .inl (hD3.kept (Ext.new _ _))
      have hHMa := Lib.hid hMa
      clear hD1 hD2 hD3 hMa
      have hsz := hwe.size
      go_wp2_with (at_builtin; go_must (refine wpList_appM rfl (.tmp 37) (.tmp 48) rfl wr.heap.size _ L rfl (hHMa.out.ext (Ext.new _ _)) _ [(2, by2 n), (3, [q]), (4, []), (2, by2 p)] rfl (src_blk (ys := [((2, by2 n), .slice b1 n1 d1), ((3, [q]), .slice b2 n2 d2), ((4, []), .slice none 0 0), ((2, by2 p), .slice b3 n3 d3)]) (heap_alloc_new _ _) (hall.out _) (by simp [maxLen])) (by simp; omega) (by simp; omega) ?_); intro vf wf hmf hxf)
      have hyf := hxf wr (Nat.le_refl _) (hwe.al _)
      clear hxf hall hHMa
      obtain ⟨L2, hL2⟩ : ∃ L2 : List Op1, Hid (L2 = L ++ [(2, by2 n), (3, [q]), (4, []), (2, by2 p)]) := ⟨_, Lib.hid rfl⟩
      have hL2l : Hid (L2.length ≤ 24) := by unfold Hid; rw [hL2.out]; simp; omega
      rw [← hL2.out] at hmf
      obtain ⟨af, cf, rfl⟩ := hmf.rdo.shape
      have hws := withsacks_any _ bs wf (HV2.out.ext hyf) HOB.out
      have hce : (bs = [] ∧ owith bs = ((0, []), 1)) ∨ (bs ≠ [] ∧ owith bs = ((5, flatB bs), 0)) := by
        by_cases h : bs = []
        · subst h; exact .inl ⟨rfl, rfl⟩
        · refine .inr ⟨h, ?_⟩
          have h1 : bs.length ≠ 0 := fun h0 => h (List.eq_nil_of_length_eq_zero h0)
          unfold owith
          rw [if_neg h1, if_neg (by rw [HLl.out]; omega)]
      obtain ⟨kw, Dw, Ew, how⟩ : ∃ kw Dw Ew, owith bs = ((kw, Dw), Ew) := ⟨_, _, _, rfl⟩
      rw [how] at hws hce
      dsimp only at hws
      have HWS := Lib.hid hws
      have HCE := Lib.hid hce
      have HMF := Lib.hid hmf
      have hfsz := hyf.size
      clear hws hce how hmf
      go_wp2_with fail
      refine HWS.out.mono ?_
      rintro e wg ⟨ug, rfl, hug, hyg⟩
      obtain ⟨ag, ng, cg, rfl⟩ := hug.rd.shape
      have hug := hug.low (base' := wr.heap.size) (by omega)
      go_upto_region 8 with (fail)
      have kz := heap_alloc_new wg (.cells #[.int .u8 kw, .slice ag ng cg] 31)
      have hyh := Ext.new wg (.cells #[.int .u8 kw, .slice ag ng cg] 31)
      generalize World.alloc wg _ = wh at *
      have hug := hug.kept hyh
      have hmf := HMF.out.ext (hyg.tr hyh)
      have hyh2 := hyf.tr (hyg.tr hyh)
      have hhsz := hyh2.size
      have HUG := Lib.hid hug
      have HMF := Lib.hid hmf
      have z0 := cell_blk kz 0
      have z1 := cell_blk kz 1
      simp at z0 z1
      clear hug hmf HWS hyg hyh
      go_upto_if 56 with (fail)
      go_cut [8] from 57 (fun u wc => RdO wc u (L ++ made n q bs) ∧ Ext wr wc)
      case first =>
        have hmd : L ++ made n q bs = L2 ++ (if bs = [] then [] else [(5, flatB bs)]) := by rw [hL2.out, List.append_assoc]; unfold made; rw [hp.out]
        rcases HCE.out with ⟨rfl, he⟩ | ⟨hne, he⟩
        · cases he
          rw [if_pos rfl, List.append_nil] at hmd
          have HMD := Lib.hid hmd
          clear hmd
          go_wp2_with fail
          go_meet
          case rel => exact ⟨by rw [HMD.out]; exact HMF.out.rdo, hyh2⟩
        · cases he
          rw [if_neg hne] at hmd
          have HMD := Lib.hid hmd
          clear hmd hne
          go_wp2_with (at_builtin; go_must (refine wpList_appM rfl (.tmp 57) (.tmp 59) rfl wr.heap.size _ L2 rfl (HMF.out.ext (Ext.new _ _)) _ [(5, flatB bs)] rfl (src_one (heap_alloc_new _ _) (.inl (HUG.out.kept (Ext.new _ _)))) (by have := hL2l.out; simp; omega) (by simp; omega) ?_); intro vi wi hmi hxi)
          have hyi := hxi wr (Nat.le_refl _) (hyh2.al _)
          clear hxi
          go_wp2_with fail
          go_meet
          case rel => exact ⟨by rw [HMD.out]; exact hmi.rdo, hyi⟩
      obtain ⟨hro, hyc⟩ := hcut
      clear HMF HUG HCE kz z0 z1 hL2 hL2l
      have hbs4 : bs.length ≤ 4 := by rw [HLl.out]; exact hm4
      obtain ⟨f1, f2⟩ := made_mss HL0.out n q hn bs
      obtain ⟨f3, f4⟩ := made_scale HL0.out n q hq14 bs
      have f5 := made_ok HL0.out n q bs
      have f6 := made_sacks HL0.out n q hbs4 HOB.out
      have f7 := made_away HL0.out n q bs
      have f8 := made_byt HLb.out (n := n) (m := q) hn hq14 HOB.out
      have f9 : ∀ o ∈ L ++ made n q bs, o.2.length ≤ 140737488351232 := by
        intro o ho
        rcases List.mem_append.1 ho with ho | ho
        · exact HL3.out o ho
        · unfold made at ho
          rcases List.mem_append.1 ho with ho | ho
          · simp only [List.mem_cons, List.not_mem_nil, or_false] at ho
            rcases ho with rfl | rfl | rfl | rfl <;> simp [by2]
          · split at ho
            · cases ho
            · obtain rfl : o = _ := by simpa using ho
              rw [flatB_len]; omega
      have f10 : (L ++ made n q bs).length ≤ 100 := by
        unfold made
        split <;> simp <;> omega
      obtain ⟨N, hN⟩ : ∃ N, N = L ++ made n q bs := ⟨_, rfl⟩
      rw [← hN] at f1 f2 f3 f4 f5 f6 f7 f8 f9 f10 hro
      clear hN hbs4
      have F8 := Lib.hid f8
      have F9 := Lib.hid f9
      have F10 := Lib.hid f10
      have F7 := Lib.hid f7
      have HRO := Lib.hid hro
      obtain ⟨a8, c8, rfl⟩ := hro.shape
      have hmss := omss_any _ N wc hro f8
      have hsca := fun (w' : World) (hx : Ext wc w') => oscale_any _ N w' (hro.ext hx) f8
      have hsak := fun (w' : World) (hx : Ext wc w') => osacks_any _ N w' (hro.ext hx) f8
      have hsok := fun (w' : World) (hx : Ext wc w') => osackok_any _ N w' (hro.ext hx)
      rw [f1, f2] at hmss
      rw [f3, f4] at hsca
      rw [f6] at hsak
      rw [f5] at hsok
      have HMSS := Lib.hid hmss
      have HSCA := Lib.hid hsca
      have HSAK := Lib.hid hsak
      have HSOK := Lib.hid hsok
      clear f1 f2 f3 f4 f5 f6 f7 f8 f9 f10 hro hmss hsca hsak hsok
      go_wp2_with fail
      refine HMSS.out.mono ?_
      rintro e x1 ⟨rfl, y1⟩
      go_wp2_with fail
      refine (HSCA.out _ y1).mono ?_
      rintro e x2 ⟨rfl, y2⟩
      have y2 := y1.tr y2
      go_wp2_with fail
      refine (HSAK.out _ y2).mono ?_
      rintro e x3 ⟨u3, rfl, hu3, y3⟩
      have y3 := y2.tr y3
      have hu3 := hu3.rdb
      obtain ⟨a9, c9, hve⟩ := hu3.shape
      rw [HLl.out] at hve
      subst hve
      have HU3 := Lib.hid hu3
      clear hu3 y1 y2
      go_wp2_with fail
      refine (HSOK.out _ y3).mono ?_
      rintro e x4 ⟨rfl, y4⟩
      have HU4 := Lib.hid (HU3.out.ext y4)
      have y4 := y3.tr y4
      have HV4 := Lib.hid (HV2.out.ext (hyc.tr y4))
      clear y3 HU3 HMSS HSCA HSAK HSOK
      go_upto_region 15 with (fail)
      go_wp2_with fail
      go_loopw [105] (fun i wq => ∃ k : Nat, k ≤ m ∧ i = .int .i64 k ∧ Ext x4 wq) (fun i _ => m - (intOf i).toNat)
      case atStart => exact ⟨0, Nat.zero_le _, rfl, Ext.rfl' _⟩
      case round =>
        obtain ⟨k, hk, rfl, hx⟩ := hrel
        by_cases hlt : k < m
        · have hkb : k < bs.length := by rw [HLl.out]; exact hlt
          obtain ⟨ax, cx, he, hx1, hx2, hx3⟩ := HU4.out
          rw [HLl.out] at he hx1
          cases he
          rcases hx3 with h0 | ⟨b, o, rfl, hrw⟩
          · rw [h0] at hkb; simp at hkb
          obtain ⟨ax, cx, he, hx1', hx2', hx3⟩ := HV4.out
          rw [HLl.out] at he hx1'
          cases he
          rcases hx3 with h0 | ⟨b', o', rfl, hrw'⟩
          · rw [h0] at hkb; simp at hkb
          obtain ⟨e0, e1⟩ := hrw k hkb
          obtain ⟨z0, z1⟩ := hrw' k hkb
          have e0 := hx.cell e0
          have e1 := hx.cell e1
          have z0 := hx.cell z0
          have z1 := hx.cell z1
          generalize bs.getD k (0, 0) = y at *
          obtain ⟨x, y⟩ := y
          dsimp only at e0 e1 z0 z1
          have hxx : (x == x) = true := by simp
          have hyy : (y == y) = true := by simp
          clear hrw hrw' hkb
          go_upto_region 18 with (fail)
          refine wp_region_grow [] lasts_nil (by kernel_rfl) (by kernel_rfl) ?_
          iterate 9
            apply wpL_none rfl rfl
            · intro w' hw' hn'; have e0 := Ext.cell hw' e0; have e1 := Ext.cell hw' e1; have z0 := Ext.cell hw' z0; have z1 := Ext.cell hw' z1; go_simp; exact rfl
            intro K hK; go_simp; refine hK _ _ ?_; clear hK K
          refine wpL_nil ?_
          intro w5 hw5 hD5
          clear hD5 e0 e1 z0 z1
          go_wp2_with fail
          go_roundw
          case rel => exact ⟨k + 1, by omega, by go_num, hx.tr hw5⟩
          case measure => simp [intOf]; omega
        · obtain rfl : k = m := by omega
          have hx4 := y4.tr hx
          have hw2 := fun (kd : Int) (w' : World) (hx : Ext wc w') => without_any _ N kd w' (HRO.out.ext hx) (by have := F10.out; omega) F9.out
          have hbo := fun (kd : Int) => (fun o ho => F8.out o (mem_owo.1 ho).1 : BytO (owo N kd))
          have HW := Lib.hid hw2
          have HBO := Lib.hid hbo
          clear hw2 hbo y4 hx
          go_wp2_with fail
          refine (HW.out 2 _ hx4).mono ?_
          rintro e x5 ⟨u5, rfl, hu5, y5⟩
          have HA := Lib.hid (omss_any _ _ x5 hu5.rdo (HBO.out 2))
          rw [made_no2] at HA
          have y5 := hx4.tr y5
          obtain ⟨a5, c5, rfl⟩ := hu5.rdo.shape
          clear hu5 hx4
          go_wp2_with fail
          refine HA.out.mono ?_
          rintro e x6 ⟨rfl, y6⟩
          have y6 := y5.tr y6
          clear HA y5
          go_wp2_with fail
          refine (HW.out 3 _ y6).mono ?_
          rintro e x7 ⟨u7, rfl, hu7, y7⟩
          have HA := Lib.hid (oscale_any _ _ x7 hu7.rdo (HBO.out 3))
          rw [made_no2] at HA
          have y7 := y6.tr y7
          obtain ⟨a7, c7, rfl⟩ := hu7.rdo.shape
          clear hu7 y6
          go_wp2_with fail
          refine HA.out.mono ?_
          rintro e x8 ⟨rfl, y8⟩
          have y8 := y7.tr y8
          clear HA y7
          go_wp2_with fail
          refine (awake5_any _).mono ?_
          rintro e x9 ⟨rfl, y9⟩
          have y9 := y8.tr y9
          clear y8
          go_wp2_with fail
          refine (HW.out 4 _ y9).mono ?_
          rintro e x10 ⟨u10, rfl, hu10, y10⟩
          have HA := Lib.hid (osackok_any _ _ x10 hu10.rdo)
          rw [made_no2] at HA
          have y10 := y9.tr y10
          obtain ⟨a10, c10, rfl⟩ := hu10.rdo.shape
          clear hu10 y9
          go_wp2_with fail
          refine HA.out.mono ?_
          rintro e x11 ⟨rfl, y11⟩
          have y11 := y10.tr y11
          clear HA y10
          go_wp2_with fail
          refine (HW.out 5 _ y11).mono ?_
          rintro e x12 ⟨u12, rfl, hu12, y12⟩
          have HA := Lib.hid (osacks_any _ _ x12 hu12.rdo (HBO.out 5))
          rw [made_nos] at HA
          have y12 := y11.tr y12
          obtain ⟨a12, c12, rfl⟩ := hu12.rdo.shape
          clear hu12 y11
          go_wp2_with fail
          refine HA.out.mono ?_
          rintro e x13 ⟨u13, rfl, hu13, y13⟩
          have y13 := y12.tr y13
          obtain ⟨a13, c13, rfl⟩ := hu13.rdb.shape
          clear HA y12 hu13
          go_wp2_with fail
          refine (HW.out 2 _ y13).mono ?_
          rintro e x14 ⟨u14, rfl, hu14, y14⟩
          have hn2 := owo_len N 2
          have hn3 := owo_len (owo N 2) 3
          have hn4 := owo_len (owo (owo N 2) 3) 4
          have hf10 := F10.out
          have HA := Lib.hid (without_any _ (owo N 2) 3 x14 hu14.rdo (by omega) (fun o ho => F9.out o (mem_owo.1 ho).1))
          have y14 := y13.tr y14
          obtain ⟨a14, c14, rfl⟩ := hu14.rdo.shape
          clear hu14 y13
          have hn3' : (owo (owo N 2) 3).length ≤ 100000 := by omega
          have hn4' : (owo (owo (owo N 2) 3) 4).length ≤ 100000 := by omega
          have HN3 := Lib.hid hn3'
          have HN4 := Lib.hid hn4'
          clear hn2 hn3 hn4 hf10 hn3' hn4'
          go_wp2_with fail
          refine HA.out.mono ?_
          rintro e x15 ⟨u15, rfl, hu15, y15⟩
          have HB := Lib.hid (without_any _ (owo (owo N 2) 3) 4 x15 hu15.rdo HN3.out (fun o ho => F9.out o (mem_owo.1 (mem_owo.1 ho).1).1))
          have y15 := y14.tr y15
          obtain ⟨a15, c15, rfl⟩ := hu15.rdo.shape
          clear hu15 y14 HA
          go_wp2_with fail
          refine HB.out.mono ?_
          rintro e x16 ⟨u16, rfl, hu16, y16⟩
          have HA := Lib.hid (without_any _ (owo (owo (owo N 2) 3) 4) 5 x16 hu16.rdo HN4.out (fun o ho => F9.out o (mem_owo.1 (mem_owo.1 (mem_owo.1 ho).1).1).1))
          rw [F7.out] at HA
          have y16 := y15.tr y16
          obtain ⟨a16, c16, rfl⟩ := hu16.rdo.shape
          clear hu16 y15 HB
          go_wp2_with fail
          refine HA.out.mono ?_
          rintro e x17 ⟨u17, rfl, hu17, y17⟩
          have y17 := y16.tr y17
          have HS := Lib.hid (osame_any _ _ L L x17 hu17.rdo (HRL.out.ext (hyc.tr y17)) HLb.out HLb.out)
          rw [show decide (L = L) = true from decide_eq_true rfl] at HS
          obtain ⟨a17, c17, rfl⟩ := hu17.rdo.shape
          clear hu17 y16 HA
          go_wp2_with fail
          refine HS.out.mono ?_
          rintro e x18 ⟨rfl, y18⟩
          go_wp2_with fail
          go_ret
          exact ⟨rfl, hxr.tr (hyc.tr (y17.tr y18))⟩
end Go.Proofs.Ytckdcjheflgmdaa.optsFound
