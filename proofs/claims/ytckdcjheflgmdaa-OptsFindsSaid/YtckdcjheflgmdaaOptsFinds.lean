/-
  Proved here: the law OptsFinds returns true. Condition: each slice at most 2^47 - 4096 bytes (the form's own reach).
-/
import Derived.Test.YtckdcjheflgmdaaOptBk
import Derived.Test.YtckdcjheflgmdaaRef5L
import Derived.Deep.Cut
namespace Go.Proofs.Ytckdcjheflgmdaa.optsFinds
set_option maxRecDepth 16000
open Go.ChangeShapes Go.WideShapes Go.ChangeAt Go.RowKit Go.Cul Go.Loose
set_option linter.unusedVariables false
attribute [local go_sem] Loose.Still Loose.Upon Loose.vUpon

theorem owith_byt {bs : List Bk} (h : okB bs) : Byt (owith bs).1.2 ∧ (0 ≤ (owith bs).1.1 ∧ (owith bs).1.1 ≤ 255) := by
  unfold owith
  split
  · exact ⟨(fun x hx => by cases hx), by simp⟩
  · split
    · exact ⟨(fun x hx => by cases hx), by simp⟩
    · refine ⟨fun x hx => ?_, by simp⟩
      obtain ⟨b, hb1, hx⟩ := List.mem_flatMap.1 hx
      obtain ⟨q1, q2⟩ := h b hb1
      rcases List.mem_append.1 hx with hx | hx
      · exact by4_byt _ q1 x hx
      · exact by4_byt _ q2 x hx
def AggR (k : Int) (D : List Int) (v : Value) (w : World) : Prop := ∃ u, v = .agg #[.int .u8 k, u] ∧ Rd .u8 w u D
theorem AggR.ext {k : Int} {D : List Int} {v : Value} {w w' : World} (h : AggR k D v w) (hx : Ext w w') : AggR k D v w' := by
  obtain ⟨u, h1, h2⟩ := h; exact ⟨u, h1, h2.ext hx⟩
theorem rdo_4 {w : World} {b : Nat} {k1 k2 k3 k4 : Int} {u1 u2 u3 u4 : Value} {l1 l2 l3 l4 : List Int} {t : TypeId} (hb : w.heap[b]? = some (.cells #[.int .u8 k1, u1, .int .u8 k2, u2, .int .u8 k3, u3, .int .u8 k4, u4] t))
    (h1 : Rd .u8 w u1 l1) (h2 : Rd .u8 w u2 l2) (h3 : Rd .u8 w u3 l3) (h4 : Rd .u8 w u4 l4) : RdO w (.slice (some ⟨b, 0, none⟩) 4 4) [(k1, l1), (k2, l2), (k3, l3), (k4, l4)] := by
  refine SrcO.rdo (base := w.heap.size) (src_blk (ys := [((k1, l1), u1), ((k2, l2), u2), ((k3, l3), u3), ((k4, l4), u4)]) hb ?_ (by simp [maxLen]))
  intro y hy
  simp only [List.mem_cons, List.not_mem_nil, or_false] at hy
  rcases hy with rfl | rfl | rfl | rfl
  · exact .inr ⟨w, Nat.le_refl _, Ext.rfl' _, h1⟩
  · exact .inr ⟨w, Nat.le_refl _, Ext.rfl' _, h2⟩
  · exact .inr ⟨w, Nat.le_refl _, Ext.rfl' _, h3⟩
  · exact .inr ⟨w, Nat.le_refl _, Ext.rfl' _, h4⟩

set_option maxHeartbeats 2000000 in
theorem walk (w : World) (v0 : Value) (h0 : Reads w (.rows 2 32 (.agg 2 (.more 1 (.int .u8) (.more 1 (.ints .u8 1) .done)))) [v0]) (n : Int) (hn : -9223372036854775808 ≤ n ∧ n ≤ 9223372036854775807) (v2 : Value) (h2 : Reads w (.rows 2 8 (.agg 2 (.more 1 (.int .u32) (.more 1 (.int .u32) .done)))) [v2]) :
    Calls Try.prog 7 #[v0,   .int .i64 n, v2] w fun e w' => e = .returned (.bool true) ∧ Ext w w' := by
  obtain ⟨os, hr, hby, -, -⟩ := rdo_of_rows h0
  obtain ⟨bb, hbr, hbo⟩ := rdb_of_rows h2
  clear h0 h2
  obtain ⟨a0, c0, rfl⟩ := hr.shape
  obtain ⟨a, cap, rfl, hc1, hc2, -⟩ := id hbr
  obtain ⟨m, hm⟩ : ∃ m : Nat, m = min bb.length 6 := ⟨_, rfl⟩
  have hml : m ≤ bb.length := by omega
  have hm6 : m ≤ 6 := by omega
  have hv1 := RdB.take hbr hml
  have hmin : (if (6 : Int) < (bb.length : Int) then (6 : Int) else (bb.length : Int)) = (m : Int) := by split <;> omega
  have hLl : (bb.take m).length = m := by rw [List.length_take]; omega
  have HOB := Lib.hid (show okB (bb.take m) from fun b hb => hbo b (List.mem_of_mem_take hb))
  have HLl := Lib.hid hLl
  have HV := Lib.hid hv1
  have hmc : m ≤ cap := by omega
  unfold maxLen at hc2
  clear hbr hbo hm hLl hv1
  generalize bb.take m = bs at *
  have HFB := Lib.hid (fewM_byt hby)
  have hfl := fewM_len os
  have H300 : Hid (∀ o ∈ fewM os, o.2.length ≤ 140737488351232) := by
    intro o ho
    obtain ⟨x, hx, rfl⟩ := List.mem_map.1 ho
    unfold few1
    dsimp only
    rw [List.length_take]; omega
  have HF := Lib.hid (fun (w' : World) (hx : Ext w w') => few_any (.slice a0 os.length c0) os w' (hr.ext hx))
  clear hr hby
  generalize fewM os = M at *
  go_enter Try.func7, Try.ntmps7
  go_upto_region 1 with (fail)
  refine wp_region_grow [(1, fun v w' => RdO w' v M)] ?_ (by kernel_rfl) (by kernel_rfl) ?_
  · exact lasts_cons (fun _ _ _ hx h => RdO.ext h hx) lasts_nil
  iterate 1
    apply wpL_none rfl rfl
    · intro w' hw' hn'; go_simp; exact rfl
    intro K hK; go_simp; refine hK _ _ ?_; clear hK K
  apply wpL_some rfl rfl
  · intro w' hw' hn'
    go_simp
    refine ⟨Ext.rfl' _, ?_⟩
    refine (HF.out w' hw').mono ?_
    rintro e w2 ⟨u, rfl, hu, hx⟩
    exact ⟨_, rfl, hx, hu.rdo⟩
  intro v1 w1 hw1 hD1 hv1
  obtain ⟨a1, c1, rfl⟩ := hv1.shape
  clear hw1 hD1 hv1 w1
  intro K hK; go_simp; refine hK _ _ ?_; clear hK K
  iterate 7
    apply wpL_none rfl rfl
    · intro w' hw' hn'; go_simp; exact rfl
    intro K hK; go_simp; refine hK _ _ ?_; clear hK K
  refine wpL_nil ?_
  intro w1 hw1 hD1
  have hv1 := hD1 1
  simp [Loose.upd] at hv1
  clear hD1 HF
  have hxw : Ext w w1 := hw1
  have hms := omss_any _ M w1 hv1 HFB.out
  have hms2 := fun (w' : World) (hx : Ext w1 w') => r5mss_any _ M w' (hv1.ext hx) HFB.out
  have hsc := fun (w' : World) (hx : Ext w1 w') => oscale_any _ M w' (hv1.ext hx) HFB.out
  have hsc2 := fun (w' : World) (hx : Ext w1 w') => r5scale_any _ M w' (hv1.ext hx) HFB.out
  have hok := fun (w' : World) (hx : Ext w1 w') => osackok_any _ M w' (hv1.ext hx)
  have hok2 := fun (w' : World) (hx : Ext w1 w') => r5sackok_any _ M w' (hv1.ext hx)
  have hsk := fun (w' : World) (hx : Ext w1 w') => osacks_any _ M w' (hv1.ext hx) HFB.out
  have hsk2 := fun (w' : World) (hx : Ext w1 w') => r5sacks_any _ M w' (hv1.ext hx) HFB.out
  generalize omss M = x1 at *
  generalize oscale M = x2 at *
  generalize osacks M = kbs at *
  generalize M.any (kl 2 (fun n => decide (n = 2))) = b1 at *
  generalize M.any (kl 3 (fun n => decide (n = 1))) = b2 at *
  generalize M.any (kl 4 (fun n => decide (n = 0))) = b3 at *
  have HMS := Lib.hid hms
  have HMS2 := Lib.hid hms2
  have HSC := Lib.hid hsc
  have HSC2 := Lib.hid hsc2
  have HOK := Lib.hid hok
  have HOK2 := Lib.hid hok2
  have HSK := Lib.hid hsk
  have HSK2 := Lib.hid hsk2
  have hq1 : (x1 != x1) = false := by simp
  have hq2 : (x2 != x2) = false := by simp
  have hq3 : (b1 != b1) = false := by cases b1 <;> rfl
  have hq4 : (b2 != b2) = false := by cases b2 <;> rfl
  have hq5 : (b3 != b3) = false := by cases b3 <;> rfl
  clear hms hms2 hsc hsc2 hok hok2 hsk hsk2 H300 HFB hv1
  go_wp2_with fail
  refine HMS.out.mono ?_
  rintro e y1 ⟨rfl, hx⟩
  go_wp2_with fail
  refine (HMS2.out _ hx).mono ?_
  rintro e y2 ⟨rfl, hy⟩
  have hx := hx.tr hy
  go_wp2_with fail
  refine (HSC.out _ hx).mono ?_
  rintro e y3 ⟨rfl, hy⟩
  have hx := hx.tr hy
  go_wp2_with fail
  refine (HSC2.out _ hx).mono ?_
  rintro e y4 ⟨rfl, hy⟩
  have hx := hx.tr hy
  go_wp2_with fail
  refine (HOK.out _ hx).mono ?_
  rintro e y5 ⟨rfl, hy⟩
  have hx := hx.tr hy
  go_wp2_with fail
  refine (HOK2.out _ hx).mono ?_
  rintro e y6 ⟨rfl, hy⟩
  have hx := hx.tr hy
  go_wp2_with fail
  refine (HSK.out _ hx).mono ?_
  rintro e y7 ⟨u7, rfl, hu7, hy⟩
  have hx := hx.tr hy
  obtain ⟨a7, c7, rfl⟩ := hu7.rdb.shape
  have HU7 := Lib.hid hu7.rdb
  clear hu7
  go_wp2_with fail
  refine (HSK2.out _ hx).mono ?_
  rintro e y8 ⟨u8, rfl, hu8, hy⟩
  have hx := hx.tr hy
  have HSB := Lib.hid (sameblocks_any _ _ kbs y8 (HU7.out.ext hy) hu8)
  obtain ⟨a8, c8, rfl⟩ := hu8.shape
  clear hu8
  go_wp2_with fail
  refine HSB.out.mono ?_
  rintro e y9 ⟨rfl, hy⟩
  have hx9 := hxw.tr (hx.tr hy)
  clear hx hy HSB HU7 HMS HMS2 HSC HSC2 HOK HOK2 HSK HSK2 hq1 hq2 hq3 hq4 hq5 hxw hw1
  have HV9 := HV.out.ext hx9
  obtain ⟨ab, cb, he, hb1, hb2, hbr⟩ := HV9
  rw [HLl.out] at he hb1
  cases he
  have HBR := Lib.hid hbr
  clear hbr
  go_wp2_with fail
  go_loopw [15, 85] (fun u i wr => ∃ k : Nat, k ≤ m ∧ i = .int .i64 k ∧ FrB 60 wr y9.heap.size u (bs.take k) ∧ Ext y9 wr) (fun _ i _ => m - (intOf i).toNat)
  case atStart => exact ⟨0, Nat.zero_le _, rfl, FrB.nil _ _ _, Ext.rfl' _⟩
  case round =>
    obtain ⟨k, hk, rfl, hfo, hx⟩ := hrel
    by_cases hlt : k < m
    · have hkb : k < bs.length := by rw [HLl.out]; exact hlt
      rcases HBR.out with h0 | ⟨b, o, rfl, hrw⟩
      · rw [h0] at hkb; simp at hkb
      obtain ⟨e0, e1⟩ := hrw k hkb
      have e0 := hx.cell e0
      have e1 := hx.cell e1
      have htk := Lib.hid (take_succ_getD' (0, 0) bs k hkb)
      have hbl : (bs.take k).length ≤ 6 := by rw [List.length_take]; omega
      generalize bs.getD k (0, 0) = y at *
      obtain ⟨x, y⟩ := y
      dsimp only at e0 e1
      have HBl := Lib.hid hbl
      obtain ⟨av, cv, hve⟩ := hfo.rdb.shape
      rw [show (bs.take k).length = k from by rw [List.length_take]; omega] at hve
      subst hve
      have HFO := Lib.hid hfo
      clear hrw hkb hbl hfo
      go_upto_region 12 with (fail)
      have kz := heap_alloc_new wr (.cells #[.int .u32 x, .int .u32 y] 59)
      have hyw := Ext.new wr (.cells #[.int .u32 x, .int .u32 y] 59)
      generalize World.alloc wr _ = W at *
      have z0 := cell_blk kz 0
      have z1 := cell_blk kz 1
      simp at z0 z1
      have hxW := hx.tr hyw
      have hWs := hxW.size
      have HFW := Lib.hid (HFO.out.keep (Keep.ofExt hyw))
      go_wp2_with (at_builtin; go_must (refine wpList_appB ibR rfl (.tmp 89) (.tmp 91) rfl y9.heap.size _ _ rfl (HFW.out.keep (Keep.ofExt (Ext.new _ _))) _ rfl x y (heap_alloc_new _ _) (by have := HBl.out; omega) (by simp; omega) ?_); intro v4 w4 hf4 hg4)
      have hown := HFW.out.block
      have hx4 : Ext y9 w4 := ext_grown (hxW.al _) hg4 (fun j hj => hown j hj)
      go_wp2_with fail
      go_roundw
      case rel => exact ⟨k + 1, by omega, by go_num, by rw [htk.out]; exact hf4, hx4⟩
      case measure => simp [intOf]; omega
    · obtain rfl : k = m := by omega
      rw [show bs.take k = bs from List.take_of_length_le (by rw [HLl.out]; exact Nat.le_refl _)] at hfo
      have hr := hfo.rdb
      obtain ⟨ao, co, hve⟩ := hr.shape
      rw [HLl.out] at hve
      subst hve
      have HWS := Lib.hid (withsacks_any _ bs wr (HV.out.ext (hx9.tr hx)) HOB.out)
      have HWR := Lib.hid (fun (w' : World) (hy : Ext wr w') => r5withsacks_any _ bs w' (hr.ext hy) HOB.out)
      obtain ⟨kw, Dw, Ew, how⟩ : ∃ kw Dw Ew, owith bs = ((kw, Dw), Ew) := ⟨_, _, _, rfl⟩
      rw [how] at HWS HWR
      have hx := hx9.tr hx
      have hdl : Byt Dw ∧ (0 ≤ kw ∧ kw ≤ 255) := by have h := owith_byt HOB.out; rw [how] at h; exact h
      have HDW := Lib.hid hdl
      clear hfo hr how hx9 HBR hdl
      dsimp only at HWS HWR
      go_wp2_with fail
      refine HWS.out.mono ?_
      rintro e wa ⟨ua, rfl, hua, hya⟩
      obtain ⟨aa, na, ca, rfl⟩ := hua.rd.shape
      go_upto_region 15 with (fail)
      have kA := heap_alloc_new wa (.cells #[.int .u8 kw, .slice aa na ca] 31)
      have hyb := Ext.new wa (.cells #[.int .u8 kw, .slice aa na ca] 31)
      generalize World.alloc wa _ = wb at *
      have HUA := Lib.hid (hua.rd.ext hyb)
      have hx := hx.tr (hya.tr hyb)
      have hyb := hya.tr hyb
      clear hua hya HWS
      go_wp2_with fail
      refine (HWR.out _ hyb).mono ?_
      rintro e wc ⟨uc, rfl, huc, hyc⟩
      obtain ⟨ac, nc, cc, rfl⟩ := huc.rd.shape
      go_upto_region 16 with (fail)
      have kB := heap_alloc_new wc (.cells #[.int .u8 kw, .slice ac nc cc] 31)
      have hyd := Ext.new wc (.cells #[.int .u8 kw, .slice ac nc cc] 31)
      generalize World.alloc wc _ = wd at *
      have HUC := Lib.hid (huc.rd.ext hyd)
      have hyd := hyc.tr hyd
      have HUA := Lib.hid (HUA.out.ext hyd)
      have kA := hyd.block kA
      have hx := hx.tr hyd
      clear huc hyc HWR hyb hyd
      generalize wa.heap.size = gA at *
      generalize wc.heap.size = gB at *
      go_upto_region 17 with (fail)
      obtain ⟨p, hp⟩ : ∃ p : Int, Hid (p = n % 65536) := ⟨_, Lib.hid rfl⟩
      have hp16 : 0 ≤ p ∧ p ≤ 65535 := by have := hp.out; omega
      have hby : by2 p = [IntKind.u64.wrap n / 256 % 256, n % 256] := by
        unfold by2
        rw [hp.out]
        simp [IntKind.wrap, IntKind.bits, IntKind.signed]
        omega
      have hwp : IntKind.u16.wrap n = p := by rw [hp.out]; simp [IntKind.wrap, IntKind.bits, IntKind.signed]
      have hwq : n % 65536 = p := hp.out.symm
      obtain ⟨c, hc⟩ : ∃ c : Int, Hid (c = if n < 0 then 0 else if 14 < n then 14 else n) := ⟨_, Lib.hid rfl⟩
      have hc14 : 0 ≤ c ∧ c ≤ 14 := by rw [hc.out]; split <;> (try split) <;> omega
      have r2 : Rd .u8 (wd.alloc (.cells #[.int .u8 (IntKind.u64.wrap n / 256 % 256), .int .u8 (n % 256)] 5)) (.slice (some ⟨wd.heap.size, 0, none⟩) 2 2) (by2 p) := by
        rw [hby]
        exact rd_new .u8 wd _ 5 [IntKind.u64.wrap n / 256 % 256, n % 256] rfl rfl rfl rfl (by simp [maxLen])
      generalize hW : World.alloc (World.alloc wd _) _ = W
      have kC : W.heap[wd.heap.size + 1]? = some (.cells #[.int .u8 2, .slice (some ⟨wd.heap.size, 0, none⟩) 2 2] 31) := by rw [← hW]; simp only [heap_alloc_at, World.size_alloc]; repeat (first | rfl | rw [if_pos (by first | trivial | omega)] | rw [if_neg (by omega)])
      have hxW : Ext wd W := by rw [← hW]; exact (Ext.new _ _).al _
      have R2 : Hid (Rd .u8 W (.slice (some ⟨wd.heap.size, 0, none⟩) 2 2) (by2 p)) := by
        unfold Hid
        rw [← hW]
        exact r2.ext (Ext.new _ _)
      clear hW r2
      have kA := hxW.block kA
      have kB := hxW.block kB
      have HUA := Lib.hid (HUA.out.ext hxW)
      have HUC := Lib.hid (HUC.out.ext hxW)
      have hx := hx.tr hxW
      generalize wd.heap.size = gD at *
      have e0 := cell_blk kA 0
      have e1 := cell_blk kA 1
      simp at e0 e1
      have f0 := cell_blk kB 0
      have f1 := cell_blk kB 1
      simp at f0 f1
      have g0 := cell_blk kC 0
      have g1 := cell_blk kC 1
      simp at g0 g1
      have hEw : (Ew == Ew) = true := by simp
      have hbl : Hid (BytO [(kw, Dw), (3, [c]), (2, by2 p), (4, [])]) := by
        intro o ho
        simp only [List.mem_cons, List.not_mem_nil, or_false] at ho
        rcases ho with rfl | rfl | rfl | rfl
        · exact ⟨HDW.out.2, HDW.out.1⟩
        · refine ⟨by simp, fun x hx => ?_⟩
          have h : x = c := by simpa using hx
          omega
        · exact ⟨by simp, by2_byt p hp16⟩
        · exact ⟨by simp, fun x hx => by cases hx⟩
      clear kA kB kC hxW hby
      refine wp_region_grow [(0, is (.bool true)), (9, AggR 3 [c]), (12, AggR 2 (by2 p)), (13, is (.agg #[.int .u8 4, .slice none 0 0])), (14, fun v w' => RdO w' v [(kw, Dw), (3, [c]), (2, by2 p), (4, [])]), (17, AggR 3 [c]), (20, fun v w' => RdO w' v [(kw, Dw), (3, [c]), (2, by2 p), (4, [])]), (21, is (.bool true))] ?_ (by kernel_rfl) (by kernel_rfl) ?_
      · exact lasts_is (lasts_cons (fun _ _ _ hx h => AggR.ext h hx) (lasts_cons (fun _ _ _ hx h => AggR.ext h hx) (lasts_is (lasts_cons (fun _ _ _ hx h => RdO.ext h hx) (lasts_cons (fun _ _ _ hx h => AggR.ext h hx) (lasts_cons (fun _ _ _ hx h => RdO.ext h hx) (lasts_is lasts_nil)))))))
      apply wpL_some rfl rfl
      · intro w' hw' hn'
        go_simp
        refine ⟨Ext.rfl' _, ?_⟩
        refine ((awake5_any _)).mono ?_
        rintro e w2 ⟨rfl, hx⟩
        exact ⟨_, rfl, hx, rfl⟩
      intro v w' hw' hD' hv
      obtain rfl : v = _ := hv
      clear hw' hD' w'
      intro K hK; go_simp; refine hK _ _ ?_; clear hK K
      iterate 6
        apply wpL_none rfl rfl
        · intro w' hw' hn'; go_simp; exact rfl
        intro K hK; go_simp; refine hK _ _ ?_; clear hK K
      iterate 2
        apply wpL_none rfl rfl
        · intro w' hw' hn'; have e0 := Ext.cell hw' e0; have e1 := Ext.cell hw' e1; go_simp; exact rfl
        intro K hK; go_simp; refine hK _ _ ?_; clear hK K
      apply wpL_some rfl rfl
      · intro w' hw' hn'
        go_simp
        refine ⟨Ext.rfl' _, ?_⟩
        refine (withscale_any n c w' hn hc.out).mono ?_
        rintro e w3 ⟨u3, rfl, hu3, hx3⟩
        exact ⟨_, rfl, hx3, u3, rfl, hu3.rd⟩
      intro v9 w9 hw9 hD9 hv9
      obtain ⟨u9, rfl, hv9⟩ := hv9
      obtain ⟨a9, n9, c9, rfl⟩ := hv9.shape
      clear hw9 hD9 hv9 w9
      intro K hK; go_simp; refine hK _ _ ?_; clear hK K
      iterate 2
        apply wpL_none rfl rfl
        · intro w' hw' hn'; go_simp; exact rfl
        intro K hK; go_simp; refine hK _ _ ?_; clear hK K
      apply wpL_some rfl rfl
      · intro w' hw' hn'
        go_simp
        refine ⟨Ext.rfl' _, ?_⟩
        refine (withmss_any p w' hp16).mono ?_
        rintro e w3 ⟨u3, rfl, hu3, hx3⟩
        exact ⟨_, rfl, hx3, u3, rfl, hu3.rd⟩
      intro v12 w12 hw12 hD12 hv12
      obtain ⟨u12, rfl, hv12⟩ := hv12
      obtain ⟨a12, n12, c12, rfl⟩ := hv12.shape
      clear hw12 hD12 hv12 w12
      intro K hK; go_simp; refine hK _ _ ?_; clear hK K
      apply wpL_some rfl rfl
      · intro w' hw' hn'
        go_simp
        refine ⟨Ext.rfl' _, ?_⟩
        refine ((permit_any _)).mono ?_
        rintro e w2 ⟨rfl, hx⟩
        exact ⟨_, rfl, hx, rfl⟩
      intro v w' hw' hD' hv
      obtain rfl : v = _ := hv
      clear hw' hD' w'
      intro K hK; go_simp; refine hK _ _ ?_; clear hK K
      apply wpL_some rfl rfl
      · intro w' hw' hn'
        obtain ⟨x9, h9, q9⟩ : AggR 3 [c] _ w' := hn' ⟨9, .data⟩ (by simp) rfl
        obtain ⟨x12, h12, q12⟩ : AggR 2 (by2 p) _ w' := hn' ⟨12, .data⟩ (by simp) rfl
        cases h9
        cases h12
        go_simp
        exact ⟨Ext.new _ _, rdo_4 (heap_alloc_new _ _) ((HUA.out.ext hw').ext (Ext.new _ _)) (q9.ext (Ext.new _ _)) (q12.ext (Ext.new _ _)) (Rd.nil _ _)⟩
      intro v14 w14 hw14 hD14 hv14
      obtain ⟨a14, c14, rfl⟩ := hv14.shape
      clear hw14 hD14 hv14 w14
      intro K hK; go_simp; refine hK _ _ ?_; clear hK K
      iterate 2
        apply wpL_none rfl rfl
        · intro w' hw' hn'; have f0 := Ext.cell hw' f0; have f1 := Ext.cell hw' f1; go_simp; exact rfl
        intro K hK; go_simp; refine hK _ _ ?_; clear hK K
      apply wpL_some rfl rfl
      · intro w' hw' hn'
        go_simp
        refine ⟨Ext.rfl' _, ?_⟩
        refine (r5withscale_any n c w' hn hc.out).mono ?_
        rintro e w3 ⟨u3, rfl, hu3, hx3⟩
        exact ⟨_, rfl, hx3, u3, rfl, hu3⟩
      intro v17 w17 hw17 hD17 hv17
      obtain ⟨u17', rfl, hv17⟩ := hv17
      obtain ⟨a17, n17, c17, rfl⟩ := hv17.shape
      clear hw17 hD17 hv17 w17
      intro K hK; go_simp; refine hK _ _ ?_; clear hK K
      iterate 2
        apply wpL_none rfl rfl
        · intro w' hw' hn'; have g0 := Ext.cell hw' g0; have g1 := Ext.cell hw' g1; go_simp; exact rfl
        intro K hK; go_simp; refine hK _ _ ?_; clear hK K
      apply wpL_some rfl rfl
      · intro w' hw' hn'
        obtain ⟨x17, h17, q17⟩ : AggR 3 [c] _ w' := hn' ⟨17, .data⟩ (by simp) rfl
        cases h17
        go_simp
        exact ⟨Ext.new _ _, rdo_4 (heap_alloc_new _ _) ((HUC.out.ext hw').ext (Ext.new _ _)) (q17.ext (Ext.new _ _)) ((R2.out.ext hw').ext (Ext.new _ _)) (Rd.nil _ _)⟩
      intro v20 w20 hw20 hD20 hv20
      obtain ⟨a20, c20, rfl⟩ := hv20.shape
      clear hw20 hD20 hv20 w20
      intro K hK; go_simp; refine hK _ _ ?_; clear hK K
      apply wpL_some rfl rfl
      · intro w' hw' hn'
        have q14 : RdO w' _ [(kw, Dw), (3, [c]), (2, by2 p), (4, [])] := hn' ⟨14, .data⟩ (by simp) rfl
        have q20 : RdO w' _ [(kw, Dw), (3, [c]), (2, by2 p), (4, [])] := hn' ⟨20, .data⟩ (by simp) rfl
        go_simp
        refine ⟨Ext.rfl' _, ?_⟩
        refine (r5same_any _ _ _ _ w' q14 q20 hbl.out hbl.out).mono ?_
        rw [show decide (([(kw, Dw), (3, [c]), (2, by2 p), (4, [])] : List Op1) = [(kw, Dw), (3, [c]), (2, by2 p), (4, [])]) = true from decide_eq_true rfl]
        rintro e w3 ⟨rfl, hx3⟩
        exact ⟨_, rfl, hx3, rfl⟩
      intro v21 w21 hw21 hD21 hv21
      obtain rfl : v21 = _ := hv21
      clear hw21 hD21 w21
      intro K hK; go_simp; refine hK _ _ ?_; clear hK K
      iterate 2
        apply wpL_none rfl rfl
        · intro w' hw' hn'; go_simp; exact rfl
        intro K hK; go_simp; refine hK _ _ ?_; clear hK K
      refine wpL_nil ?_
      intro wz hwz hDz
      clear hDz e0 e1 f0 f1 g0 g1
      go_wp2_with fail
      go_ret
      exact ⟨rfl, hx.tr hwz⟩
end Go.Proofs.Ytckdcjheflgmdaa.optsFinds
