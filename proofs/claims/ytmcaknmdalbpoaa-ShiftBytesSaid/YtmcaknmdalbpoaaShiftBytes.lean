/-
  Proved here: the law ShiftBytes returns true.
-/
import Derived.Test.YtmcaknmdalbpoaaShB
import Derived.Test.YtmcaknmdalbpoaaTcpW
import Derived.Deep.CutRange
namespace Go.Proofs.Ytmcaknmdalbpoaa.shiftBytes
set_option maxRecDepth 16000
open Go.ChangeShapes Go.WideShapes Go.ChangeAt Go.RowKit Go.Cul Go.Loose
set_option linter.unusedVariables false
attribute [local go_sem] Loose.Still Loose.Upon Loose.vUpon

set_option maxHeartbeats 8000000 in
set_option maxRecDepth 100000 in
theorem walk (w : World) (cs : Array Value) (h0 : Reads w shfSh cs.toList) (ds : Array Value) (h1 : Reads w segSh ds.toList) :
    Calls Try.prog 3 #[.agg cs, .agg ds] w fun e w' => e = .returned (.bool true) ∧ Ext w w' := by
  obtain ⟨x, rfl, hx⟩ := open_shift h0
  obtain ⟨g, vo, vd, rfl, hg, hvo, hvd, -, -⟩ := open_segment h1
  clear h0 h1
  obtain ⟨a, cap, rfl⟩ := hvo.shape
  obtain ⟨ad, nd, cd, rfl⟩ := hvd.shape
  have HVO := Lib.hid hvo
  have HVD := Lib.hid hvd
  clear hvo hvd
  go_enter Try.func3, Try.ntmps3
  go_upto_region 1 with (fail)
  generalize hW : (w.alloc _).alloc _ = W
  have hxW : Ext w W := by rw [← hW]; exact (Ext.new w _).al _
  have k0 : W.heap[w.heap.size]? = some (.cells x.cells 24) := by rw [← hW]; simp only [heap_alloc_at, World.size_alloc]; repeat (first | rfl | rw [if_pos (by first | trivial | omega)] | rw [if_neg (by omega)])
  have k1 : W.heap[w.heap.size + 1]? = some (.cells (g.cells (.slice a g.os.length cap) (.slice ad nd cd)) 29) := by rw [← hW]; simp only [heap_alloc_at, World.size_alloc]; repeat (first | rfl | rw [if_pos (by first | trivial | omega)] | rw [if_neg (by omega)])
  clear hW
  have hWs := lt_of_block k1
  go_wp2_with (first | (refine wpList_load_bigG 24 w.heap.size x.cells _ _ rfl k0 rfl Try.underlying24 rfl (shf_sz _) ?_) | (refine wpList_load_bigG 29 (w.heap.size + 1) _ _ _ rfl k1 rfl Try.underlying29 rfl (seg_sz _ _ _) ?_))
  refine (plain25_any x g hg _ _ w _ hxW HVO.out HVD.out).mono ?_
  rintro e w1 ⟨uo, ud, rfl, hmo, hud, hx1⟩
  replace k0 := hx1.block k0
  replace k1 := hx1.block k1
  have hxw := hxW.tr hx1
  have hmo := hmo.lowS (base' := w.heap.size + 2) (by omega)
  have hGok := plG_ok hg
  have hG2 : fl (plG g).f 2 = false := clr2_no g.f hg.f
  have hGl : (plG g).os.length ≤ 20 := fwO_len g.os
  have hGd : ∀ o ∈ (plG g).os, o.2.length ≤ 60 := fwO_dl g.os
  have hGn : (plG g).data.length ≤ 1600 := by show (g.data.take 1600).length ≤ 1600; rw [List.length_take]; omega
  have hB : Hid (plB x g = (x.may && decide ((oput (plG g).os).2 = 0))) := rfl
  clear hx1 hxW hWs hg HVO HVD
  generalize plB x g = pb at *
  generalize plG g = G at *
  obtain ⟨ao, co, rfl, -, -⟩ := hmo.shape
  obtain ⟨au, cu, rfl, hu1, hu2, hu3⟩ := id hud
  go_upto_region 2 with (first | (refine wpList_put_row 24 w.heap.size _ x.cells _ rfl rfl k0 (shf_sz x) rfl (shf_one x) ?_; intro W2 j0 hm2) | (refine wpList_put_row 29 (w.heap.size + 1) _ (G.cells (.slice ao G.os.length co) (.slice au G.data.length cu)) _ rfl rfl (hm2.keep k1 (by omega)) (seg_sz _ _ _) rfl (seg_one _ _ _ _ _ _ _) ?_; intro W3 j1 hm3))
  have j0 := hm3.keep j0 (by omega)
  have hm := (hm2.mono (S' := fun k => k = w.heap.size ∨ k = w.heap.size + 1) (fun k _ h => .inl h)).tr (hm3.mono (fun k _ h => .inr h))
  have hxw3 := hm.ext hxw (fun k hk => by omega)
  have hmo := hmo.keep (Keep.ofMvs hm (fun k hk => by omega))
  have hro := (hmo.mio (by omega) hxw3).rdo
  have hrd := hud.ext hxw3
  clear hm hm2 hm3 hud hxw k0 k1 hmo
  rcases pb with _ | _
  · go_wp2_with fail
    refine (wakes25_any _).mono ?_
    rintro e w4 ⟨rfl, hx4⟩
    go_wp2_with fail
    go_ret
    exact ⟨rfl, hxw3.tr hx4⟩
  obtain ⟨hM, hP⟩ : x.may = true ∧ (oput G.os).2 = 0 := by
    have h := hB.out.symm
    rw [Bool.and_eq_true, decide_eq_true_eq] at h
    exact h
  have hsz3 := lt_of_block j1
  go_upto_region 4 with (fail)
  go_wp2_with (first | (refine wpList_load_bigG 24 w.heap.size x.cells _ _ rfl j0 rfl Try.underlying24 rfl (shf_sz _) ?_) | (refine wpList_load_bigG 29 (w.heap.size + 1) _ _ _ rfl j1 rfl Try.underlying29 rfl (seg_sz _ _ _) ?_))
  refine (over_any x hx G hGok _ _ _ hro hrd (by omega) (fun o ho => by have := hGd o ho; omega) (by omega)).mono ?_
  rw [over_good hM hP hG2]
  rintro e w4 ⟨u4, rfl, hu4, hx4⟩
  replace j0 := hx4.block j0
  replace j1 := hx4.block j1
  have hxw4 := hxw3.tr hx4
  have hsz4 := lt_of_block j1
  obtain ⟨hNb, hNv⟩ := overN_bd hM G
  obtain ⟨hO, hZ⟩ := sov_good (x := x) hP
  have hSok := overS_ok (x := x) hGok
  replace hu4 := hu4.lowS (base' := w.heap.size + 2) (by omega)
  have hC1 := cnt_pos (len := G.data.length) hNb
  have hSe : Hid (overS x G = { G with seq := (G.seq + x.sq) % 4294967296, ack := if fl G.f 16 then (G.ack + x.ak) % 4294967296 else 0, win := x.win G.win, os := sov x G.os }) := rfl
  clear hx4 hxw3 hB hGd hP hG2 hsz3
  generalize overN x G = N at *
  generalize overS x G = S at *
  generalize hCe : cnt G.data.length N = C at *
  have hLl : ((List.range C).map (pieceAt S N)).length = C := by simp
  have hLe : ∀ i, i < C → ((List.range C).map (pieceAt S N)).getD i Sg.none = pieceAt S N i := fun i hi => by simp [List.getD, hi]
  generalize (List.range C).map (pieceAt S N) = L at *
  obtain ⟨al, cl, rfl, hcl1, hcl2⟩ := hu4.shape
  have HLL := Lib.hid hLl
  rw [hLl] at hcl1 hu4 ⊢
  unfold maxLen at hcl2
  have hC0 : ((C : Int) == 0) = false := by simp; omega
  have HLE := Lib.hid hLe
  have HCE := Lib.hid hCe
  clear hLe hCe hLl
  go_wp2_with fail
  have HO := Lib.hid hO
  have HZ := Lib.hid hZ
  have HSK := Lib.hid hSok
  have HGK := Lib.hid hGok
  have HXK := Lib.hid hx
  clear hO hZ hSok hGok hx hC0
  go_loopw [8, 41] (fun tv iv wr => ∃ k : Nat, k ≤ C ∧ iv = .int .i64 k ∧ tv = .int .i64 ((min (k * N) G.data.length : Nat) : Int) ∧ Ext w4 wr) (fun _ iv _ => C - (intOf iv).toNat)
  case atStart => exact ⟨0, Nat.zero_le _, rfl, by simp, Ext.rfl' _⟩
  case round =>
    obtain ⟨k, hk, rfl, rfl, hx⟩ := hrel
    by_cases hlt : k < C
    · obtain ⟨ha1, ha2, ha3, ha4⟩ := cnt_last (len := G.data.length) hNb (i := k) (by rw [HCE.out]; exact hlt)
      rw [HCE.out] at ha2 ha3
      rw [Nat.min_eq_left ha1]
      obtain ⟨gb, cap', pvo, pvd, he, hgb, hcell, hfo, hfd⟩ := (hu4.keep (Keep.ofExt hx)).at (i := k) (by rw [HLL.out]; exact hlt)
      rw [HLL.out] at he
      cases he
      rw [HLE.out k hlt] at hcell hfo hfd
      have hPe : pieceAt S N k = pieceS S (k * N) (min N (G.data.length - k * N)) := by
        have hd : S.data = G.data := by rw [hSe.out]
        unfold pieceAt; rw [hd]
      rw [hPe] at hcell hfo hfd
      generalize hAT : k * N = AT at *
      generalize hn : min N (G.data.length - AT) = n at *
      have hSd : S.data = G.data := by rw [hSe.out]
      have p1 : (pieceS S AT n).sp = G.sp := by show S.sp = _; rw [hSe.out]
      have p2 : (pieceS S AT n).dp = G.dp := by show S.dp = _; rw [hSe.out]
      have p3 : (pieceS S AT n).seq = (G.seq + (x.sq + AT)) % 4294967296 := by
        show (S.seq + AT) % 4294967296 = _
        have : S.seq = (G.seq + x.sq) % 4294967296 := by rw [hSe.out]
        omega
      have p4 : (pieceS S AT n).ack = S.ack := rfl
      have p5 : (pieceS S AT n).win = S.win := rfl
      obtain ⟨q6, q7⟩ := pieceF_laws HSK.out.f AT n
      have p6 : and20 (pieceS S AT n).f = and20 G.f := by
        show and20 (pieceF S AT n) = _
        rw [q6, hSe.out]
      have p7 : and9 (pieceS S AT n).f = if AT + n < G.data.length then 0 else and9 G.f := by
        show and9 (pieceF S AT n) = _
        rw [q7, hSd, show S.f = G.f from by rw [hSe.out]]
      have p8 : (pieceS S AT n).os = sov x G.os := by
        show owo S.os 0 = _
        rw [show S.os = sov x G.os from by rw [hSe.out], HZ.out]
      have p9 : (pieceS S AT n).data = (G.data.drop AT).take n := by
        show (S.data.drop AT).take n = _
        rw [hSd]
      have pok : (pieceS S AT n).ok := by
        have h := HSK.out
        have h7 := clr9_bd h.f
        have h8 := clr32_bd h.f
        have h9 := clr32_bd h7
        refine ⟨h.sp, h.dp, ?_, h.ack, ?_, h.win, ?_, ?_, ?_⟩
        · show 0 ≤ (S.seq + (AT : Int)) % 4294967296 ∧ _
          omega
        · show 0 ≤ pieceF S AT n ∧ pieceF S AT n ≤ 255
          unfold pieceF
          split <;> split <;> first | assumption | exact h.f
        · show 0 ≤ pieceU S.urg AT ∧ pieceU S.urg AT ≤ 65535
          have := h.urg
          unfold pieceU
          split <;> omega
        · rw [p8]
          exact sov_byt HGK.out.os
        · rw [p9]
          exact (HGK.out.data.drop _).take _
      generalize pieceS S AT n = P at *
      have HL0 := Lib.hid (fun (h : n = 0) => ha4 (by omega))
      clear ha4
      have hnl : n ≤ N ∧ AT + n ≤ G.data.length := by omega
      have p9l : P.data.length = n := by rw [p9, List.length_take, List.length_drop]; omega
      have hrange : wr.rangeAt gb (k * 9) (P.cells pvo pvd).toList := fun j v hv => by
        have hj : j < 9 := (List.getElem?_eq_some_iff.1 hv).1
        rw [hcell j hj]; exact hv
      have hr0 := (hu4.keep (Keep.ofExt hx)).at (i := 0) (by rw [HLL.out]; omega)
      obtain ⟨gb', cap'', qvo, qvd, he, -, hcell0, -, -⟩ := hr0
      rw [HLL.out] at he
      cases he
      rw [HLE.out 0 (by omega)] at hcell0
      have y3 : wr.cell? ⟨gb, 3, none⟩ = some (.int .u32 P.ack) := by rw [p4]; have := hcell0 3 (by decide); simpa [pieceAt, pieceS] using this
      have y5 : wr.cell? ⟨gb, 5, none⟩ = some (.int .u16 P.win) := by rw [p5]; have := hcell0 5 (by decide); simpa [pieceAt, pieceS] using this
      have HPO := Lib.hid hfo.rdo
      have HPD := Lib.hid hfd.rd
      obtain ⟨pa, pc, rfl⟩ := hfo.rdo.shape
      obtain ⟨pa2, pn2, pc2, rfl⟩ := hfd.rd.shape
      obtain rfl : pn2 = n := by
        obtain ⟨_, _, he, -, -, -⟩ := hfd.rd
        cases he
        exact p9l
      have HPK := Lib.hid pok
      have HP1 := Lib.hid p1
      have HP2 := Lib.hid p2
      have HP3 := Lib.hid p3
      have HP6 := Lib.hid p6
      have HP7 := Lib.hid p7
      have HP8 := Lib.hid p8
      have HP9 := Lib.hid p9
      have HPE := Lib.hid hPe
      replace j0 := hx.block j0
      replace j1 := hx.block j1
      have hxr := hxw4.tr hx
      clear hcell hcell0 hfo hfd pok p1 p2 p3 p4 p5 p6 p7 p8 p9 hPe p9l hSd
      have hlc : (k : Int) < (C : Int) := by omega
      have hsz : k < cl := by omega
      go_upto_region 11 with (first | (refine wpList_load_mid rfl 29 _ rfl gb (k * 9) rfl (P.cells (.slice pa P.os.length pc) (.slice pa2 pn2 pc2)).toList _ hrange Try.underlying29 rfl (by kernel_rfl) ?_) | (refine wpList_store_big 29 (P.cells (.slice pa P.os.length pc) (.slice pa2 pn2 pc2)) rfl rfl (seg_sz _ _ _) rfl (seg_one _ _ _ _ _ _ _) ?_))
      generalize hW : wr.alloc _ = V
      have hxV : Ext wr V := by rw [← hW]; exact Ext.new _ _
      have kp : V.heap[wr.heap.size]? = some (.cells (P.cells (.slice pa P.os.length pc) (.slice pa2 pn2 pc2)) 29) := by rw [← hW]; exact heap_alloc_new wr _
      clear hW hrange q6 q7
      generalize wr.heap.size = B at *
      replace j0 := hxV.block j0
      replace j1 := hxV.block j1
      have hxv := hxr.tr hxV
      replace y3 := hxV.cell y3
      replace y5 := hxV.cell y5
      have e7 := cell_blk kp 7
      simp at e7
      go_wp2_with fail
      refine (oput_any _ P.os V (HPO.out.ext hxV) HPK.out.os).mono ?_
      rw [show (oput P.os).2 = 0 from by rw [HP8.out]; exact HO.out]
      rintro e w5 ⟨u5, rfl, hu5, hx5⟩
      obtain ⟨a5, c5, he5, -⟩ : ∃ a c, u5 = .slice a (oput P.os).1.length c ∧ True := by obtain ⟨a, c, h, -⟩ := hu5.rd; exact ⟨a, c, h, trivial⟩
      subst he5
      rw [HP8.out]
      have hpl := (oput_len (sov x G.os)).1
      generalize (oput (sov x G.os)).1.length = PL at *
      replace j0 := hx5.block j0
      replace j1 := hx5.block j1
      replace kp := hx5.block kp
      replace y3 := hx5.cell y3
      replace y5 := hx5.cell y5
      have hxw5 := hxv.tr hx5
      have HPD5 := Lib.hid (HPD.out.ext (hxV.tr hx5))
      have hq5 := hx.tr (hxV.tr hx5)
      clear hu5 hx5 e7 hxV hxv hxr hx HPO HPD
      have hxk := HXK.out
      have hgk := HGK.out
      have hms := may_mss hM
      obtain ⟨xq0, xq1⟩ := hxk.sq
      have hw1 : IntKind.i64.wrap x.sq = x.sq := by rw [IntKind.wrap_i64]; omega
      have hw2 : IntKind.i64.wrap (x.sq + AT) = x.sq + AT := by rw [IntKind.wrap_i64]; omega
      have hw3 : IntKind.i64.wrap (x.mss - PL) = x.mss - PL := by rw [IntKind.wrap_i64]; omega
      have hmx : (if x.mss - (PL : Int) < 1 then (1 : Int) else x.mss - PL) = N := hNv.symm
      have hgt : decide ((N : Int) < (pn2 : Int)) = false := decide_eq_false (by omega)
      have hsa := Lib.hid (fun (W : World) => ((HP3.out.symm ▸ sadd_any G.seq (x.sq + AT) W : Calls Try.prog 11 #[.int .u32 G.seq, .int .i64 (x.sq + AT)] W fun e w' => e = .returned (.int .u32 P.seq) ∧ w' = W)).mono (fun e w' h => (⟨h.1, h.2 ▸ Ext.rfl' _⟩ : e = .returned (.int .u32 P.seq) ∧ Ext W w')))
      clear hxk hgk
      go_upto_region 12 with (fail)
      go_cut [90] from 42 to 189 (fun v wc => v = .bool false ∧ Ext w5 wc)
      case first =>
        have c0 := cell_blk j0 0
        have c5 := cell_blk j0 5
        have s2 := cell_blk j1 2
        have s8 := cell_blk j1 8
        have e2 := cell_blk kp 2
        have e8 := cell_blk kp 8
        simp at c0 c5 s2 s8 e2 e8
        by_cases hmn : x.mss - (PL : Int) < 1
        · have hgn : decide (1 < pn2) = false := decide_eq_false (by rw [if_pos hmn] at hNv; omega)
          have hgi : decide ((1 : Int) < (pn2 : Int)) = false := decide_eq_false (by rw [if_pos hmn] at hNv; omega)
          clear hNv hmx hgt
          by_cases hn0 : pn2 = 0
          · have hl0' : decide ((0 : Int) < (G.data.length : Int)) = false := decide_eq_false (by have := HL0.out hn0; omega)
            have hl0n : decide (0 < G.data.length) = false := decide_eq_false (by have := HL0.out hn0; omega)
            subst hn0
            clear HL0
            as_aux_lemma =>
              refine wp_region_grow [(12, Loose.is (.int .u32 P.seq))] (lasts_is lasts_nil) (by kernel_rfl) (by kernel_rfl) ?_
              iterate 4
                apply wpL_none rfl rfl
                · intro w' hw' hn'; go_simp; exact rfl
                intro K hK; go_simp; refine hK _ _ ?_; clear hK K
              iterate 1
                apply wpL_none rfl rfl
                · intro w' hw' hn'; have e2 := Ext.cell hw' e2; go_simp; exact rfl
                intro K hK; go_simp; refine hK _ _ ?_; clear hK K
              iterate 1
                apply wpL_none rfl rfl
                · intro w' hw' hn'; go_simp; exact rfl
                intro K hK; go_simp; refine hK _ _ ?_; clear hK K
              iterate 1
                apply wpL_none rfl rfl
                · intro w' hw' hn'; have s2 := Ext.cell hw' s2; go_simp; exact rfl
                intro K hK; go_simp; refine hK _ _ ?_; clear hK K
              iterate 1
                apply wpL_none rfl rfl
                · intro w' hw' hn'; go_simp; exact rfl
                intro K hK; go_simp; refine hK _ _ ?_; clear hK K
              iterate 1
                apply wpL_none rfl rfl
                · intro w' hw' hn'; have c0 := Ext.cell hw' c0; go_simp; exact rfl
                intro K hK; go_simp; refine hK _ _ ?_; clear hK K
              iterate 3
                apply wpL_none rfl rfl
                · intro w' hw' hn'; go_simp; exact rfl
                intro K hK; go_simp; refine hK _ _ ?_; clear hK K
              apply wpL_some rfl rfl
              · intro w' hw' hn'
                go_simp
                refine ⟨Ext.rfl' _, ?_⟩
                refine (hsa.out _).mono ?_
                rintro e w2 ⟨rfl, hx⟩
                exact ⟨_, rfl, hx, rfl⟩
              intro v w' hw' hD' hv
              obtain rfl : v = _ := hv
              clear hw' hD' w'
              intro K hK; go_simp; refine hK _ _ ?_; clear hK K
              iterate 4
                apply wpL_none rfl rfl
                · intro w' hw' hn'; go_simp; exact rfl
                intro K hK; go_simp; refine hK _ _ ?_; clear hK K
              iterate 1
                apply wpL_none rfl rfl
                · intro w' hw' hn'; have e8 := Ext.cell hw' e8; go_simp; exact rfl
                intro K hK; go_simp; refine hK _ _ ?_; clear hK K
              iterate 2
                apply wpL_none rfl rfl
                · intro w' hw' hn'; go_simp; exact rfl
                intro K hK; go_simp; refine hK _ _ ?_; clear hK K
              iterate 1
                apply wpL_none rfl rfl
                · intro w' hw' hn'; have c5 := Ext.cell hw' c5; go_simp; exact rfl
                intro K hK; go_simp; refine hK _ _ ?_; clear hK K
              iterate 8
                apply wpL_none rfl rfl
                · intro w' hw' hn'; go_simp; exact rfl
                intro K hK; go_simp; refine hK _ _ ?_; clear hK K
              iterate 1
                apply wpL_none rfl rfl
                · intro w' hw' hn'; have e8 := Ext.cell hw' e8; go_simp; exact rfl
                intro K hK; go_simp; refine hK _ _ ?_; clear hK K
              iterate 3
                apply wpL_none rfl rfl
                · intro w' hw' hn'; go_simp; exact rfl
                intro K hK; go_simp; refine hK _ _ ?_; clear hK K
              iterate 1
                apply wpL_none rfl rfl
                · intro w' hw' hn'; go_simp; exact rfl
                intro K hK; go_simp; refine hK _ _ ?_; clear hK K
              iterate 1
                apply wpL_none rfl rfl
                · intro w' hw' hn'; have s8 := Ext.cell hw' s8; go_simp; exact rfl
                intro K hK; go_simp; refine hK _ _ ?_; clear hK K
              iterate 2
                apply wpL_none rfl rfl
                · intro w' hw' hn'; go_simp; exact rfl
                intro K hK; go_simp; refine hK _ _ ?_; clear hK K
              iterate 2
                apply wpL_none rfl rfl
                · intro w' hw' hn'; go_simp; exact rfl
                intro K hK; go_simp; refine hK _ _ ?_; clear hK K
              refine wpL_nil ?_
              intro w6 hx6 _
              go_wp2_with fail
              go_meet
              case rel => exact ⟨rfl, hx6⟩
          · have hn0' : ((pn2 : Int) == 0) = false := by simp; omega
            as_aux_lemma =>
              refine wp_region_grow [(12, Loose.is (.int .u32 P.seq))] (lasts_is lasts_nil) (by kernel_rfl) (by kernel_rfl) ?_
              iterate 4
                apply wpL_none rfl rfl
                · intro w' hw' hn'; go_simp; exact rfl
                intro K hK; go_simp; refine hK _ _ ?_; clear hK K
              iterate 1
                apply wpL_none rfl rfl
                · intro w' hw' hn'; have e2 := Ext.cell hw' e2; go_simp; exact rfl
                intro K hK; go_simp; refine hK _ _ ?_; clear hK K
              iterate 1
                apply wpL_none rfl rfl
                · intro w' hw' hn'; go_simp; exact rfl
                intro K hK; go_simp; refine hK _ _ ?_; clear hK K
              iterate 1
                apply wpL_none rfl rfl
                · intro w' hw' hn'; have s2 := Ext.cell hw' s2; go_simp; exact rfl
                intro K hK; go_simp; refine hK _ _ ?_; clear hK K
              iterate 1
                apply wpL_none rfl rfl
                · intro w' hw' hn'; go_simp; exact rfl
                intro K hK; go_simp; refine hK _ _ ?_; clear hK K
              iterate 1
                apply wpL_none rfl rfl
                · intro w' hw' hn'; have c0 := Ext.cell hw' c0; go_simp; exact rfl
                intro K hK; go_simp; refine hK _ _ ?_; clear hK K
              iterate 3
                apply wpL_none rfl rfl
                · intro w' hw' hn'; go_simp; exact rfl
                intro K hK; go_simp; refine hK _ _ ?_; clear hK K
              apply wpL_some rfl rfl
              · intro w' hw' hn'
                go_simp
                refine ⟨Ext.rfl' _, ?_⟩
                refine (hsa.out _).mono ?_
                rintro e w2 ⟨rfl, hx⟩
                exact ⟨_, rfl, hx, rfl⟩
              intro v w' hw' hD' hv
              obtain rfl : v = _ := hv
              clear hw' hD' w'
              intro K hK; go_simp; refine hK _ _ ?_; clear hK K
              iterate 4
                apply wpL_none rfl rfl
                · intro w' hw' hn'; go_simp; exact rfl
                intro K hK; go_simp; refine hK _ _ ?_; clear hK K
              iterate 1
                apply wpL_none rfl rfl
                · intro w' hw' hn'; have e8 := Ext.cell hw' e8; go_simp; exact rfl
                intro K hK; go_simp; refine hK _ _ ?_; clear hK K
              iterate 2
                apply wpL_none rfl rfl
                · intro w' hw' hn'; go_simp; exact rfl
                intro K hK; go_simp; refine hK _ _ ?_; clear hK K
              iterate 1
                apply wpL_none rfl rfl
                · intro w' hw' hn'; have c5 := Ext.cell hw' c5; go_simp; exact rfl
                intro K hK; go_simp; refine hK _ _ ?_; clear hK K
              iterate 8
                apply wpL_none rfl rfl
                · intro w' hw' hn'; go_simp; exact rfl
                intro K hK; go_simp; refine hK _ _ ?_; clear hK K
              iterate 1
                apply wpL_none rfl rfl
                · intro w' hw' hn'; have e8 := Ext.cell hw' e8; go_simp; exact rfl
                intro K hK; go_simp; refine hK _ _ ?_; clear hK K
              iterate 3
                apply wpL_none rfl rfl
                · intro w' hw' hn'; go_simp; exact rfl
                intro K hK; go_simp; refine hK _ _ ?_; clear hK K
              iterate 4
                with_reducible refine wpL_skip ?_ ?_
                · rfl
                intro K hK; go_simp; refine hK _ _ ?_; clear hK K
              iterate 2
                apply wpL_none rfl rfl
                · intro w' hw' hn'; go_simp; exact rfl
                intro K hK; go_simp; refine hK _ _ ?_; clear hK K
              refine wpL_nil ?_
              intro w6 hx6 _
              go_wp2_with fail
              go_meet
              case rel => exact ⟨rfl, hx6⟩
        · have hgt2 : decide (x.mss - (PL : Int) < (pn2 : Int)) = false := by rw [if_neg hmn] at hNv; rw [← hNv]; exact hgt
          clear hNv hmx hgt
          by_cases hn0 : pn2 = 0
          · have hl0' : decide ((0 : Int) < (G.data.length : Int)) = false := decide_eq_false (by have := HL0.out hn0; omega)
            have hl0n : decide (0 < G.data.length) = false := decide_eq_false (by have := HL0.out hn0; omega)
            have hg3 : decide (x.mss - (PL : Int) < 0) = false := decide_eq_false (by omega)
            clear hgt2
            subst hn0
            clear HL0
            as_aux_lemma =>
              refine wp_region_grow [(12, Loose.is (.int .u32 P.seq))] (lasts_is lasts_nil) (by kernel_rfl) (by kernel_rfl) ?_
              iterate 4
                apply wpL_none rfl rfl
                · intro w' hw' hn'; go_simp; exact rfl
                intro K hK; go_simp; refine hK _ _ ?_; clear hK K
              iterate 1
                apply wpL_none rfl rfl
                · intro w' hw' hn'; have e2 := Ext.cell hw' e2; go_simp; exact rfl
                intro K hK; go_simp; refine hK _ _ ?_; clear hK K
              iterate 1
                apply wpL_none rfl rfl
                · intro w' hw' hn'; go_simp; exact rfl
                intro K hK; go_simp; refine hK _ _ ?_; clear hK K
              iterate 1
                apply wpL_none rfl rfl
                · intro w' hw' hn'; have s2 := Ext.cell hw' s2; go_simp; exact rfl
                intro K hK; go_simp; refine hK _ _ ?_; clear hK K
              iterate 1
                apply wpL_none rfl rfl
                · intro w' hw' hn'; go_simp; exact rfl
                intro K hK; go_simp; refine hK _ _ ?_; clear hK K
              iterate 1
                apply wpL_none rfl rfl
                · intro w' hw' hn'; have c0 := Ext.cell hw' c0; go_simp; exact rfl
                intro K hK; go_simp; refine hK _ _ ?_; clear hK K
              iterate 3
                apply wpL_none rfl rfl
                · intro w' hw' hn'; go_simp; exact rfl
                intro K hK; go_simp; refine hK _ _ ?_; clear hK K
              apply wpL_some rfl rfl
              · intro w' hw' hn'
                go_simp
                refine ⟨Ext.rfl' _, ?_⟩
                refine (hsa.out _).mono ?_
                rintro e w2 ⟨rfl, hx⟩
                exact ⟨_, rfl, hx, rfl⟩
              intro v w' hw' hD' hv
              obtain rfl : v = _ := hv
              clear hw' hD' w'
              intro K hK; go_simp; refine hK _ _ ?_; clear hK K
              iterate 4
                apply wpL_none rfl rfl
                · intro w' hw' hn'; go_simp; exact rfl
                intro K hK; go_simp; refine hK _ _ ?_; clear hK K
              iterate 1
                apply wpL_none rfl rfl
                · intro w' hw' hn'; have e8 := Ext.cell hw' e8; go_simp; exact rfl
                intro K hK; go_simp; refine hK _ _ ?_; clear hK K
              iterate 2
                apply wpL_none rfl rfl
                · intro w' hw' hn'; go_simp; exact rfl
                intro K hK; go_simp; refine hK _ _ ?_; clear hK K
              iterate 1
                apply wpL_none rfl rfl
                · intro w' hw' hn'; have c5 := Ext.cell hw' c5; go_simp; exact rfl
                intro K hK; go_simp; refine hK _ _ ?_; clear hK K
              iterate 8
                apply wpL_none rfl rfl
                · intro w' hw' hn'; go_simp; exact rfl
                intro K hK; go_simp; refine hK _ _ ?_; clear hK K
              iterate 1
                apply wpL_none rfl rfl
                · intro w' hw' hn'; have e8 := Ext.cell hw' e8; go_simp; exact rfl
                intro K hK; go_simp; refine hK _ _ ?_; clear hK K
              iterate 3
                apply wpL_none rfl rfl
                · intro w' hw' hn'; go_simp; exact rfl
                intro K hK; go_simp; refine hK _ _ ?_; clear hK K
              iterate 1
                apply wpL_none rfl rfl
                · intro w' hw' hn'; go_simp; exact rfl
                intro K hK; go_simp; refine hK _ _ ?_; clear hK K
              iterate 1
                apply wpL_none rfl rfl
                · intro w' hw' hn'; have s8 := Ext.cell hw' s8; go_simp; exact rfl
                intro K hK; go_simp; refine hK _ _ ?_; clear hK K
              iterate 2
                apply wpL_none rfl rfl
                · intro w' hw' hn'; go_simp; exact rfl
                intro K hK; go_simp; refine hK _ _ ?_; clear hK K
              iterate 2
                apply wpL_none rfl rfl
                · intro w' hw' hn'; go_simp; exact rfl
                intro K hK; go_simp; refine hK _ _ ?_; clear hK K
              refine wpL_nil ?_
              intro w6 hx6 _
              go_wp2_with fail
              go_meet
              case rel => exact ⟨rfl, hx6⟩
          · have hn0' : ((pn2 : Int) == 0) = false := by simp; omega
            as_aux_lemma =>
              refine wp_region_grow [(12, Loose.is (.int .u32 P.seq))] (lasts_is lasts_nil) (by kernel_rfl) (by kernel_rfl) ?_
              iterate 4
                apply wpL_none rfl rfl
                · intro w' hw' hn'; go_simp; exact rfl
                intro K hK; go_simp; refine hK _ _ ?_; clear hK K
              iterate 1
                apply wpL_none rfl rfl
                · intro w' hw' hn'; have e2 := Ext.cell hw' e2; go_simp; exact rfl
                intro K hK; go_simp; refine hK _ _ ?_; clear hK K
              iterate 1
                apply wpL_none rfl rfl
                · intro w' hw' hn'; go_simp; exact rfl
                intro K hK; go_simp; refine hK _ _ ?_; clear hK K
              iterate 1
                apply wpL_none rfl rfl
                · intro w' hw' hn'; have s2 := Ext.cell hw' s2; go_simp; exact rfl
                intro K hK; go_simp; refine hK _ _ ?_; clear hK K
              iterate 1
                apply wpL_none rfl rfl
                · intro w' hw' hn'; go_simp; exact rfl
                intro K hK; go_simp; refine hK _ _ ?_; clear hK K
              iterate 1
                apply wpL_none rfl rfl
                · intro w' hw' hn'; have c0 := Ext.cell hw' c0; go_simp; exact rfl
                intro K hK; go_simp; refine hK _ _ ?_; clear hK K
              iterate 3
                apply wpL_none rfl rfl
                · intro w' hw' hn'; go_simp; exact rfl
                intro K hK; go_simp; refine hK _ _ ?_; clear hK K
              apply wpL_some rfl rfl
              · intro w' hw' hn'
                go_simp
                refine ⟨Ext.rfl' _, ?_⟩
                refine (hsa.out _).mono ?_
                rintro e w2 ⟨rfl, hx⟩
                exact ⟨_, rfl, hx, rfl⟩
              intro v w' hw' hD' hv
              obtain rfl : v = _ := hv
              clear hw' hD' w'
              intro K hK; go_simp; refine hK _ _ ?_; clear hK K
              iterate 4
                apply wpL_none rfl rfl
                · intro w' hw' hn'; go_simp; exact rfl
                intro K hK; go_simp; refine hK _ _ ?_; clear hK K
              iterate 1
                apply wpL_none rfl rfl
                · intro w' hw' hn'; have e8 := Ext.cell hw' e8; go_simp; exact rfl
                intro K hK; go_simp; refine hK _ _ ?_; clear hK K
              iterate 2
                apply wpL_none rfl rfl
                · intro w' hw' hn'; go_simp; exact rfl
                intro K hK; go_simp; refine hK _ _ ?_; clear hK K
              iterate 1
                apply wpL_none rfl rfl
                · intro w' hw' hn'; have c5 := Ext.cell hw' c5; go_simp; exact rfl
                intro K hK; go_simp; refine hK _ _ ?_; clear hK K
              iterate 8
                apply wpL_none rfl rfl
                · intro w' hw' hn'; go_simp; exact rfl
                intro K hK; go_simp; refine hK _ _ ?_; clear hK K
              iterate 1
                apply wpL_none rfl rfl
                · intro w' hw' hn'; have e8 := Ext.cell hw' e8; go_simp; exact rfl
                intro K hK; go_simp; refine hK _ _ ?_; clear hK K
              iterate 3
                apply wpL_none rfl rfl
                · intro w' hw' hn'; go_simp; exact rfl
                intro K hK; go_simp; refine hK _ _ ?_; clear hK K
              iterate 4
                with_reducible refine wpL_skip ?_ ?_
                · rfl
                intro K hK; go_simp; refine hK _ _ ?_; clear hK K
              iterate 2
                apply wpL_none rfl rfl
                · intro w' hw' hn'; go_simp; exact rfl
                intro K hK; go_simp; refine hK _ _ ?_; clear hK K
              refine wpL_nil ?_
              intro w6 hx6 _
              go_wp2_with fail
              go_meet
              case rel => exact ⟨rfl, hx6⟩
      obtain ⟨rfl, hxc⟩ := hcut
      obtain ⟨W6, rfl⟩ : ∃ W6 : World, W6 = wc := ⟨_, rfl⟩
      replace j0 := hxc.block j0
      replace j1 := hxc.block j1
      replace kp := hxc.block kp
      replace y3 := hxc.cell y3
      replace y5 := hxc.cell y5
      have hxw6 := hxw5.tr hxc
      have HPD6 := Lib.hid (HPD5.out.ext hxc)
      have hq6 := hq5.tr hxc
      clear HPD5 hxc hxw5 hsa hmx hgt hw1 hw2 hw3 hq5
      have e8 := cell_blk kp 8
      have s8 := cell_blk j1 8
      simp at e8 s8
      go_wp2_with fail
      have hpn : (pn2 : Int) ≤ (G.data.length : Int) := by omega
      go_loopw [94] (fun jv wr2 => ∃ j : Nat, j ≤ pn2 ∧ jv = .int .i64 j ∧ Ext W6 wr2) (fun jv _ => pn2 - (intOf jv).toNat)
      case atStart => exact ⟨0, Nat.zero_le _, rfl, Ext.rfl' _⟩
      case round =>
        obtain ⟨j, hj, rfl, hxj⟩ := hrel
        by_cases hjl : j < pn2
        · obtain ⟨_, _, he, r1, r2, r3⟩ := HPD6.out.ext hxj
          have hpl : P.data.length = pn2 := by cases he; rfl
          rw [hpl] at he r1 r3
          cases he
          unfold maxLen at r2
          rcases r3 with r3 | ⟨pb, po, rfl, r3⟩
          · have h0 := congrArg List.length r3; rw [hpl, List.length_nil] at h0; omega
          have f1 := r3 j hjl
          rcases hu3 with h3 | ⟨sb, so, rfl, h3⟩
          · have h0 := congrArg List.length h3; rw [List.length_nil] at h0; omega
          have f2 := hxw6.cell (h3 (AT + j) (by omega))
          replace f2 := hxj.cell f2
          have hval : P.data.getD j 0 = G.data.getD (AT + j) 0 := by
            rw [HP9.out]
            simp [List.getD, hjl]
          rw [hval] at f1
          generalize G.data.getD (AT + j) 0 = D at *
          have hjp : (j : Int) < (pn2 : Int) := by omega
          have hz1 : decide ((G.data.length : Int) ≤ (AT : Int) + (j : Int)) = false := decide_eq_false (by omega)
          obtain ⟨z, hz⟩ : ∃ z : Nat, z = AT + j := ⟨_, rfl⟩
          rw [← hz] at f2
          have hzi : (AT : Int) + (j : Int) = (z : Int) := by omega
          have hzl : (z : Int) < (G.data.length : Int) := by omega
          have hzc : z < cu := by omega
          have HZZ := Lib.hid hz
          replace s8 := hxj.cell s8
          clear r3 h3 hval hz
          go_wp2_with fail
          go_roundw
          case rel => exact ⟨j + 1, by omega, by go_num, hxj⟩
          case measure => simp [intOf]; omega
        · obtain rfl : j = pn2 := by omega
          replace j0 := hxj.block j0
          replace j1 := hxj.block j1
          replace kp := hxj.block kp
          replace y3 := hxj.cell y3
          replace y5 := hxj.cell y5
          replace s8 := hxj.cell s8
          replace e8 := hxj.cell e8
          have hxr := hxw6.tr hxj
          have hq7 := hq6.tr hxj
          obtain ⟨W7, rfl⟩ : ∃ W7 : World, W7 = wr := ⟨_, rfl⟩
          have hlb : ((k : Int) == (C : Int) - 1) = decide (k + 1 = C) := by
            rw [Bool.eq_iff_iff, beq_iff_eq, decide_eq_true_iff]; omega
          clear hxj hxw6 HPD6
          generalize hLB : decide (k + 1 = C) = lb at *
          go_upto_region 22 with (fail)
          have hfin : ((min ((k + 1) * N) G.data.length : Nat) : Int) = (AT : Int) + (j : Int) := by
            have h1 := cnt_lt (len := G.data.length) (i := k + 1) hNb
            rw [HCE.out] at h1
            rcases Nat.lt_or_ge (k + 1) C with h | h
            · have := ha3 h
              rw [← this]; omega
            · have h2 := ha2.1 (by omega)
              omega
          have HFIN := Lib.hid hfin
          clear hfin
          go_cut [188] from 42 to 189 (fun v wc => v = .bool false ∧ Ext W7 wc)
          case first =>
            have e0 : W7.cell? ⟨B, 0, none⟩ = some (.int .u16 G.sp) := by rw [← HP1.out]; exact cell_blk kp 0
            have e1 : W7.cell? ⟨B, 1, none⟩ = some (.int .u16 G.dp) := by rw [← HP2.out]; exact cell_blk kp 1
            have e3 : W7.cell? ⟨B, 3, none⟩ = some (.int .u32 P.ack) := cell_blk kp 3
            have e4 : W7.cell? ⟨B, 4, none⟩ = some (.int .u8 P.f) := cell_blk kp 4
            have e5 : W7.cell? ⟨B, 5, none⟩ = some (.int .u16 P.win) := cell_blk kp 5
            have s0 : W7.cell? ⟨w.heap.size + 1, 0, none⟩ = some (.int .u16 G.sp) := cell_blk j1 0
            have s1 : W7.cell? ⟨w.heap.size + 1, 1, none⟩ = some (.int .u16 G.dp) := cell_blk j1 1
            have s4 : W7.cell? ⟨w.heap.size + 1, 4, none⟩ = some (.int .u8 G.f) := cell_blk j1 4
            have h20p : bits BinOp.and IntKind.u8 P.f 20 = and20 G.f := HP6.out
            have h20g : bits BinOp.and IntKind.u8 G.f 20 = and20 G.f := rfl
            have h9p : bits BinOp.and IntKind.u8 P.f 9 = if AT + j < G.data.length then 0 else and9 G.f := HP7.out
            have h9g : bits BinOp.and IntKind.u8 G.f 9 = and9 G.f := rfl
            have hc0 : (0 : Int) < (C : Int) := by omega
            have hc0n : 0 < C := by omega
            have hc0l : 0 < cl := by omega
            have hlst : AT + j < G.data.length ↔ ¬ k + 1 = C := by rw [ha2]; omega
            have HXX := Lib.hid hlst
            clear hlst ha2 ha3
            rcases lb with _ | _
            · have hne : ¬ k + 1 = C := by simpa using hLB
              rw [if_pos (HXX.out.2 hne)] at h9p
              clear hLB hne hlb
              as_aux_lemma =>
                refine wp_region_grow [] lasts_nil (by kernel_rfl) (by kernel_rfl) ?_
                iterate 1
                  apply wpL_none rfl rfl
                  · intro w' hw' hn'; go_simp; exact rfl
                  intro K hK; go_simp; refine hK _ _ ?_; clear hK K
                iterate 1
                  apply wpL_none rfl rfl
                  · intro w' hw' hn'; have e4 := Ext.cell hw' e4; go_simp; exact rfl
                  intro K hK; go_simp; refine hK _ _ ?_; clear hK K
                iterate 3
                  apply wpL_none rfl rfl
                  · intro w' hw' hn'; go_simp; exact rfl
                  intro K hK; go_simp; refine hK _ _ ?_; clear hK K
                iterate 2
                  with_reducible refine wpL_skip ?_ ?_
                  · rfl
                  intro K hK; go_simp; refine hK _ _ ?_; clear hK K
                iterate 4
                  apply wpL_none rfl rfl
                  · intro w' hw' hn'; go_simp; exact rfl
                  intro K hK; go_simp; refine hK _ _ ?_; clear hK K
                iterate 7
                  with_reducible refine wpL_skip ?_ ?_
                  · rfl
                  intro K hK; go_simp; refine hK _ _ ?_; clear hK K
                iterate 3
                  apply wpL_none rfl rfl
                  · intro w' hw' hn'; go_simp; exact rfl
                  intro K hK; go_simp; refine hK _ _ ?_; clear hK K
                iterate 1
                  apply wpL_none rfl rfl
                  · intro w' hw' hn'; go_simp; exact rfl
                  intro K hK; go_simp; refine hK _ _ ?_; clear hK K
                iterate 1
                  apply wpL_none rfl rfl
                  · intro w' hw' hn'; have e0 := Ext.cell hw' e0; go_simp; exact rfl
                  intro K hK; go_simp; refine hK _ _ ?_; clear hK K
                iterate 1
                  apply wpL_none rfl rfl
                  · intro w' hw' hn'; go_simp; exact rfl
                  intro K hK; go_simp; refine hK _ _ ?_; clear hK K
                iterate 1
                  apply wpL_none rfl rfl
                  · intro w' hw' hn'; have s0 := Ext.cell hw' s0; go_simp; exact rfl
                  intro K hK; go_simp; refine hK _ _ ?_; clear hK K
                iterate 4
                  apply wpL_none rfl rfl
                  · intro w' hw' hn'; go_simp; exact rfl
                  intro K hK; go_simp; refine hK _ _ ?_; clear hK K
                iterate 1
                  apply wpL_none rfl rfl
                  · intro w' hw' hn'; have e1 := Ext.cell hw' e1; go_simp; exact rfl
                  intro K hK; go_simp; refine hK _ _ ?_; clear hK K
                iterate 1
                  apply wpL_none rfl rfl
                  · intro w' hw' hn'; go_simp; exact rfl
                  intro K hK; go_simp; refine hK _ _ ?_; clear hK K
                iterate 1
                  apply wpL_none rfl rfl
                  · intro w' hw' hn'; have s1 := Ext.cell hw' s1; go_simp; exact rfl
                  intro K hK; go_simp; refine hK _ _ ?_; clear hK K
                iterate 4
                  apply wpL_none rfl rfl
                  · intro w' hw' hn'; go_simp; exact rfl
                  intro K hK; go_simp; refine hK _ _ ?_; clear hK K
                iterate 1
                  apply wpL_none rfl rfl
                  · intro w' hw' hn'; have e3 := Ext.cell hw' e3; go_simp; exact rfl
                  intro K hK; go_simp; refine hK _ _ ?_; clear hK K
                iterate 3
                  apply wpL_none rfl rfl
                  · intro w' hw' hn'; go_simp; exact rfl
                  intro K hK; go_simp; refine hK _ _ ?_; clear hK K
                iterate 1
                  apply wpL_none rfl rfl
                  · intro w' hw' hn'; have y3 := Ext.cell hw' y3; go_simp; exact rfl
                  intro K hK; go_simp; refine hK _ _ ?_; clear hK K
                iterate 4
                  apply wpL_none rfl rfl
                  · intro w' hw' hn'; go_simp; exact rfl
                  intro K hK; go_simp; refine hK _ _ ?_; clear hK K
                iterate 1
                  apply wpL_none rfl rfl
                  · intro w' hw' hn'; have e5 := Ext.cell hw' e5; go_simp; exact rfl
                  intro K hK; go_simp; refine hK _ _ ?_; clear hK K
                iterate 3
                  apply wpL_none rfl rfl
                  · intro w' hw' hn'; go_simp; exact rfl
                  intro K hK; go_simp; refine hK _ _ ?_; clear hK K
                iterate 1
                  apply wpL_none rfl rfl
                  · intro w' hw' hn'; have y5 := Ext.cell hw' y5; go_simp; exact rfl
                  intro K hK; go_simp; refine hK _ _ ?_; clear hK K
                iterate 4
                  apply wpL_none rfl rfl
                  · intro w' hw' hn'; go_simp; exact rfl
                  intro K hK; go_simp; refine hK _ _ ?_; clear hK K
                iterate 1
                  apply wpL_none rfl rfl
                  · intro w' hw' hn'; have e4 := Ext.cell hw' e4; go_simp; exact rfl
                  intro K hK; go_simp; refine hK _ _ ?_; clear hK K
                iterate 2
                  apply wpL_none rfl rfl
                  · intro w' hw' hn'; go_simp; exact rfl
                  intro K hK; go_simp; refine hK _ _ ?_; clear hK K
                iterate 1
                  apply wpL_none rfl rfl
                  · intro w' hw' hn'; have s4 := Ext.cell hw' s4; go_simp; exact rfl
                  intro K hK; go_simp; refine hK _ _ ?_; clear hK K
                iterate 3
                  apply wpL_none rfl rfl
                  · intro w' hw' hn'; go_simp; exact rfl
                  intro K hK; go_simp; refine hK _ _ ?_; clear hK K
                refine wpL_nil ?_
                intro w8 hx8 _
                go_wp2_with fail
                go_meet
                case rel => exact ⟨rfl, hx8⟩
            · have heq : k + 1 = C := by simpa using hLB
              rw [if_neg (fun h => HXX.out.1 h heq)] at h9p
              clear hLB heq hlb
              generalize and9 G.f = F9 at *
              by_cases hF : F9 = 0
              · subst hF
                as_aux_lemma =>
                  refine wp_region_grow [] lasts_nil (by kernel_rfl) (by kernel_rfl) ?_
                  iterate 1
                    apply wpL_none rfl rfl
                    · intro w' hw' hn'; go_simp; exact rfl
                    intro K hK; go_simp; refine hK _ _ ?_; clear hK K
                  iterate 1
                    apply wpL_none rfl rfl
                    · intro w' hw' hn'; have e4 := Ext.cell hw' e4; go_simp; exact rfl
                    intro K hK; go_simp; refine hK _ _ ?_; clear hK K
                  iterate 3
                    apply wpL_none rfl rfl
                    · intro w' hw' hn'; go_simp; exact rfl
                    intro K hK; go_simp; refine hK _ _ ?_; clear hK K
                  iterate 2
                    with_reducible refine wpL_skip ?_ ?_
                    · rfl
                    intro K hK; go_simp; refine hK _ _ ?_; clear hK K
                  iterate 5
                    apply wpL_none rfl rfl
                    · intro w' hw' hn'; go_simp; exact rfl
                    intro K hK; go_simp; refine hK _ _ ?_; clear hK K
                  iterate 1
                    apply wpL_none rfl rfl
                    · intro w' hw' hn'; have e4 := Ext.cell hw' e4; go_simp; exact rfl
                    intro K hK; go_simp; refine hK _ _ ?_; clear hK K
                  iterate 2
                    apply wpL_none rfl rfl
                    · intro w' hw' hn'; go_simp; exact rfl
                    intro K hK; go_simp; refine hK _ _ ?_; clear hK K
                  iterate 1
                    apply wpL_none rfl rfl
                    · intro w' hw' hn'; have s4 := Ext.cell hw' s4; go_simp; exact rfl
                    intro K hK; go_simp; refine hK _ _ ?_; clear hK K
                  iterate 5
                    apply wpL_none rfl rfl
                    · intro w' hw' hn'; go_simp; exact rfl
                    intro K hK; go_simp; refine hK _ _ ?_; clear hK K
                  iterate 1
                    apply wpL_none rfl rfl
                    · intro w' hw' hn'; go_simp; exact rfl
                    intro K hK; go_simp; refine hK _ _ ?_; clear hK K
                  iterate 1
                    apply wpL_none rfl rfl
                    · intro w' hw' hn'; have e0 := Ext.cell hw' e0; go_simp; exact rfl
                    intro K hK; go_simp; refine hK _ _ ?_; clear hK K
                  iterate 1
                    apply wpL_none rfl rfl
                    · intro w' hw' hn'; go_simp; exact rfl
                    intro K hK; go_simp; refine hK _ _ ?_; clear hK K
                  iterate 1
                    apply wpL_none rfl rfl
                    · intro w' hw' hn'; have s0 := Ext.cell hw' s0; go_simp; exact rfl
                    intro K hK; go_simp; refine hK _ _ ?_; clear hK K
                  iterate 4
                    apply wpL_none rfl rfl
                    · intro w' hw' hn'; go_simp; exact rfl
                    intro K hK; go_simp; refine hK _ _ ?_; clear hK K
                  iterate 1
                    apply wpL_none rfl rfl
                    · intro w' hw' hn'; have e1 := Ext.cell hw' e1; go_simp; exact rfl
                    intro K hK; go_simp; refine hK _ _ ?_; clear hK K
                  iterate 1
                    apply wpL_none rfl rfl
                    · intro w' hw' hn'; go_simp; exact rfl
                    intro K hK; go_simp; refine hK _ _ ?_; clear hK K
                  iterate 1
                    apply wpL_none rfl rfl
                    · intro w' hw' hn'; have s1 := Ext.cell hw' s1; go_simp; exact rfl
                    intro K hK; go_simp; refine hK _ _ ?_; clear hK K
                  iterate 4
                    apply wpL_none rfl rfl
                    · intro w' hw' hn'; go_simp; exact rfl
                    intro K hK; go_simp; refine hK _ _ ?_; clear hK K
                  iterate 1
                    apply wpL_none rfl rfl
                    · intro w' hw' hn'; have e3 := Ext.cell hw' e3; go_simp; exact rfl
                    intro K hK; go_simp; refine hK _ _ ?_; clear hK K
                  iterate 3
                    apply wpL_none rfl rfl
                    · intro w' hw' hn'; go_simp; exact rfl
                    intro K hK; go_simp; refine hK _ _ ?_; clear hK K
                  iterate 1
                    apply wpL_none rfl rfl
                    · intro w' hw' hn'; have y3 := Ext.cell hw' y3; go_simp; exact rfl
                    intro K hK; go_simp; refine hK _ _ ?_; clear hK K
                  iterate 4
                    apply wpL_none rfl rfl
                    · intro w' hw' hn'; go_simp; exact rfl
                    intro K hK; go_simp; refine hK _ _ ?_; clear hK K
                  iterate 1
                    apply wpL_none rfl rfl
                    · intro w' hw' hn'; have e5 := Ext.cell hw' e5; go_simp; exact rfl
                    intro K hK; go_simp; refine hK _ _ ?_; clear hK K
                  iterate 3
                    apply wpL_none rfl rfl
                    · intro w' hw' hn'; go_simp; exact rfl
                    intro K hK; go_simp; refine hK _ _ ?_; clear hK K
                  iterate 1
                    apply wpL_none rfl rfl
                    · intro w' hw' hn'; have y5 := Ext.cell hw' y5; go_simp; exact rfl
                    intro K hK; go_simp; refine hK _ _ ?_; clear hK K
                  iterate 4
                    apply wpL_none rfl rfl
                    · intro w' hw' hn'; go_simp; exact rfl
                    intro K hK; go_simp; refine hK _ _ ?_; clear hK K
                  iterate 1
                    apply wpL_none rfl rfl
                    · intro w' hw' hn'; have e4 := Ext.cell hw' e4; go_simp; exact rfl
                    intro K hK; go_simp; refine hK _ _ ?_; clear hK K
                  iterate 2
                    apply wpL_none rfl rfl
                    · intro w' hw' hn'; go_simp; exact rfl
                    intro K hK; go_simp; refine hK _ _ ?_; clear hK K
                  iterate 1
                    apply wpL_none rfl rfl
                    · intro w' hw' hn'; have s4 := Ext.cell hw' s4; go_simp; exact rfl
                    intro K hK; go_simp; refine hK _ _ ?_; clear hK K
                  iterate 3
                    apply wpL_none rfl rfl
                    · intro w' hw' hn'; go_simp; exact rfl
                    intro K hK; go_simp; refine hK _ _ ?_; clear hK K
                  refine wpL_nil ?_
                  intro w8 hx8 _
                  go_wp2_with fail
                  go_meet
                  case rel => exact ⟨rfl, hx8⟩
              · have hF' : (F9 != 0) = true := by simp [hF]
                as_aux_lemma =>
                  refine wp_region_grow [] lasts_nil (by kernel_rfl) (by kernel_rfl) ?_
                  iterate 1
                    apply wpL_none rfl rfl
                    · intro w' hw' hn'; go_simp; exact rfl
                    intro K hK; go_simp; refine hK _ _ ?_; clear hK K
                  iterate 1
                    apply wpL_none rfl rfl
                    · intro w' hw' hn'; have e4 := Ext.cell hw' e4; go_simp; exact rfl
                    intro K hK; go_simp; refine hK _ _ ?_; clear hK K
                  iterate 3
                    apply wpL_none rfl rfl
                    · intro w' hw' hn'; go_simp; exact rfl
                    intro K hK; go_simp; refine hK _ _ ?_; clear hK K
                  iterate 2
                    apply wpL_none rfl rfl
                    · intro w' hw' hn'; go_simp; exact rfl
                    intro K hK; go_simp; refine hK _ _ ?_; clear hK K
                  iterate 5
                    apply wpL_none rfl rfl
                    · intro w' hw' hn'; go_simp; exact rfl
                    intro K hK; go_simp; refine hK _ _ ?_; clear hK K
                  iterate 1
                    apply wpL_none rfl rfl
                    · intro w' hw' hn'; have e4 := Ext.cell hw' e4; go_simp; exact rfl
                    intro K hK; go_simp; refine hK _ _ ?_; clear hK K
                  iterate 2
                    apply wpL_none rfl rfl
                    · intro w' hw' hn'; go_simp; exact rfl
                    intro K hK; go_simp; refine hK _ _ ?_; clear hK K
                  iterate 1
                    apply wpL_none rfl rfl
                    · intro w' hw' hn'; have s4 := Ext.cell hw' s4; go_simp; exact rfl
                    intro K hK; go_simp; refine hK _ _ ?_; clear hK K
                  iterate 5
                    apply wpL_none rfl rfl
                    · intro w' hw' hn'; go_simp; exact rfl
                    intro K hK; go_simp; refine hK _ _ ?_; clear hK K
                  iterate 1
                    apply wpL_none rfl rfl
                    · intro w' hw' hn'; go_simp; exact rfl
                    intro K hK; go_simp; refine hK _ _ ?_; clear hK K
                  iterate 1
                    apply wpL_none rfl rfl
                    · intro w' hw' hn'; have e0 := Ext.cell hw' e0; go_simp; exact rfl
                    intro K hK; go_simp; refine hK _ _ ?_; clear hK K
                  iterate 1
                    apply wpL_none rfl rfl
                    · intro w' hw' hn'; go_simp; exact rfl
                    intro K hK; go_simp; refine hK _ _ ?_; clear hK K
                  iterate 1
                    apply wpL_none rfl rfl
                    · intro w' hw' hn'; have s0 := Ext.cell hw' s0; go_simp; exact rfl
                    intro K hK; go_simp; refine hK _ _ ?_; clear hK K
                  iterate 4
                    apply wpL_none rfl rfl
                    · intro w' hw' hn'; go_simp; exact rfl
                    intro K hK; go_simp; refine hK _ _ ?_; clear hK K
                  iterate 1
                    apply wpL_none rfl rfl
                    · intro w' hw' hn'; have e1 := Ext.cell hw' e1; go_simp; exact rfl
                    intro K hK; go_simp; refine hK _ _ ?_; clear hK K
                  iterate 1
                    apply wpL_none rfl rfl
                    · intro w' hw' hn'; go_simp; exact rfl
                    intro K hK; go_simp; refine hK _ _ ?_; clear hK K
                  iterate 1
                    apply wpL_none rfl rfl
                    · intro w' hw' hn'; have s1 := Ext.cell hw' s1; go_simp; exact rfl
                    intro K hK; go_simp; refine hK _ _ ?_; clear hK K
                  iterate 4
                    apply wpL_none rfl rfl
                    · intro w' hw' hn'; go_simp; exact rfl
                    intro K hK; go_simp; refine hK _ _ ?_; clear hK K
                  iterate 1
                    apply wpL_none rfl rfl
                    · intro w' hw' hn'; have e3 := Ext.cell hw' e3; go_simp; exact rfl
                    intro K hK; go_simp; refine hK _ _ ?_; clear hK K
                  iterate 3
                    apply wpL_none rfl rfl
                    · intro w' hw' hn'; go_simp; exact rfl
                    intro K hK; go_simp; refine hK _ _ ?_; clear hK K
                  iterate 1
                    apply wpL_none rfl rfl
                    · intro w' hw' hn'; have y3 := Ext.cell hw' y3; go_simp; exact rfl
                    intro K hK; go_simp; refine hK _ _ ?_; clear hK K
                  iterate 4
                    apply wpL_none rfl rfl
                    · intro w' hw' hn'; go_simp; exact rfl
                    intro K hK; go_simp; refine hK _ _ ?_; clear hK K
                  iterate 1
                    apply wpL_none rfl rfl
                    · intro w' hw' hn'; have e5 := Ext.cell hw' e5; go_simp; exact rfl
                    intro K hK; go_simp; refine hK _ _ ?_; clear hK K
                  iterate 3
                    apply wpL_none rfl rfl
                    · intro w' hw' hn'; go_simp; exact rfl
                    intro K hK; go_simp; refine hK _ _ ?_; clear hK K
                  iterate 1
                    apply wpL_none rfl rfl
                    · intro w' hw' hn'; have y5 := Ext.cell hw' y5; go_simp; exact rfl
                    intro K hK; go_simp; refine hK _ _ ?_; clear hK K
                  iterate 4
                    apply wpL_none rfl rfl
                    · intro w' hw' hn'; go_simp; exact rfl
                    intro K hK; go_simp; refine hK _ _ ?_; clear hK K
                  iterate 1
                    apply wpL_none rfl rfl
                    · intro w' hw' hn'; have e4 := Ext.cell hw' e4; go_simp; exact rfl
                    intro K hK; go_simp; refine hK _ _ ?_; clear hK K
                  iterate 2
                    apply wpL_none rfl rfl
                    · intro w' hw' hn'; go_simp; exact rfl
                    intro K hK; go_simp; refine hK _ _ ?_; clear hK K
                  iterate 1
                    apply wpL_none rfl rfl
                    · intro w' hw' hn'; have s4 := Ext.cell hw' s4; go_simp; exact rfl
                    intro K hK; go_simp; refine hK _ _ ?_; clear hK K
                  iterate 3
                    apply wpL_none rfl rfl
                    · intro w' hw' hn'; go_simp; exact rfl
                    intro K hK; go_simp; refine hK _ _ ?_; clear hK K
                  refine wpL_nil ?_
                  intro w8 hx8 _
                  go_wp2_with fail
                  go_meet
                  case rel => exact ⟨rfl, hx8⟩
          obtain ⟨rfl, hxc⟩ := hcut
          have hx8 := hq7.tr hxc
          go_wp2_with fail
          go_roundw
          case rel => exact ⟨k + 1, by omega, by go_num, by rw [HFIN.out], hx8⟩
          case measure => simp [intOf]; omega
    · obtain rfl : k = C := by omega
      have hmn : min (k * N) G.data.length = G.data.length := by
        have h1 := cnt_lt (len := G.data.length) (i := k) hNb
        rw [HCE.out] at h1
        omega
      rw [hmn]
      replace j1 := hx.block j1
      go_wp2_with fail
      refine (wakes25_any _).mono ?_
      rintro e w5 ⟨rfl, hx5⟩
      have s8 := cell_blk (hx5.block j1) 8
      simp at s8
      go_wp2_with fail
      go_ret
      exact ⟨rfl, (hxw4.tr hx).tr hx5⟩
end Go.Proofs.Ytmcaknmdalbpoaa.shiftBytes
