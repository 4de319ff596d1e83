/-
  Proved here: what splice's from computes (of the server's end, then of either). Conditions: as before.
-/
import Derived.Test.YtgbbpibcmpeneaaSpf
namespace Go.Proofs.Ytgbbpibcmpeneaa
set_option maxRecDepth 200000
open Go.ChangeShapes Go.WideShapes Go.ChangeAt Go.RowKit Go.Cul Go.Loose
set_option linter.unusedVariables false
attribute [local go_sem] Loose.Still Loose.Upon Loose.vUpon First.pUpon

set_option maxHeartbeats 10000000 in
set_option maxRecDepth 200000 in
theorem from_true (b : Nat) (x : Sp) (k : Bool) (hk : k = true) (g : Sg) (vo vd : Value) (w : World) (hx : x.ok) (hg : g.ok) (h : SpAt w b x) (hvo : RdO w vo g.os) (hvd : Rd .u8 w vd g.data) (hn : g.os.length ≤ 50000) (hdl : ∀ o ∈ g.os, o.2.length ≤ 1000000) (hl : g.data.length ≤ 1000000) :
    Calls Try.prog 22 #[spp b, .int .i64 (kI k), .agg (g.cells vo vd)] w fun e w' => ∃ u v, e = .returned (.tuple #[u, v, .int .i64 (frM x k g).2.2.2]) ∧ FrS w' w.heap.size u (frM x k g).2.1 ∧ FrS w' w.heap.size v (frM x k g).2.2.1 ∧ SpAt w' b (frM x k g).1 ∧ Mvs (fun j => j = b) w w' := by
  have hlt := lt_of_block h
  have h27 := cell_blk h 27
  simp at h27
  rw [hx.md] at h27
  obtain ⟨ao, co, rfl⟩ := hvo.shape
  obtain ⟨ad, cd, rfl, -, -, -⟩ := id hvd
  have hag2 := and2 g.f hg.f
  have hag4 := and4 g.f hg.f
  have hag16 := and16 g.f hg.f
  have hbh : 0 ≤ frBh g ∧ frBh g ≤ 4294967295 := by unfold frBh; omega
  have hM : Hid (frM x k g = if fl g.f 2 then (x, [], [toldG x k (x.at k).ac 16 (x.wnd k)], 0)
  else if frBad x k g then (x, [], [], 1)
  else if (overL (x.at k).ov g).2 ≠ 0 then (x, [], [], 1)
  else if fl g.f 4 then ({ x with rs := true }, (overL (x.at k).ov g).1.map (port (x.at (!k))), [], 0)
  else (x.put k (knows (x.at k) g (frBh g)), (overL (x.at k).ov g).1.map (port (x.at (!k))), [], 0)) := rfl
  have hBad : Hid (frBad x k g = if fl g.f 4 then !(frNu x k g == (x.at (!k)).ac) && !sWithin (frNu x k g) (x.at (!k)).ac (x.at (!k)).wi
  else !fl g.f 16 || sLess (x.at (!k)).se (frAk x k g) || ((x.at k).en && sLess (((x.at k).fi + 1) % 4294967296) (frBh g))) := rfl
  have hnu : IntKind.u32.wrap (g.seq + (x.at k).ov.sq) = frNu x k g := rfl
  have hak : IntKind.u32.wrap (g.ack + (x.at k).ov.ak) = frAk x k g := rfl
  have hbe : IntKind.u32.wrap (g.seq + sLen g.data.length g.f) = frBh g := rfl
  have hfi : IntKind.u32.wrap ((x.at k).fi + 1) = ((x.at k).fi + 1) % 4294967296 := rfl
  have hw1 : IntKind.i64.wrap 1 = 1 := rfl
  have hw0 : IntKind.i64.wrap 0 = 0 := rfl
  have hwin := Lib.hid (fun (W : World) (h : SpAt W b x) => window_any b x k W h hx)
  have htold := Lib.hid (fun (W : World) (h : SpAt W b x) (n f wn : Int) => told_any b x k n f wn W h)
  have hlen := Lib.hid (fun (W : World) => length_any (.int .u16 g.sp) (.int .u16 g.dp) (.int .u32 g.seq) (.int .u32 g.ack) (.int .u16 g.win) (.int .u16 g.urg) (.slice ao g.os.length co) g.f ad g.data.length cd W hg.f)
  have hwth := Lib.hid (fun (W : World) => (within_any (frNu x k g) (x.at (!k)).ac (x.at (!k)).wi W).mono (R' := fun e w' => e = .returned (.bool (sWithin (frNu x k g) (x.at (!k)).ac (x.at (!k)).wi)) ∧ Ext W w') fun e w' h => ⟨h.1, h.2 ▸ Ext.rfl' _⟩)
  have hls1 := Lib.hid (fun (W : World) => (less_any (x.at (!k)).se (frAk x k g) W (hx.at (!k)).se (by unfold frAk; omega)).mono (R' := fun e w' => e = .returned (.bool (sLess (x.at (!k)).se (frAk x k g))) ∧ Ext W w') fun e w' h => ⟨h.1, h.2 ▸ Ext.rfl' _⟩)
  have hls2 := Lib.hid (fun (W : World) => (less_any (((x.at k).fi + 1) % 4294967296) (frBh g) W (by omega) hbh).mono (R' := fun e w' => e = .returned (.bool (sLess (((x.at k).fi + 1) % 4294967296) (frBh g))) ∧ Ext W w') fun e w' h => ⟨h.1, h.2 ▸ Ext.rfl' _⟩)
  have hover := Lib.hid (fun (W : World) (hW : Ext w W) => over_any (x.at k).ov (hx.at k).ov g hg (.slice ao g.os.length co) (.slice ad g.data.length cd) W (hvo.ext hW) (hvd.ext hW) hn hdl hl)
  have hkn := Lib.hid (fun (W : World) (N h9 h13 : Nat) (h : SpAt W b x) (kN : W.heap[N]? = some (.cells (g.cells (.slice ao g.os.length co) (.slice ad g.data.length cd)) 51)) (c9 : W.cell? ⟨h9, 0, none⟩ = some (.pointer (some ⟨b, kO k, none⟩))) (c13 : W.cell? ⟨h13, 0, none⟩ = some (.int .u32 (frBh g))) (hN : N ≠ b) (hn9 : h9 ≠ b) (hn13 : h13 ≠ b) => knows_any b N h9 h13 x k g _ _ (frBh g) W hx hg hbh h kN ⟨_, _, rfl⟩ c9 c13 hN hn9 hn13 hl)
  have hLL := overL_len (x.at k).ov g
  have HLL : Hid ((overL (x.at k).ov g).1.length ≤ 1000001) := Nat.le_trans hLL (by omega)
  clear hLL
  have hr2 := end_range h k 2 (.int .u32 (x.at k).ac) rfl
  have hr5 := end_range h k 5 (.bool (x.at k).en) rfl
  have hr6 := end_range h k 6 (.int .u32 (x.at k).fi) rfl
  have hr7 := end_range h k 7 (.int .u32 (x.at k).ov.sq) rfl
  have hr8 := end_range h k 8 (.int .u32 (x.at k).ov.ak) rfl
  have hs0 := end_range h (!k) 0 (.int .u16 (x.at (!k)).lo) rfl
  have hs1 := end_range h (!k) 1 (.int .u16 (x.at (!k)).re) rfl
  have hs2 := end_range h (!k) 2 (.int .u32 (x.at (!k)).ac) rfl
  have hs3 := end_range h (!k) 3 (.int .u32 (x.at (!k)).wi) rfl
  have hs4 := end_range h (!k) 4 (.int .u32 (x.at (!k)).se) rfl
  have hro : w.rangeAt b (kO k + 7) (x.at k).ov.cells.toList := fun j v hv => by
    have hj : j < 6 := (List.getElem?_eq_some_iff.1 hv).1
    have := end_range h k (7 + j) v (by rw [← hv]; rcases (by omega : j = 0 ∨ j = 1 ∨ j = 2 ∨ j = 3 ∨ j = 4 ∨ j = 5) with rfl | rfl | rfl | rfl | rfl | rfl <;> rfl)
    rw [Nat.add_assoc]
    exact this
  have HB := Lib.hid h
  have hfb : ∀ W : World, SpAt W b x → ∀ W', W'.heap[b]? = some (.cells (x.cells.setIfInBounds 26 (.bool true)) 70) → SpAt W' b { x with rs := true } := fun W h W' h' => h'
  have HFB := Lib.hid (hfb w h)
  clear h hvo hvd hx hg hdl hbh hfb
  generalize hFN : frNu x k g = NU at *
  clear hFN
  generalize hFA : frAk x k g = AK at *
  clear hFA
  generalize hFH : frBh g = BH at *
  clear hFH
  generalize sLen g.data.length g.f = LEN at *
  generalize frBad x k g = BAD at *
  generalize sWithin NU (x.at (!k)).ac (x.at (!k)).wi = WI at *
  generalize sLess (x.at (!k)).se AK = LS at *
  generalize sLess (((x.at k).fi + 1) % 4294967296) BH = LF at *
  generalize fl g.f 2 = F2 at *
  generalize fl g.f 4 = F4 at *
  generalize fl g.f 16 = F16 at *
  generalize frM x k g = FM at *
  generalize hkk : (!k) = kn at *
  subst hk
  obtain rfl : kn = false := hkk.symm
  clear hkk
  dsimp only [kO, kI] at *
  simp only [↓reduceIte, Bool.false_eq_true, Nat.zero_add, Nat.reduceAdd] at hr2 hr5 hr6 hr7 hr8 hs0 hs1 hs2 hs3 hs4 hro hkn
  go_enter Try.func22, Try.ntmps22
  go_upto_region 1 with (fail)
  generalize hW : w.alloc _ = W
  have hxW : Ext w W := by rw [← hW]; exact Ext.new _ _
  have kN : W.heap[w.heap.size]? = some (.cells (g.cells (.slice ao g.os.length co) (.slice ad g.data.length cd)) 51) := by rw [← hW]; exact heap_alloc_new w _
  have hlW : w.heap.size < W.heap.size := lt_of_block kN
  clear hW
  have h27 := hxW.cell h27
  go_wp2_with fail
  refine (snone_any b W true h27).mono ?_
  rintro e W' ⟨rfl, hq⟩
  obtain rfl : W = W' := hq.symm
  clear h27
  go_upto_region 3 with (fail)
  refine Order.wp_region_order [0, 1, 2, 3, 4, 5, 6, 7, 8, 9, 10] [11, 12, 13] 13 (fun w' => Ext W w') (fun _ _ => False) (fun _ _ _ _ h => h.elim) (fun _ h => h) (by kernel_rfl) (by kernel_rfl) (by kernel_rfl) rfl (by kernel_rfl) ?_
  intro wd hwd
  have hwd : Ext W wd := hwd
  iterate 11
    apply Order.wpH_some rfl rfl
    · intro w' hw'; go_simp; exact rfl
    intro K hK; go_simp; refine hK _ ?_; clear hK K
  refine Order.wpH_nil ?_
  apply Order.wpI_step rfl rfl
  intro K hK
  go_simp
  refine hK _ _ (fun _ => hwd.al _) ?_
  clear hK K
  generalize hV : wd.alloc _ = V
  have hxV : Ext W V := by rw [← hV]; exact hwd.al _
  have k9 : V.heap[wd.heap.size]? = some (.cells #[.pointer none] 88) := by rw [← hV]; exact heap_alloc_new wd _
  have hlV := hwd.size
  clear hV
  refine Order.wpI_set_cell 88 rfl wd.heap.size 0 _ _ (.pointer (some ⟨b, 13, none⟩)) rfl rfl k9 (by kernel_rfl) (by decide) rfl rfl ?_
  have k9' := set_blk k9 0 (.pointer (some ⟨b, 13, none⟩))
  have hx3 : Ext W (V.setCell ⟨wd.heap.size, 0, none⟩ (.pointer (some ⟨b, 13, none⟩))) := (Mvs.set (S := fun j => j = wd.heap.size) V ⟨wd.heap.size, 0, none⟩ _ rfl).ext hxV (fun k hk => by omega)
  generalize V.setCell ⟨wd.heap.size, 0, none⟩ (.pointer (some ⟨b, 13, none⟩)) = w3 at *
  simp at k9'
  intro K hK
  refine hK _ _ (fun _ => hx3) ?_
  clear hK K
  apply Order.wpI_step rfl rfl
  intro K hK
  go_simp
  refine hK _ _ (fun h => absurd rfl h) ?_
  clear hK K
  refine Order.wpI_nil ?_
  have kN3 := hx3.block kN
  have hxw3 := hxW.tr hx3
  have h9lt : w.heap.size < wd.heap.size := by omega
  generalize wd.heap.size = h9 at *
  clear hx3 hxV hwd kN k9 hxW
  have hr5 := hxw3.cell hr5
  have hr7 := hxw3.cell hr7
  have hr8 := hxw3.cell hr8
  have c9 := cell_blk k9' 0
  simp at c9
  have n2 := cell_blk kN3 2
  have n3 := cell_blk kN3 3
  have n4 := cell_blk kN3 4
  simp at n2 n3 n4
  go_upto_region 4 with (fail)
  refine wp_region_tail 24 [(19, Loose.is (.int .u32 LEN)), (21, NewU w3.heap.size)] (lasts_cons (fun _ _ _ _ h => h) (lasts_cons NewU.lasts lasts_nil)) (by kernel_rfl) (by kernel_rfl) (by kernel_rfl) ?_
  simp only [List.take, List.drop]
  iterate 1
    apply wpL_none rfl rfl
    · intro w' hw' hn'; go_simp; exact rfl
    intro K hK; go_simp; refine hK _ _ ?_; clear hK K
  iterate 1
    apply wpL_none rfl rfl
    · intro w' hw' hn'; have n2 := Ext.cell hw' n2; go_simp; exact rfl
    intro K hK; go_simp; refine hK _ _ ?_; clear hK K
  iterate 1
    apply wpL_none rfl rfl
    · intro w' hw' hn'; have c9 := Ext.cell hw' c9; go_simp; exact rfl
    intro K hK; go_simp; refine hK _ _ ?_; clear hK K
  iterate 3
    apply wpL_none rfl rfl
    · intro w' hw' hn'; go_simp; exact rfl
    intro K hK; go_simp; refine hK _ _ ?_; clear hK K
  iterate 1
    apply wpL_none rfl rfl
    · intro w' hw' hn'; have hr7 := Ext.cell hw' hr7; go_simp; exact rfl
    intro K hK; go_simp; refine hK _ _ ?_; clear hK K
  iterate 2
    apply wpL_none rfl rfl
    · intro w' hw' hn'; go_simp; exact rfl
    intro K hK; go_simp; refine hK _ _ ?_; clear hK K
  iterate 1
    apply wpL_none rfl rfl
    · intro w' hw' hn'; have n3 := Ext.cell hw' n3; go_simp; exact rfl
    intro K hK; go_simp; refine hK _ _ ?_; clear hK K
  iterate 1
    apply wpL_none rfl rfl
    · intro w' hw' hn'; have c9 := Ext.cell hw' c9; go_simp; exact rfl
    intro K hK; go_simp; refine hK _ _ ?_; clear hK K
  iterate 3
    apply wpL_none rfl rfl
    · intro w' hw' hn'; go_simp; exact rfl
    intro K hK; go_simp; refine hK _ _ ?_; clear hK K
  iterate 1
    apply wpL_none rfl rfl
    · intro w' hw' hn'; have hr8 := Ext.cell hw' hr8; go_simp; exact rfl
    intro K hK; go_simp; refine hK _ _ ?_; clear hK K
  iterate 2
    apply wpL_none rfl rfl
    · intro w' hw' hn'; go_simp; exact rfl
    intro K hK; go_simp; refine hK _ _ ?_; clear hK K
  iterate 1
    apply wpL_none rfl rfl
    · intro w' hw' hn'; have n2 := Ext.cell hw' n2; go_simp; exact rfl
    intro K hK; go_simp; refine hK _ _ ?_; clear hK K
  apply wpL_none rfl rfl
  · intro w' hw' hn'
    exact still_load 51 _ rfl w.heap.size 0 rfl (g.cells (.slice ao g.os.length co) (.slice ad g.data.length cd)) _ (fun j v hv => by rw [Nat.zero_add, cell_blk (Ext.block hw' kN3)]; simpa using hv) Try.underlying51 rfl (by kernel_rfl)
  intro K hK; go_simp; refine hK _ _ ?_; clear hK K
  apply wpL_some rfl rfl
  · intro w' hw' hn'
    go_simp
    refine ⟨Ext.rfl' _, ?_⟩
    refine (hlen.out _).mono ?_
    rintro e w2 ⟨rfl, hx⟩
    exact ⟨_, rfl, hx, rfl⟩
  intro v w' hw' hD' hv
  obtain rfl : v = _ := hv
  clear hw' hD' w'
  intro K hK; go_simp; refine hK _ _ ?_; clear hK K
  iterate 1
    apply wpL_none rfl rfl
    · intro w' hw' hn'; go_simp; exact rfl
    intro K hK; go_simp; refine hK _ _ ?_; clear hK K
  apply wpL_some rfl rfl
  · intro w' hw' hn'
    go_simp
    exact ⟨Ext.new _ _, _, rfl, hw'.size, heap_alloc_new w' _⟩
  intro v w' hw' hD' hv
  obtain ⟨h13, rfl, -, -⟩ := hv
  clear hw' hD' w'
  intro K hK; go_simp; refine hK _ _ ?_; clear hK K
  iterate 2
    apply wpL_none rfl rfl
    · intro w' hw' hn'; go_simp; exact rfl
    intro K hK; go_simp; refine hK _ _ ?_; clear hK K
  refine wpL_nil ?_
  intro w4 hx4 hD4
  obtain ⟨_, he, hg13, k13⟩ : NewU w3.heap.size (.pointer (some ⟨h13, 0, none⟩)) w4 := hD4 21
  cases he
  clear hD4
  have hx4 : Ext w3 w4 := hx4
  have hsz3 := hxw3.size
  refine wpVL_put_cell 22 h13 0 _ _ (.int .u32 BH) rfl rfl k13 (by kernel_rfl) (by decide) rfl rfl ?_
  intro w5 k13 hm5
  refine wpVL_nil ?_
  simp only [Act.put]
  simp at k13
  have hx5 : Ext w3 w5 := hm5.ext hx4 (fun k hk => by omega)
  have hxw5 := hxw3.tr hx5
  have h913 : h9 < h13 := Nat.lt_of_lt_of_le (lt_of_cell c9) hg13
  clear hm5 hx4 hr7 hr8 hr5
  have kN := hx5.block kN3
  have c9 := hx5.cell c9
  have c13 := cell_blk k13 0
  simp at c13
  have n4 := cell_blk kN 4
  simp at n4
  clear kN3 k9' n2 n3 hx5 hlen
  have HB5 := Lib.hid (hxw5.block HB.out)
  have h13b : b < h13 := by omega
  have h9b : b < h9 := by omega
  go_upto_region 5 with (fail)
  go_cut [14] from 19 (fun v wc => v = .bool F4 ∧ wc = w5)
  case first =>
    cases F4
    all_goals
      simp only [Bool.false_eq_true, if_true, if_false] at hag4
      go_wp2_with fail
      go_meet
      case rel => exact ⟨rfl, rfl⟩
  obtain ⟨rfl, rfl⟩ := hcut
  obtain ⟨w5, rfl⟩ : ∃ w5 : World, w5 = wc := ⟨_, rfl⟩
  have hr2 := hxw5.cell hr2
  have hr5 := hxw5.cell hr5
  have hr6 := hxw5.cell hr6
  have hs2 := hxw5.cell hs2
  have hs3 := hxw5.cell hs3
  have hs4 := hxw5.cell hs4
  clear hag4
  go_upto_block 0 with (fail)
  go_cut [] from 19 (fun wc => Ext w5 wc ∧ F2 = false ∧ BAD = false)
  case first =>
    cases F2
    · simp only [Bool.false_eq_true, if_false] at hag2
      cases F4
      · have hBad2 := Lib.hid (hBad.out.trans (if_neg (by decide)))
        clear hBad
        cases F16
        · simp only [Bool.false_eq_true, if_false] at hag16
          have hbd := Lib.hid (hBad2.out.trans (show _ = true by simp))
          go_upto_region 8 with (fail)
          refine wp_region_grow [] lasts_nil (by kernel_rfl) (by kernel_rfl) ?_
          iterate 2
            apply wpL_none rfl rfl
            · intro w' hw' hn'; go_simp; exact rfl
            intro K hK; go_simp; refine hK _ _ ?_; clear hK K
          iterate 6
            with_reducible refine wpL_skip ?_ ?_
            · rfl
            intro K hK; go_simp; refine hK _ _ ?_; clear hK K
          iterate 2
            apply wpL_none rfl rfl
            · intro w' hw' hn'; go_simp; exact rfl
            intro K hK; go_simp; refine hK _ _ ?_; clear hK K
          iterate 11
            with_reducible refine wpL_skip ?_ ?_
            · rfl
            intro K hK; go_simp; refine hK _ _ ?_; clear hK K
          iterate 2
            apply wpL_none rfl rfl
            · intro w' hw' hn'; go_simp; exact rfl
            intro K hK; go_simp; refine hK _ _ ?_; clear hK K
          refine wpL_nil ?_
          intro w6 hx6 _
          have n4 := Ext.cell hx6 n4
          go_wp2_with fail
          refine bodyPost_ret (v := .tuple #[.slice none 0 0, .slice none 0 0, .int .i64 1]) (by simp [results, Try.results22, go_sem]) rfl ?_
          rw [(hM.out.trans (if_neg (by decide))).trans (if_pos hbd.out)]
          exact ⟨_, _, rfl, FrS.nil _ _, FrS.nil _ _, Ext.block hx6 HB5.out, Mvs.ofExt (hxw5.tr hx6)⟩
        · simp only [if_true] at hag16
          go_upto_region 8 with (fail)
          refine wp_region_grow [] lasts_nil (by kernel_rfl) (by kernel_rfl) ?_
          iterate 2
            apply wpL_none rfl rfl
            · intro w' hw' hn'; go_simp; exact rfl
            intro K hK; go_simp; refine hK _ _ ?_; clear hK K
          iterate 6
            with_reducible refine wpL_skip ?_ ?_
            · rfl
            intro K hK; go_simp; refine hK _ _ ?_; clear hK K
          iterate 2
            apply wpL_none rfl rfl
            · intro w' hw' hn'; go_simp; exact rfl
            intro K hK; go_simp; refine hK _ _ ?_; clear hK K
          iterate 11
            with_reducible refine wpL_skip ?_ ?_
            · rfl
            intro K hK; go_simp; refine hK _ _ ?_; clear hK K
          iterate 2
            apply wpL_none rfl rfl
            · intro w' hw' hn'; go_simp; exact rfl
            intro K hK; go_simp; refine hK _ _ ?_; clear hK K
          refine wpL_nil ?_
          intro w6 hx6 _
          have hx6 : Ext w5 w6 := hx6
          have n4 := hx6.cell n4
          have hs4 := hx6.cell hs4
          go_wp2_with fail
          refine (hls1.out _).mono ?_
          rintro e w7 ⟨rfl, hx7⟩
          have hx7 := hx6.tr hx7
          cases LS
          · have c9 := hx7.cell c9
            have hr5 := hx7.cell hr5
            have hr6 := hx7.cell hr6
            have c13 := hx7.cell c13
            generalize hen : (x.at true).en = en at hr5 hBad2
            cases en
            · have hbd := Lib.hid (hBad2.out.trans (show _ = false by simp))
              go_upto_region 12 with (fail)
              refine wp_region_grow [] lasts_nil (by kernel_rfl) (by kernel_rfl) ?_
              iterate 3
                apply wpL_none rfl rfl
                · intro w' hw' hn'; go_simp; exact rfl
                intro K hK; go_simp; refine hK _ _ ?_; clear hK K
              iterate 1
                apply wpL_none rfl rfl
                · intro w' hw' hn'; have c9 := Ext.cell hw' c9; go_simp; exact rfl
                intro K hK; go_simp; refine hK _ _ ?_; clear hK K
              iterate 2
                apply wpL_none rfl rfl
                · intro w' hw' hn'; go_simp; exact rfl
                intro K hK; go_simp; refine hK _ _ ?_; clear hK K
              iterate 1
                apply wpL_none rfl rfl
                · intro w' hw' hn'; have hr5 := Ext.cell hw' hr5; go_simp; exact rfl
                intro K hK; go_simp; refine hK _ _ ?_; clear hK K
              iterate 2
                apply wpL_none rfl rfl
                · intro w' hw' hn'; go_simp; exact rfl
                intro K hK; go_simp; refine hK _ _ ?_; clear hK K
              iterate 7
                with_reducible refine wpL_skip ?_ ?_
                · rfl
                intro K hK; go_simp; refine hK _ _ ?_; clear hK K
              iterate 2
                apply wpL_none rfl rfl
                · intro w' hw' hn'; go_simp; exact rfl
                intro K hK; go_simp; refine hK _ _ ?_; clear hK K
              refine wpL_nil ?_
              intro w8 hx8 _
              go_wp2_with fail
              go_meet
              case rel => exact ⟨hx7.tr hx8, by first | rfl | trivial, hbd.out⟩
            · have hbd := Lib.hid (hBad2.out.trans (show _ = LF by simp))
              go_upto_region 12 with (fail)
              refine wp_region_grow [(15, Loose.is (.bool LF))] (lasts_is lasts_nil) (by kernel_rfl) (by kernel_rfl) ?_
              iterate 3
                apply wpL_none rfl rfl
                · intro w' hw' hn'; go_simp; exact rfl
                intro K hK; go_simp; refine hK _ _ ?_; clear hK K
              iterate 1
                apply wpL_none rfl rfl
                · intro w' hw' hn'; have c9 := Ext.cell hw' c9; go_simp; exact rfl
                intro K hK; go_simp; refine hK _ _ ?_; clear hK K
              iterate 2
                apply wpL_none rfl rfl
                · intro w' hw' hn'; go_simp; exact rfl
                intro K hK; go_simp; refine hK _ _ ?_; clear hK K
              iterate 1
                apply wpL_none rfl rfl
                · intro w' hw' hn'; have hr5 := Ext.cell hw' hr5; go_simp; exact rfl
                intro K hK; go_simp; refine hK _ _ ?_; clear hK K
              iterate 2
                apply wpL_none rfl rfl
                · intro w' hw' hn'; go_simp; exact rfl
                intro K hK; go_simp; refine hK _ _ ?_; clear hK K
              iterate 1
                apply wpL_none rfl rfl
                · intro w' hw' hn'; have c9 := Ext.cell hw' c9; go_simp; exact rfl
                intro K hK; go_simp; refine hK _ _ ?_; clear hK K
              iterate 2
                apply wpL_none rfl rfl
                · intro w' hw' hn'; go_simp; exact rfl
                intro K hK; go_simp; refine hK _ _ ?_; clear hK K
              iterate 1
                apply wpL_none rfl rfl
                · intro w' hw' hn'; have hr6 := Ext.cell hw' hr6; go_simp; exact rfl
                intro K hK; go_simp; refine hK _ _ ?_; clear hK K
              iterate 1
                apply wpL_none rfl rfl
                · intro w' hw' hn'; go_simp; exact rfl
                intro K hK; go_simp; refine hK _ _ ?_; clear hK K
              iterate 1
                apply wpL_none rfl rfl
                · intro w' hw' hn'; have c13 := Ext.cell hw' c13; go_simp; exact rfl
                intro K hK; go_simp; refine hK _ _ ?_; clear hK K
              apply wpL_some rfl rfl
              · intro w' hw' hn'
                go_simp
                refine ⟨Ext.rfl' _, ?_⟩
                refine (hls2.out _).mono ?_
                rintro e w2 ⟨rfl, hx⟩
                exact ⟨_, rfl, hx, rfl⟩
              intro v w' hw' hD' hv
              obtain rfl : v = _ := hv
              clear hw' hD' w'
              intro K hK; go_simp; refine hK _ _ ?_; clear hK K
              iterate 2
                apply wpL_none rfl rfl
                · intro w' hw' hn'; go_simp; exact rfl
                intro K hK; go_simp; refine hK _ _ ?_; clear hK K
              refine wpL_nil ?_
              intro w8 hx8 _
              have hx8 := hx7.tr hx8
              cases LF
              · go_wp2_with fail
                go_meet
                case rel => exact ⟨hx8, by first | rfl | trivial, hbd.out⟩
              · go_wp2_with fail
                refine bodyPost_ret (v := .tuple #[.slice none 0 0, .slice none 0 0, .int .i64 1]) (by simp [results, Try.results22, go_sem]) rfl ?_
                rw [(hM.out.trans (if_neg (by decide))).trans (if_pos hbd.out)]
                exact ⟨_, _, rfl, FrS.nil _ _, FrS.nil _ _, Ext.block hx8 HB5.out, Mvs.ofExt (hxw5.tr hx8)⟩
          · have hbd := Lib.hid (hBad2.out.trans (show _ = true by simp))
            go_wp2_with fail
            refine bodyPost_ret (v := .tuple #[.slice none 0 0, .slice none 0 0, .int .i64 1]) (by simp [results, Try.results22, go_sem]) rfl ?_
            rw [(hM.out.trans (if_neg (by decide))).trans (if_pos hbd.out)]
            exact ⟨_, _, rfl, FrS.nil _ _, FrS.nil _ _, Ext.block hx7 HB5.out, Mvs.ofExt (hxw5.tr hx7)⟩
      · have hBad2 := Lib.hid (hBad.out.trans (if_pos (by decide)))
        clear hBad
        generalize hac : (x.at false).ac = oac at *
        cases hq : (NU == oac)
        · have hbd := Lib.hid (hBad2.out.trans (show _ = !WI by simp [hq]))
          have hq' : (NU != oac) = true := by simp [bne, hq]
          have hq2 : ¬ NU = oac := by simpa using hq
          go_upto_region 8 with (fail)
          refine wp_region_grow [(19, Loose.is (.bool WI))] (lasts_is lasts_nil) (by kernel_rfl) (by kernel_rfl) ?_
          iterate 6
            apply wpL_none rfl rfl
            · intro w' hw' hn'; go_simp; exact rfl
            intro K hK; go_simp; refine hK _ _ ?_; clear hK K
          iterate 1
            apply wpL_none rfl rfl
            · intro w' hw' hn'; have hs2 := Ext.cell hw' hs2; go_simp; exact rfl
            intro K hK; go_simp; refine hK _ _ ?_; clear hK K
          iterate 7
            apply wpL_none rfl rfl
            · intro w' hw' hn'; go_simp; exact rfl
            intro K hK; go_simp; refine hK _ _ ?_; clear hK K
          iterate 1
            apply wpL_none rfl rfl
            · intro w' hw' hn'; have hs2 := Ext.cell hw' hs2; go_simp; exact rfl
            intro K hK; go_simp; refine hK _ _ ?_; clear hK K
          iterate 3
            apply wpL_none rfl rfl
            · intro w' hw' hn'; go_simp; exact rfl
            intro K hK; go_simp; refine hK _ _ ?_; clear hK K
          iterate 1
            apply wpL_none rfl rfl
            · intro w' hw' hn'; have hs3 := Ext.cell hw' hs3; go_simp; exact rfl
            intro K hK; go_simp; refine hK _ _ ?_; clear hK K
          apply wpL_some rfl rfl
          · intro w' hw' hn'
            go_simp
            refine ⟨Ext.rfl' _, ?_⟩
            refine (hwth.out _).mono ?_
            rintro e w2 ⟨rfl, hx⟩
            exact ⟨_, rfl, hx, rfl⟩
          intro v w' hw' hD' hv
          obtain rfl : v = _ := hv
          clear hw' hD' w'
          intro K hK; go_simp; refine hK _ _ ?_; clear hK K
          iterate 3
            apply wpL_none rfl rfl
            · intro w' hw' hn'; go_simp; exact rfl
            intro K hK; go_simp; refine hK _ _ ?_; clear hK K
          refine wpL_nil ?_
          intro w6 hx6 _
          have hx6 : Ext w5 w6 := hx6
          cases WI
          · go_wp2_with fail
            refine bodyPost_ret (v := .tuple #[.slice none 0 0, .slice none 0 0, .int .i64 1]) (by simp [results, Try.results22, go_sem]) rfl ?_
            rw [(hM.out.trans (if_neg (by decide))).trans (if_pos hbd.out)]
            exact ⟨_, _, rfl, FrS.nil _ _, FrS.nil _ _, Ext.block hx6 HB5.out, Mvs.ofExt (hxw5.tr hx6)⟩
          · go_upto_region 12 with (fail)
            refine wp_region_grow [] lasts_nil (by kernel_rfl) (by kernel_rfl) ?_
            iterate 3
              apply wpL_none rfl rfl
              · intro w' hw' hn'; go_simp; exact rfl
              intro K hK; go_simp; refine hK _ _ ?_; clear hK K
            iterate 4
              with_reducible refine wpL_skip ?_ ?_
              · rfl
              intro K hK; go_simp; refine hK _ _ ?_; clear hK K
            iterate 2
              apply wpL_none rfl rfl
              · intro w' hw' hn'; go_simp; exact rfl
              intro K hK; go_simp; refine hK _ _ ?_; clear hK K
            iterate 7
              with_reducible refine wpL_skip ?_ ?_
              · rfl
              intro K hK; go_simp; refine hK _ _ ?_; clear hK K
            iterate 2
              apply wpL_none rfl rfl
              · intro w' hw' hn'; go_simp; exact rfl
              intro K hK; go_simp; refine hK _ _ ?_; clear hK K
            refine wpL_nil ?_
            intro w8 hx8 _
            go_wp2_with fail
            go_meet
            case rel => exact ⟨hx6.tr hx8, by first | rfl | trivial, hbd.out⟩
        · have hbd := Lib.hid (hBad2.out.trans (show _ = false by simp [hq]))
          obtain rfl : NU = oac := by simpa using hq
          go_upto_region 8 with (fail)
          refine wp_region_grow [] lasts_nil (by kernel_rfl) (by kernel_rfl) ?_
          iterate 6
            apply wpL_none rfl rfl
            · intro w' hw' hn'; go_simp; exact rfl
            intro K hK; go_simp; refine hK _ _ ?_; clear hK K
          iterate 1
            apply wpL_none rfl rfl
            · intro w' hw' hn'; have hs2 := Ext.cell hw' hs2; go_simp; exact rfl
            intro K hK; go_simp; refine hK _ _ ?_; clear hK K
          iterate 3
            apply wpL_none rfl rfl
            · intro w' hw' hn'; go_simp; exact rfl
            intro K hK; go_simp; refine hK _ _ ?_; clear hK K
          iterate 11
            with_reducible refine wpL_skip ?_ ?_
            · rfl
            intro K hK; go_simp; refine hK _ _ ?_; clear hK K
          iterate 2
            apply wpL_none rfl rfl
            · intro w' hw' hn'; go_simp; exact rfl
            intro K hK; go_simp; refine hK _ _ ?_; clear hK K
          refine wpL_nil ?_
          intro w6 hx6 _
          have hx6 : Ext w5 w6 := hx6
          go_upto_region 12 with (fail)
          refine wp_region_grow [] lasts_nil (by kernel_rfl) (by kernel_rfl) ?_
          iterate 3
            apply wpL_none rfl rfl
            · intro w' hw' hn'; go_simp; exact rfl
            intro K hK; go_simp; refine hK _ _ ?_; clear hK K
          iterate 4
            with_reducible refine wpL_skip ?_ ?_
            · rfl
            intro K hK; go_simp; refine hK _ _ ?_; clear hK K
          iterate 2
            apply wpL_none rfl rfl
            · intro w' hw' hn'; go_simp; exact rfl
            intro K hK; go_simp; refine hK _ _ ?_; clear hK K
          iterate 7
            with_reducible refine wpL_skip ?_ ?_
            · rfl
            intro K hK; go_simp; refine hK _ _ ?_; clear hK K
          iterate 2
            apply wpL_none rfl rfl
            · intro w' hw' hn'; go_simp; exact rfl
            intro K hK; go_simp; refine hK _ _ ?_; clear hK K
          refine wpL_nil ?_
          intro w8 hx8 _
          go_wp2_with fail
          go_meet
          case rel => exact ⟨hx6.tr hx8, by first | rfl | trivial, hbd.out⟩
    · simp only [if_true] at hag2
      go_upto_region 7 with (fail)
      generalize hTG : toldG x true (x.at true).ac 16 (x.wnd true) = TG at *
      have hto : TG.os = [] ∧ TG.data = [] := by rw [← hTG]; exact ⟨rfl, rfl⟩
      have HTO := Lib.hid hto
      have HTG := Lib.hid hTG
      clear hto hTG
      refine wp_region_grow [(8, Loose.is (.int .u16 (x.wnd true))), (9, Loose.is (.agg (TG.cells nos nos))), (10, FrV w.heap.size [TG])] (lasts_is (lasts_is (lasts_cons FrV.lasts lasts_nil))) (by kernel_rfl) (by kernel_rfl) ?_
      iterate 2
        apply wpL_none rfl rfl
        · intro w' hw' hn'; go_simp; exact rfl
        intro K hK; go_simp; refine hK _ _ ?_; clear hK K
      iterate 1
        apply wpL_none rfl rfl
        · intro w' hw' hn'; have c9 := Ext.cell hw' c9; go_simp; exact rfl
        intro K hK; go_simp; refine hK _ _ ?_; clear hK K
      iterate 2
        apply wpL_none rfl rfl
        · intro w' hw' hn'; go_simp; exact rfl
        intro K hK; go_simp; refine hK _ _ ?_; clear hK K
      iterate 1
        apply wpL_none rfl rfl
        · intro w' hw' hn'; have hr2 := Ext.cell hw' hr2; go_simp; exact rfl
        intro K hK; go_simp; refine hK _ _ ?_; clear hK K
      iterate 2
        apply wpL_none rfl rfl
        · intro w' hw' hn'; go_simp; exact rfl
        intro K hK; go_simp; refine hK _ _ ?_; clear hK K
      apply wpL_some rfl rfl
      · intro w' hw' hn'
        go_simp
        refine ⟨Ext.rfl' _, ?_⟩
        refine (hwin.out _ (Ext.block hw' HB5.out)).mono ?_
        rintro e w2 ⟨rfl, hx⟩
        exact ⟨_, rfl, hx, rfl⟩
      intro v w' hw' hD' hv
      obtain rfl : v = _ := hv
      clear hw' hD' w'
      intro K hK; go_simp; refine hK _ _ ?_; clear hK K
      apply wpL_some rfl rfl
      · intro w' hw' hn'
        go_simp
        refine ⟨Ext.rfl' _, ?_⟩
        refine (htold.out _ (Ext.block hw' HB5.out) _ _ _).mono ?_
        rintro e w2 ⟨rfl, hx⟩
        exact ⟨_, rfl, hx, by rw [HTG.out]; rfl⟩
      intro v w' hw' hD' hv
      obtain rfl : v = _ := hv
      clear hw' hD' w'
      intro K hK; go_simp; refine hK _ _ ?_; clear hK K
      apply wpL_some rfl rfl
      · intro w' hw' hn'
        have hq := frs_one (w := w') (base := w.heap.size) (B := w'.heap.size) HTO.out.1 HTO.out.2 (Nat.le_trans hxw5.size hw'.size) rfl
        go_simp
        exact ⟨Ext.new _ _, _, _, rfl, hq⟩
      intro v w' hw' hD' hv
      obtain ⟨a7, c7, rfl, -⟩ := hv
      clear hw' hD' w'
      intro K hK; go_simp; refine hK _ _ ?_; clear hK K
      iterate 3
        apply wpL_none rfl rfl
        · intro w' hw' hn'; go_simp; exact rfl
        intro K hK; go_simp; refine hK _ _ ?_; clear hK K
      refine wpL_nil ?_
      intro w6 hx6 hD6
      obtain ⟨_, _, he, hfr⟩ : FrV w.heap.size [TG] _ w6 := hD6 10
      cases he
      clear hD6
      have HFR := Lib.hid hfr
      clear hfr
      go_wp2_with fail
      refine bodyPost_ret (v := .tuple #[.slice none 0 0, .slice a7 [TG].length c7, .int .i64 0]) (by simp [results, Try.results22, go_sem]) rfl ?_
      rw [hM.out.trans (if_pos (by decide))]
      exact ⟨_, _, rfl, FrS.nil _ _, HFR.out, Ext.block hx6 HB5.out, Mvs.ofExt (hxw5.tr hx6)⟩
  obtain ⟨hx6, rfl, rfl⟩ := hcut
  obtain ⟨w6, rfl⟩ : ∃ w6 : World, w6 = wc := ⟨_, rfl⟩
  have hxw6 := hxw5.tr hx6
  have kN := hx6.block kN
  have c9 := hx6.cell c9
  have c13 := hx6.cell c13
  have HB6 := Lib.hid (hx6.block HB5.out)
  have hro := range_ext hro hxw6
  have hs0 := hxw6.cell hs0
  have hs1 := hxw6.cell hs1
  have hM2 := Lib.hid ((hM.out.trans (if_neg (by decide))).trans (if_neg (by decide)))
  have hl6 := hxw6.size
  have hNlt := lt_of_block kN
  have h9lt2 : h9 < w6.heap.size := lt_of_cell c9
  have h13lt : h13 < w6.heap.size := lt_of_cell c13
  have HKN := Lib.hid kN
  have HC9 := Lib.hid c9
  have HC13 := Lib.hid c13
  clear hM hBad hr2 hr5 hr6 hs2 hs3 hs4 hls1 hls2 hwth hwin htold HB5 hx6 hxw5 hag16 hag2 hnu hak hbe hfi n4 hxw3
  generalize (overL (x.at true).ov g).1 = L at *
  generalize (overL (x.at true).ov g).2 = E at *
  go_upto_region 14 with (fail)
  refine wp_region_grow [(5, FrT w6.heap.size L E)] (lasts_cons FrT.lasts lasts_nil) (by kernel_rfl) (by kernel_rfl) ?_
  iterate 1
    apply wpL_none rfl rfl
    · intro w' hw' hn'; have c9 := Ext.cell hw' c9; go_simp; exact rfl
    intro K hK; go_simp; refine hK _ _ ?_; clear hK K
  iterate 2
    apply wpL_none rfl rfl
    · intro w' hw' hn'; go_simp; exact rfl
    intro K hK; go_simp; refine hK _ _ ?_; clear hK K
  apply wpL_none rfl rfl
  · intro w' hw' hn'
    exact still_load 40 _ rfl b _ rfl (x.at true).ov.cells _ (range_ext hro hw') Try.underlying40 rfl (by kernel_rfl)
  intro K hK; go_simp; refine hK _ _ ?_; clear hK K
  apply wpL_none rfl rfl
  · intro w' hw' hn'
    exact still_load 51 _ rfl w.heap.size 0 rfl (g.cells (.slice ao g.os.length co) (.slice ad g.data.length cd)) _ (fun j v hv => by rw [Nat.zero_add, cell_blk (Ext.block hw' kN)]; simpa using hv) Try.underlying51 rfl (by kernel_rfl)
  intro K hK; go_simp; refine hK _ _ ?_; clear hK K
  apply wpL_some rfl rfl
  · intro w' hw' hn'
    go_simp
    refine ⟨Ext.rfl' _, ?_⟩
    refine (hover.out _ (hxw6.tr hw')).mono ?_
    rintro e w2 ⟨u, rfl, hf, hx⟩
    have hf := hf.lowS (base' := w6.heap.size) hw'.size
    obtain ⟨a, c, rfl, hc, -⟩ := hf.shape
    exact ⟨_, rfl, hx, a, c, rfl, hf, hc⟩
  intro v w' hw' hD' hv
  obtain ⟨a, c, rfl, -, hac⟩ := hv
  clear hw' hD' w'
  intro K hK; go_simp; refine hK _ _ ?_; clear hK K
  iterate 5
    apply wpL_none rfl rfl
    · intro w' hw' hn'; go_simp; exact rfl
    intro K hK; go_simp; refine hK _ _ ?_; clear hK K
  refine wpL_nil ?_
  intro w7 hx7 hD7
  have hx7 : Ext w6 w7 := hx7
  obtain ⟨_, _, he, hfr, -⟩ : FrT w6.heap.size L E _ w7 := hD7 5
  cases he
  clear hD7 kN c9 c13 hro hover
  by_cases hE : E = 0
  rotate_left
  · have hE' : (E != 0) = true := by simp [hE]
    have HE := Lib.hid hE
    clear hE
    go_wp2_with fail
    refine bodyPost_ret (v := .tuple #[.slice none 0 0, .slice none 0 0, .int .i64 1]) (by simp [results, Try.results22, go_sem]) rfl ?_
    rw [hM2.out.trans (if_pos HE.out)]
    exact ⟨_, _, rfl, FrS.nil _ _, FrS.nil _ _, hx7.block HB6.out, Mvs.ofExt (hxw6.tr hx7)⟩
  subst hE
  have hM3 := Lib.hid (hM2.out.trans (if_neg (by simp)))
  clear hM2
  have hs0 := hx7.cell hs0
  have hs1 := hx7.cell hs1
  have hLn : (L.length : Int) < 4611686018427387904 := by have := HLL.out; omega
  have HLN := Lib.hid hLn
  clear hLn
  generalize hO : x.at false = O at *
  clear hO
  go_wp2_with fail
  go_loopw [144] (fun iv wr => ∃ i : Nat, i ≤ L.length ∧ iv = .int .i64 i ∧ FrS wr w6.heap.size (.slice a L.length c) ((L.take i).map (port O) ++ L.drop i) ∧ Mvs (fun j => w6.heap.size ≤ j) w7 wr) (fun iv _ => L.length - (intOf iv).toNat)
  case atStart => exact ⟨0, Nat.zero_le _, rfl, by simpa using hfr, Mvs.refl _ _⟩
  case round =>
    obtain ⟨i, hi, rfl, hf, hm⟩ := hrel
    by_cases hlt2 : i < L.length
    · have hll : ((L.take i).map (port O) ++ L.drop i).length = L.length := by simp; omega
      obtain ⟨gg, cc, he, hgg⟩ := hf.rowlt (by rw [hll]; omega)
      rw [hll] at he
      cases he
      have hltI : (i : Int) < (L.length : Int) := by omega
      have HM := Lib.hid hm
      have HF := Lib.hid hf
      have HFR := Lib.hid hfr
      clear hm hf hfr
      have HLL2 := Lib.hid hll
      clear hll
      go_upto_region 20 with (fail)
      refine Order.wp_region_order [0, 1, 2, 3, 4, 5, 6, 7, 8, 9, 10, 11] [12, 13, 14, 15, 16, 17] 17 (fun w' => Mvs (fun j => w6.heap.size ≤ j) w7 w') (fun _ _ => False) (fun _ _ _ _ h => h.elim) (fun _ h => HM.out.tr (Mvs.ofExt h)) (by kernel_rfl) (by kernel_rfl) (by kernel_rfl) rfl (by kernel_rfl) ?_
      intro wd hwd
      have hwd : Ext wr wd := hwd
      iterate 12
        apply Order.wpH_some rfl rfl
        · intro w' hw'; have hs0 := cellS hw' hs0 (by show ¬ _ ≤ b; omega); have hs1 := cellS hw' hs1 (by show ¬ _ ≤ b; omega); go_simp; exact rfl
        intro K hK; go_simp; refine hK _ ?_; clear hK K
      refine Order.wpH_nil ?_
      have hmd := Lib.hid (HM.out.tr (Mvs.ofExt hwd))
      obtain ⟨cur, hcur, hlc, -, hf1⟩ := (HF.out.keep (Keep.ofExt hwd)).stored i (by rw [HLL2.out]; omega) 0 (by decide) { ((L.take i).map (port O) ++ L.drop i).getD i Sg.none with sp := O.lo } (.int .u16 O.lo) (fun _ _ => rfl) rfl rfl
      have HF1 := Lib.hid hf1
      clear hf1
      iterate 2
        apply Order.wpI_step rfl rfl
        intro K hK
        go_simp
        refine hK _ _ (fun _ => hmd.out) ?_
        clear hK K
      refine Order.wpI_set_cell 23 rfl gg (i * 9 + 0) _ _ (.int .u16 O.lo) rfl rfl hcur (by kernel_rfl) hlc rfl rfl ?_
      have m1 := Lib.hid (hmd.out.tr (Mvs.set (S := fun j => w6.heap.size ≤ j) wd ⟨gg, i * 9 + 0, none⟩ (.int .u16 O.lo) hgg))
      generalize wd.setCell ⟨gg, i * 9 + 0, none⟩ (.int .u16 O.lo) = V1 at *
      intro K hK
      refine hK _ _ (fun _ => m1.out) ?_
      clear hK K hcur hlc
      obtain ⟨cur, hcur, hlc, -, hf2⟩ := HF1.out.stored i (by rw [List.length_set, HLL2.out]; omega) 1 (by decide) { (((L.take i).map (port O) ++ L.drop i).set i { ((L.take i).map (port O) ++ L.drop i).getD i Sg.none with sp := O.lo }).getD i Sg.none with dp := O.re } (.int .u16 O.re) (fun _ _ => rfl) rfl rfl
      rw [port_take hlt2] at hf2
      have HF2 := Lib.hid hf2
      clear hf2
      iterate 2
        apply Order.wpI_step rfl rfl
        intro K hK
        go_simp
        refine hK _ _ (fun _ => m1.out) ?_
        clear hK K
      refine Order.wpI_set_cell 23 rfl gg (i * 9 + 1) _ _ (.int .u16 O.re) rfl rfl hcur (by kernel_rfl) hlc rfl rfl ?_
      have m2 := Lib.hid (m1.out.tr (Mvs.set (S := fun j => w6.heap.size ≤ j) V1 ⟨gg, i * 9 + 1, none⟩ (.int .u16 O.re) hgg))
      generalize V1.setCell ⟨gg, i * 9 + 1, none⟩ (.int .u16 O.re) = V2 at *
      intro K hK
      refine hK _ _ (fun h => absurd rfl h) ?_
      clear hK K hcur hlc
      refine Order.wpI_nil ?_
      go_wp2_with fail
      go_roundw
      case rel => exact ⟨i + 1, hlt2, congrArg _ (wrap64_nat hlt2 HLL.out), HF2.out, m2.out⟩
      case measure => exact meas_nat hlt2 HLL.out
    · obtain rfl : i = L.length := by omega
      rw [List.take_length, List.drop_length, List.append_nil] at hf
      have HF := Lib.hid hf
      have hxr := Lib.hid (hm.ext (hxw6.tr hx7) (fun k hk => by omega))
      have HBR := Lib.hid (hm.keep (hx7.block HB6.out) (by show ¬ _ ≤ b; omega))
      have HKR := Lib.hid (hm.keep (hx7.block HKN.out) (by omega))
      have HC9R := Lib.hid (cellS hm (hx7.cell HC9.out) (by show ¬ _ ≤ h9; omega))
      have HC13R := Lib.hid (cellS hm (hx7.cell HC13.out) (by show ¬ _ ≤ h13; omega))
      clear hm hf hfr
      have hmf : ∀ (fn : Fn) (first cap : Array Value) (w : World), (Instr.makeFunc fn first cap).run Try.prog w = .ok (.func fn first cap) w := fun _ _ _ _ => rfl
      cases F4
      · go_wp2_with fail
        refine (hkn.out wr w.heap.size h9 h13 HBR.out HKR.out HC9R.out HC13R.out (by omega) (by omega) (by omega)).mono ?_
        rintro e w9 ⟨rfl, hb9, hm9⟩
        have HB9 := Lib.hid hb9
        have HM9 := Lib.hid hm9
        clear hb9 hm9
        go_wp2_with fail
        refine bodyPost_ret (v := .tuple #[.slice a L.length c, .slice none 0 0, .int .i64 0]) (by simp [results, Try.results22, go_sem]) rfl ?_
        rw [hM3.out.trans (if_neg (by decide))]
        exact ⟨_, _, rfl, (HF.out.keep (Keep.ofMvs HM9.out (base := w6.heap.size) (fun k hk => by omega))).lowS (by omega), FrS.nil _ _, HB9.out, (Mvs.ofExt hxr.out).tr HM9.out⟩
      · go_wp2_with (refine wpList_put_cell 4 b 26 _ _ (.bool true) rfl rfl HBR.out (by kernel_rfl) (by show 26 < 28; decide) rfl rfl ?_; intro W9 k9 hm9)
        refine bodyPost_ret (v := .tuple #[.slice a L.length c, .slice none 0 0, .int .i64 0]) (by simp [results, Try.results22, go_sem]) rfl ?_
        rw [hM3.out.trans (if_pos (by decide))]
        exact ⟨_, _, rfl, (HF.out.keep (Keep.ofMvs hm9 (base := w6.heap.size) (fun k hk => by omega))).lowS (by omega), FrS.nil _ _, HFB.out _ k9, (Mvs.ofExt hxr.out).tr hm9⟩

theorem from_any (b : Nat) (x : Sp) (k : Bool) (g : Sg) (vo vd : Value) (w : World) (hx : x.ok) (hg : g.ok) (h : SpAt w b x) (hvo : RdO w vo g.os) (hvd : Rd .u8 w vd g.data) (hn : g.os.length ≤ 50000) (hdl : ∀ o ∈ g.os, o.2.length ≤ 1000000) (hl : g.data.length ≤ 1000000) :
    Calls Try.prog 22 #[spp b, .int .i64 (kI k), .agg (g.cells vo vd)] w fun e w' => ∃ u v, e = .returned (.tuple #[u, v, .int .i64 (frM x k g).2.2.2]) ∧ FrS w' w.heap.size u (frM x k g).2.1 ∧ FrS w' w.heap.size v (frM x k g).2.2.1 ∧ SpAt w' b (frM x k g).1 ∧ Mvs (fun j => j = b) w w' := by
  cases k
  · exact from_false b x false rfl g vo vd w hx hg h hvo hvd hn hdl hl
  · exact from_true b x true rfl g vo vd w hx hg h hvo hvd hn hdl hl
end Go.Proofs.Ytgbbpibcmpeneaa
