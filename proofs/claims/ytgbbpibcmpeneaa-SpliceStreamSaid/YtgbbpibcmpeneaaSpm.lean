/-
  Proved here: what splice's Updates, Rsts and Shifts compute. Conditions: a splice whose numbers are within their kinds.
-/
import Derived.Test.YtgbbpibcmpeneaaSpl
import Derived.Test.YtgbbpibcmpeneaaShG
namespace Go.Proofs.Ytgbbpibcmpeneaa
set_option maxRecDepth 200000
open Go.ChangeShapes Go.WideShapes Go.ChangeAt Go.RowKit Go.Cul Go.Loose
set_option linter.unusedVariables false
attribute [local go_sem] Loose.Still Loose.Upon Loose.vUpon First.pUpon

/-- Two results that lie in variables of their own. -/
theorem results_cc {P : Program} {fn : Func} {t1 t2 : Tmp} {ty1 ty2 : TypeId} {a1 a2 : Addr} {v1 v2 : Value} {w : World} (h : fn.results = #[.cell t1 ty1, .cell t2 ty2]) (tmps : Array Value)
    (hp1 : tmps.getD t1 undef = .pointer (some a1)) (hp2 : tmps.getD t2 undef = .pointer (some a2)) (hl1 : Sem.run P (loadVar ty1 a1) w = .ok v1 w) (hl2 : Sem.run P (loadVar ty2 a2) w = .ok v2 w) :
    (results fn tmps).run P w = .ok (.tuple #[v1, v2]) w := by
  have hp1' : tmps[t1]?.getD undef = .pointer (some a1) := by simpa using hp1
  have hp2' : tmps[t2]?.getD undef = .pointer (some a2) := by simpa using hp2
  simp [results, h, hp1', hp2', hl1, hl2, asAddr]

def updG (x : Sp) (k : Bool) : Sg := toldG x k (((x.at (!k)).se + (x.at (!k)).ov.sq) % 4294967296) 16 (x.wnd k)
def rstG (x : Sp) (k : Bool) : Sg := toldG x k (x.at k).ac 20 0

set_option maxHeartbeats 4000000 in
set_option maxRecDepth 100000 in
theorem upd1_any (g b : Nat) (x : Sp) (k : Bool) (w : World) (hg : w.cell? ⟨g, 0, none⟩ = some (spp b)) (h : SpAt w b x) (hx : x.ok) :
    Calls Try.prog 26 #[.int .i64 (kI k), .pointer (some ⟨g, 0, none⟩)] w fun e w' => e = .returned (.agg ((updG x k).cells nos nos)) ∧ Ext w w' := by
  have hlt := lt_of_block h
  have hlg := lt_of_cell hg
  have hR1 := end_range h (!k)
  have hU : Hid (updG x k = toldG x k (((x.at (!k)).se + (x.at (!k)).ov.sq) % 4294967296) 16 (x.wnd k)) := rfl
  have hwin := Lib.hid (fun (W : World) (h : SpAt W b x) => window_any b x k W h hx)
  have htold := Lib.hid (fun (W : World) (h : SpAt W b x) (n f wn : Int) => told_any b x k n f wn W h)
  have HB := Lib.hid h
  have hone : ∀ (n f wn : Int), ((toldG x k n f wn).cells nos nos).all (·.oneCell') = true := fun n f wn => by simp [Value.oneCell']
  have HONE := Lib.hid hone
  clear hx h hone
  generalize updG x k = G at *
  generalize x.wnd k = wn at *
  generalize hTT : toldG x k = TT at *
  clear hTT
  generalize x.at (!k) = e1 at *
  obtain ⟨lo', re', ac', wi', se', en', fi', ⟨sq', ak', sack', fr', to', mss'⟩⟩ := e1
  have ho1 : (En.cells ⟨lo', re', ac', wi', se', en', fi', ⟨sq', ak', sack', fr', to', mss'⟩⟩).all (·.oneCell') = true := by simp [Value.oneCell']
  cases k
  all_goals
    dsimp only [kI, kO, Bool.not_true, Bool.not_false, En.cells] at *
    simp only [↓reduceIte, Bool.false_eq_true] at *
    go_enter Try.func26, Try.ntmps26
    go_upto_region 1 with (fail)
    generalize hW : w.alloc _ = W
    have hxW : Ext w W := by rw [← hW]; exact Ext.new _ _
    have kr : W.heap[w.heap.size]? = some (.cells (Sg.none.cells nos nos) 51) := by rw [← hW]; exact heap_alloc_new w _
    have hlr := lt_of_block kr
    have hR1 := range_ext hR1 hxW
    have hg := hxW.cell hg
    clear hW
    go_upto_region 2 with (first | (refine wpList_load_mid rfl 67 _ rfl b _ rfl _ _ hR1 Try.underlying67 rfl (by kernel_rfl) ?_) | (refine wpList_store_big 67 _ rfl rfl (by kernel_rfl) rfl ho1 ?_))
    generalize hV : W.alloc _ = V
    have hxV : Ext w V := by rw [← hV]; exact hxW.al _
    have kr : V.heap[w.heap.size]? = some (.cells (Sg.none.cells nos nos) 51) := by rw [← hV]; exact (Ext.new W _).block kr
    have ke : V.heap[W.heap.size]? = some (.cells (En.cells ⟨lo', re', ac', wi', se', en', fi', ⟨sq', ak', sack', fr', to', mss'⟩⟩) 67) := by rw [← hV]; exact heap_alloc_new W _
    have hg : V.cell? ⟨g, 0, none⟩ = some (spp b) := by rw [← hV]; exact (Ext.new W _).cell hg
    have h := hxV.block HB.out
    have HB2 := Lib.hid h
    have hlV := hxV.size
    clear hV hxW h
    have e4 := cell_blk ke 4
    have e7 := cell_blk ke 7
    simp at e4 e7
    refine Order.wp_region_order [0, 1, 2, 3, 4, 5, 6, 7, 8, 9] [10, 11, 12] 12 (fun w' => Ext V w') (fun _ _ => False) (fun _ _ _ _ h => h.elim) (fun _ h => h) (by kernel_rfl) (by kernel_rfl) (by kernel_rfl) rfl (by kernel_rfl) ?_
    intro wd hwd
    iterate 1
      apply Order.wpH_some rfl rfl
      · intro w' hw'; have hg := Ext.cell hw' hg; go_simp; exact rfl
      intro K hK; go_simp; refine hK _ ?_; clear hK K
    iterate 2
      apply Order.wpH_some rfl rfl
      · intro w' hw'; go_simp; exact rfl
      intro K hK; go_simp; refine hK _ ?_; clear hK K
    iterate 1
      apply Order.wpH_some rfl rfl
      · intro w' hw'; have e4 := Ext.cell hw' e4; go_simp; exact rfl
      intro K hK; go_simp; refine hK _ ?_; clear hK K
    iterate 2
      apply Order.wpH_some rfl rfl
      · intro w' hw'; go_simp; exact rfl
      intro K hK; go_simp; refine hK _ ?_; clear hK K
    iterate 1
      apply Order.wpH_some rfl rfl
      · intro w' hw'; have e7 := Ext.cell hw' e7; go_simp; exact rfl
      intro K hK; go_simp; refine hK _ ?_; clear hK K
    iterate 1
      apply Order.wpH_some rfl rfl
      · intro w' hw'; go_simp; exact rfl
      intro K hK; go_simp; refine hK _ ?_; clear hK K
    iterate 1
      apply Order.wpH_some rfl rfl
      · intro w' hw'; have hg := Ext.cell hw' hg; go_simp; exact rfl
      intro K hK; go_simp; refine hK _ ?_; clear hK K
    iterate 1
      apply Order.wpH_some rfl rfl
      · intro w' hw'; go_simp; exact rfl
      intro K hK; go_simp; refine hK _ ?_; clear hK K
    have hwd : Ext V wd := hwd
    refine Order.wpH_nil ?_
    apply Order.wpI_step rfl rfl
    intro K hK
    go_simp
    refine (hwin.out _ (hwd.block HB2.out)).mono ?_
    rintro e wa ⟨rfl, hxa⟩
    have hxa := Ext.tr hwd hxa
    first | refine ⟨_, rfl, hK _ _ (fun _ => hxa) ?_⟩ | refine .inl ⟨_, rfl, hK _ _ (fun _ => hxa) ?_⟩
    clear hK K
    apply Order.wpI_step rfl rfl
    intro K hK
    go_simp
    refine (htold.out _ (hxa.block HB2.out) _ _ _).mono ?_
    rintro e wb ⟨rfl, hxb⟩
    have hxb := Ext.tr hxa hxb
    first | refine ⟨_, rfl, hK _ _ (fun _ => hxb) ?_⟩ | refine .inl ⟨_, rfl, hK _ _ (fun _ => hxb) ?_⟩
    clear hK K
    refine Order.wpI_put_row 51 rfl w.heap.size _ _ _ rfl rfl (hxb.block kr) (by kernel_rfl) rfl (HONE.out _ _ _) ?_
    intro W3 k3 hm3 K hK
    refine hK _ _ (fun h => absurd rfl h) ?_
    clear hK K
    refine Order.wpI_nil ?_
    go_wp2_with fail
    refine bodyPost_ret (results_cell Try.results26 _ rfl (load_blk k3 51 _ Try.underlying51 rfl (by kernel_rfl))) rfl ?_
    refine ⟨?_, hm3.ext (hxV.tr hxb) (fun k hk => by omega)⟩
    rw [hU.out]
    try rfl

set_option maxHeartbeats 4000000 in
set_option maxRecDepth 100000 in
theorem rst1_any (g b : Nat) (x : Sp) (k : Bool) (w : World) (hg : w.cell? ⟨g, 0, none⟩ = some (spp b)) (h : SpAt w b x) :
    Calls Try.prog 29 #[.int .i64 (kI k), .pointer (some ⟨g, 0, none⟩)] w fun e w' => e = .returned (.agg ((rstG x k).cells nos nos)) ∧ Ext w w' := by
  have hlt := lt_of_block h
  have hlg := lt_of_cell hg
  have hR := end_range h k 2 (.int .u32 (x.at k).ac) rfl
  have hU : Hid (rstG x k = toldG x k (x.at k).ac 20 0) := rfl
  have htold := Lib.hid (fun (W : World) (h : SpAt W b x) (n f wn : Int) => told_any b x k n f wn W h)
  have HB := Lib.hid h
  have hone : ∀ (n f wn : Int), ((toldG x k n f wn).cells nos nos).all (·.oneCell') = true := fun n f wn => by simp [Value.oneCell']
  have HONE := Lib.hid hone
  clear h hone
  generalize rstG x k = G at *
  generalize hTT : toldG x k = TT at *
  clear hTT
  generalize (x.at k).ac = ac at *
  cases k
  all_goals
    dsimp only [kI, kO, Bool.not_true, Bool.not_false] at *
    simp only [↓reduceIte, Bool.false_eq_true] at *
    go_enter Try.func29, Try.ntmps29
    go_upto_region 1 with (fail)
    generalize hV : w.alloc _ = V
    have hxV : Ext w V := by rw [← hV]; exact Ext.new _ _
    have kr : V.heap[w.heap.size]? = some (.cells (Sg.none.cells nos nos) 51) := by rw [← hV]; exact heap_alloc_new w _
    have hg := hxV.cell hg
    have hc := hxV.cell hR
    have h := hxV.block HB.out
    have HB2 := Lib.hid h
    have hlV := hxV.size
    simp only [Nat.zero_add, Nat.reduceAdd] at hc
    clear hV h hR
    refine Order.wp_region_order [0, 1, 2, 3, 4, 5, 6, 7, 8] [9, 10] 10 (fun w' => Ext V w') (fun _ _ => False) (fun _ _ _ _ h => h.elim) (fun _ h => h) (by kernel_rfl) (by kernel_rfl) (by kernel_rfl) rfl (by kernel_rfl) ?_
    intro wd hwd
    iterate 1
      apply Order.wpH_some rfl rfl
      · intro w' hw'; have hg := Ext.cell hw' hg; go_simp; exact rfl
      intro K hK; go_simp; refine hK _ ?_; clear hK K
    iterate 1
      apply Order.wpH_some rfl rfl
      · intro w' hw'; go_simp; exact rfl
      intro K hK; go_simp; refine hK _ ?_; clear hK K
    iterate 1
      apply Order.wpH_some rfl rfl
      · intro w' hw'; have hg := Ext.cell hw' hg; go_simp; exact rfl
      intro K hK; go_simp; refine hK _ ?_; clear hK K
    iterate 5
      apply Order.wpH_some rfl rfl
      · intro w' hw'; go_simp; exact rfl
      intro K hK; go_simp; refine hK _ ?_; clear hK K
    iterate 1
      apply Order.wpH_some rfl rfl
      · intro w' hw'; have hc := Ext.cell hw' hc; go_simp; exact rfl
      intro K hK; go_simp; refine hK _ ?_; clear hK K
    have hwd : Ext V wd := hwd
    refine Order.wpH_nil ?_
    apply Order.wpI_step rfl rfl
    intro K hK
    go_simp
    refine (htold.out _ (hwd.block HB2.out) _ _ _).mono ?_
    rintro e wb ⟨rfl, hxb⟩
    have hxb := Ext.tr hwd hxb
    first | refine ⟨_, rfl, hK _ _ (fun _ => hxb) ?_⟩ | refine .inl ⟨_, rfl, hK _ _ (fun _ => hxb) ?_⟩
    clear hK K
    refine Order.wpI_put_row 51 rfl w.heap.size _ _ _ rfl rfl (hxb.block kr) (by kernel_rfl) rfl (HONE.out _ _ _) ?_
    intro W3 k3 hm3 K hK
    refine hK _ _ (fun h => absurd rfl h) ?_
    clear hK K
    refine Order.wpI_nil ?_
    go_wp2_with fail
    refine bodyPost_ret (results_cell Try.results29 _ rfl (load_blk k3 51 _ Try.underlying51 rfl (by kernel_rfl))) rfl ?_
    refine ⟨?_, hm3.ext (hxV.tr hxb) (fun k hk => by omega)⟩
    rw [hU.out]
    try rfl

set_option maxHeartbeats 2000000 in
set_option maxRecDepth 100000 in
theorem both_upd (g b : Nat) (x : Sp) (w : World) (hg : w.cell? ⟨g, 0, none⟩ = some (spp b)) (h : SpAt w b x) (hx : x.ok) :
    Calls Try.prog 25 #[spp b, .func (.func 26) #[] #[.pointer (some ⟨g, 0, none⟩)]] w fun e w' => e = .returned (.tuple #[.agg ((updG x false).cells nos nos), .agg ((updG x true).cells nos nos)]) ∧ Ext w w' := by
  have hlt := lt_of_block h
  have hlg := lt_of_cell hg
  have h27 := cell_blk h 27
  simp at h27
  rw [hx.md] at h27
  have hf := Lib.hid (fun (k : Bool) (W : World) (hw : Ext w W) => upd1_any g b x k W (hw.cell hg) (hw.block h) hx)
  have hone : ∀ k, ((updG x k).cells nos nos).all (·.oneCell') = true := fun k => by simp [Value.oneCell']
  have HONE := Lib.hid hone
  clear hx h hone hg
  generalize hGG : updG x = GG at *
  clear hGG
  go_enter Try.func25, Try.ntmps25
  go_upto_region 1 with (fail)
  generalize hV : (World.alloc w _).alloc _ = V
  have hxV : Ext w V := by rw [← hV]; exact (Ext.new _ _).al _
  have ka : V.heap[w.heap.size]? = some (.cells (Sg.none.cells nos nos) 51) := by rw [← hV]; simp only [heap_alloc_at, World.size_alloc]; simp [Sg.none]
  have kb : V.heap[w.heap.size + 1]? = some (.cells (Sg.none.cells nos nos) 51) := by rw [← hV]; simp only [heap_alloc_at, World.size_alloc]; simp [Sg.none]
  have h27 := hxV.cell h27
  clear hV
  go_wp2_with fail
  refine (snone_any b V true h27).mono ?_
  rintro e w1 ⟨rfl, rfl⟩
  go_wp2_with fail
  refine (hf.out false _ hxV).mono ?_
  rintro e w2 ⟨rfl, hx2⟩
  have ka := hx2.block ka
  have kb := hx2.block kb
  have hx2 := hxV.tr hx2
  clear hxV h27
  go_wp2_with fail
  refine (hf.out true _ hx2).mono ?_
  rintro e w3 ⟨rfl, hx3⟩
  have ka := hx3.block ka
  have kb := hx3.block kb
  have hx3 := hx2.tr hx3
  clear hx2
  go_wp2_with (first | (refine wpList_put_row 51 w.heap.size _ ((GG false).cells nos nos) _ rfl rfl ka (by kernel_rfl) rfl (HONE.out _) ?_; intro W4 k4 hm4) | (refine wpList_put_row 51 (w.heap.size + 1) _ ((GG true).cells nos nos) _ rfl rfl (hm4.keep kb (by omega)) (by kernel_rfl) rfl (HONE.out _) ?_; intro W5 k5 hm5))
  have k4 := hm5.keep k4 (by omega)
  refine bodyPost_ret (results_cc Try.results25 _ rfl rfl (load_blk k4 51 _ Try.underlying51 rfl (by kernel_rfl)) (load_blk k5 51 _ Try.underlying51 rfl (by kernel_rfl))) rfl ?_
  exact ⟨rfl, hm5.ext (hm4.ext hx3 (fun k hk => by omega)) (fun k hk => by omega)⟩

set_option maxHeartbeats 2000000 in
set_option maxRecDepth 100000 in
theorem upds_any (b : Nat) (x : Sp) (w : World) (h : SpAt w b x) (hx : x.ok) :
    Calls Try.prog 15 #[spp b] w fun e w' => e = .returned (.tuple #[.agg ((updG x false).cells nos nos), .agg ((updG x true).cells nos nos)]) ∧ Ext w w' := by
  have hlt := lt_of_block h
  have hf := Lib.hid (fun (g : Nat) (W : World) (hw : Ext w W) (hg : W.cell? ⟨g, 0, none⟩ = some (spp b)) => both_upd g b x W hg (hw.block h) hx)
  have hone : ∀ k, ((updG x k).cells nos nos).all (·.oneCell') = true := fun k => by simp [Value.oneCell']
  have HONE := Lib.hid hone
  clear hx h hone
  generalize hGG : updG x = GG at *
  clear hGG
  have hmf : ∀ (fn : Fn) (first cap : Array Value) (w : World), (Instr.makeFunc fn first cap).run Try.prog w = .ok (.func fn first cap) w := fun _ _ _ _ => rfl
  go_enter Try.func15, Try.ntmps15
  go_upto_region 1 with (fail)
  generalize hV : World.alloc (World.alloc (World.alloc w _) _) _ = V
  have hxV : Ext w V := by rw [← hV]; exact ((Ext.new _ _).al _).al _
  have kg : V.heap[w.heap.size]? = some (.cells #[spp b] 34) := by rw [← hV]; simp only [heap_alloc_at, World.size_alloc]; repeat (first | rfl | rw [if_pos (by first | trivial | omega)] | rw [if_neg (by omega)])
  have ka : V.heap[w.heap.size + 1]? = some (.cells (Sg.none.cells nos nos) 51) := by rw [← hV]; simp only [heap_alloc_at, World.size_alloc]; repeat (first | rfl | rw [if_pos (by first | trivial | omega)] | rw [if_neg (by omega)])
  have kb : V.heap[w.heap.size + 1 + 1]? = some (.cells (Sg.none.cells nos nos) 51) := by rw [← hV]; simp only [heap_alloc_at, World.size_alloc]; repeat (first | rfl | rw [if_pos (by first | trivial | omega)] | rw [if_neg (by omega)])
  clear hV
  have g0 := cell_blk kg 0
  simp at g0
  go_wp2_with fail
  refine (hf.out _ _ hxV g0).mono ?_
  rintro e w3 ⟨rfl, hx3⟩
  have ka := hx3.block ka
  have kb := hx3.block kb
  have hx3 := hxV.tr hx3
  clear hxV g0 kg hmf
  go_wp2_with (first | (refine wpList_put_row 51 (w.heap.size + 1) _ ((GG false).cells nos nos) _ rfl rfl ka (by kernel_rfl) rfl (HONE.out _) ?_; intro W4 k4 hm4) | (refine wpList_put_row 51 (w.heap.size + 1 + 1) _ ((GG true).cells nos nos) _ rfl rfl (hm4.keep kb (by omega)) (by kernel_rfl) rfl (HONE.out _) ?_; intro W5 k5 hm5))
  have k4 := hm5.keep k4 (by omega)
  refine bodyPost_ret (results_cc Try.results15 _ rfl rfl (load_blk k4 51 _ Try.underlying51 rfl (by kernel_rfl)) (load_blk k5 51 _ Try.underlying51 rfl (by kernel_rfl))) rfl ?_
  exact ⟨rfl, hm5.ext (hm4.ext hx3 (fun k hk => by omega)) (fun k hk => by omega)⟩

set_option maxHeartbeats 2000000 in
set_option maxRecDepth 100000 in
theorem both_rst (g b : Nat) (x : Sp) (w : World) (hg : w.cell? ⟨g, 0, none⟩ = some (spp b)) (h : SpAt w b x) (hx : x.ok) :
    Calls Try.prog 25 #[spp b, .func (.func 29) #[] #[.pointer (some ⟨g, 0, none⟩)]] w fun e w' => e = .returned (.tuple #[.agg ((rstG x false).cells nos nos), .agg ((rstG x true).cells nos nos)]) ∧ Ext w w' := by
  have hlt := lt_of_block h
  have hlg := lt_of_cell hg
  have h27 := cell_blk h 27
  simp at h27
  rw [hx.md] at h27
  have hf := Lib.hid (fun (k : Bool) (W : World) (hw : Ext w W) => rst1_any g b x k W (hw.cell hg) (hw.block h))
  have hone : ∀ k, ((rstG x k).cells nos nos).all (·.oneCell') = true := fun k => by simp [Value.oneCell']
  have HONE := Lib.hid hone
  clear hx h hone hg
  generalize hGG : rstG x = GG at *
  clear hGG
  go_enter Try.func25, Try.ntmps25
  go_upto_region 1 with (fail)
  generalize hV : (World.alloc w _).alloc _ = V
  have hxV : Ext w V := by rw [← hV]; exact (Ext.new _ _).al _
  have ka : V.heap[w.heap.size]? = some (.cells (Sg.none.cells nos nos) 51) := by rw [← hV]; simp only [heap_alloc_at, World.size_alloc]; simp [Sg.none]
  have kb : V.heap[w.heap.size + 1]? = some (.cells (Sg.none.cells nos nos) 51) := by rw [← hV]; simp only [heap_alloc_at, World.size_alloc]; simp [Sg.none]
  have h27 := hxV.cell h27
  clear hV
  go_wp2_with fail
  refine (snone_any b V true h27).mono ?_
  rintro e w1 ⟨rfl, rfl⟩
  go_wp2_with fail
  refine (hf.out false _ hxV).mono ?_
  rintro e w2 ⟨rfl, hx2⟩
  have ka := hx2.block ka
  have kb := hx2.block kb
  have hx2 := hxV.tr hx2
  clear hxV h27
  go_wp2_with fail
  refine (hf.out true _ hx2).mono ?_
  rintro e w3 ⟨rfl, hx3⟩
  have ka := hx3.block ka
  have kb := hx3.block kb
  have hx3 := hx2.tr hx3
  clear hx2
  go_wp2_with (first | (refine wpList_put_row 51 w.heap.size _ ((GG false).cells nos nos) _ rfl rfl ka (by kernel_rfl) rfl (HONE.out _) ?_; intro W4 k4 hm4) | (refine wpList_put_row 51 (w.heap.size + 1) _ ((GG true).cells nos nos) _ rfl rfl (hm4.keep kb (by omega)) (by kernel_rfl) rfl (HONE.out _) ?_; intro W5 k5 hm5))
  have k4 := hm5.keep k4 (by omega)
  refine bodyPost_ret (results_cc Try.results25 _ rfl rfl (load_blk k4 51 _ Try.underlying51 rfl (by kernel_rfl)) (load_blk k5 51 _ Try.underlying51 rfl (by kernel_rfl))) rfl ?_
  exact ⟨rfl, hm5.ext (hm4.ext hx3 (fun k hk => by omega)) (fun k hk => by omega)⟩

set_option maxHeartbeats 2000000 in
set_option maxRecDepth 100000 in
theorem rsts_any (b : Nat) (x : Sp) (w : World) (h : SpAt w b x) (hx : x.ok) :
    Calls Try.prog 16 #[spp b] w fun e w' => e = .returned (.tuple #[.agg ((rstG x false).cells nos nos), .agg ((rstG x true).cells nos nos)]) ∧ Ext w w' := by
  have hlt := lt_of_block h
  have hf := Lib.hid (fun (g : Nat) (W : World) (hw : Ext w W) (hg : W.cell? ⟨g, 0, none⟩ = some (spp b)) => both_rst g b x W hg (hw.block h) hx)
  have hone : ∀ k, ((rstG x k).cells nos nos).all (·.oneCell') = true := fun k => by simp [Value.oneCell']
  have HONE := Lib.hid hone
  clear hx h hone
  generalize hGG : rstG x = GG at *
  clear hGG
  have hmf : ∀ (fn : Fn) (first cap : Array Value) (w : World), (Instr.makeFunc fn first cap).run Try.prog w = .ok (.func fn first cap) w := fun _ _ _ _ => rfl
  go_enter Try.func16, Try.ntmps16
  go_upto_region 1 with (fail)
  generalize hV : World.alloc (World.alloc (World.alloc w _) _) _ = V
  have hxV : Ext w V := by rw [← hV]; exact ((Ext.new _ _).al _).al _
  have kg : V.heap[w.heap.size]? = some (.cells #[spp b] 34) := by rw [← hV]; simp only [heap_alloc_at, World.size_alloc]; repeat (first | rfl | rw [if_pos (by first | trivial | omega)] | rw [if_neg (by omega)])
  have ka : V.heap[w.heap.size + 1]? = some (.cells (Sg.none.cells nos nos) 51) := by rw [← hV]; simp only [heap_alloc_at, World.size_alloc]; repeat (first | rfl | rw [if_pos (by first | trivial | omega)] | rw [if_neg (by omega)])
  have kb : V.heap[w.heap.size + 1 + 1]? = some (.cells (Sg.none.cells nos nos) 51) := by rw [← hV]; simp only [heap_alloc_at, World.size_alloc]; repeat (first | rfl | rw [if_pos (by first | trivial | omega)] | rw [if_neg (by omega)])
  clear hV
  have g0 := cell_blk kg 0
  simp at g0
  go_wp2_with fail
  refine (hf.out _ _ hxV g0).mono ?_
  rintro e w3 ⟨rfl, hx3⟩
  have ka := hx3.block ka
  have kb := hx3.block kb
  have hx3 := hxV.tr hx3
  clear hxV g0 kg hmf
  go_wp2_with (first | (refine wpList_put_row 51 (w.heap.size + 1) _ ((GG false).cells nos nos) _ rfl rfl ka (by kernel_rfl) rfl (HONE.out _) ?_; intro W4 k4 hm4) | (refine wpList_put_row 51 (w.heap.size + 1 + 1) _ ((GG true).cells nos nos) _ rfl rfl (hm4.keep kb (by omega)) (by kernel_rfl) rfl (HONE.out _) ?_; intro W5 k5 hm5))
  have k4 := hm5.keep k4 (by omega)
  refine bodyPost_ret (results_cc Try.results16 _ rfl rfl (load_blk k4 51 _ Try.underlying51 rfl (by kernel_rfl)) (load_blk k5 51 _ Try.underlying51 rfl (by kernel_rfl))) rfl ?_
  exact ⟨rfl, hm5.ext (hm4.ext hx3 (fun k hk => by omega)) (fun k hk => by omega)⟩

set_option maxHeartbeats 2000000 in
set_option maxRecDepth 100000 in
theorem shifts_any (b : Nat) (x : Sp) (w : World) (h : SpAt w b x) (hx : x.ok) :
    Calls Try.prog 10 #[spp b] w fun e w' => e = .returned (.tuple #[.agg x.c.ov.cells, .agg x.s.ov.cells]) ∧ Ext w w' := by
  have hlt := lt_of_block h
  have h27 := cell_blk h 27
  simp at h27
  rw [hx.md] at h27
  have hR0 : ∀ W : World, SpAt W b x → W.rangeAt b 7 x.c.ov.cells.toList := fun W h j v hv => by
    have hj : j < 6 := (List.getElem?_eq_some_iff.1 hv).1
    rw [cell_blk h, ← hv]
    rcases (by omega : j = 0 ∨ j = 1 ∨ j = 2 ∨ j = 3 ∨ j = 4 ∨ j = 5) with rfl | rfl | rfl | rfl | rfl | rfl <;> rfl
  have hR1 : ∀ W : World, SpAt W b x → W.rangeAt b 20 x.s.ov.cells.toList := fun W h j v hv => by
    have hj : j < 6 := (List.getElem?_eq_some_iff.1 hv).1
    rw [cell_blk h, ← hv]
    rcases (by omega : j = 0 ∨ j = 1 ∨ j = 2 ∨ j = 3 ∨ j = 4 ∨ j = 5) with rfl | rfl | rfl | rfl | rfl | rfl <;> rfl
  have HR0 := Lib.hid hR0
  have HR1 := Lib.hid hR1
  have HB := Lib.hid h
  clear hR0 hR1 h hx
  generalize hS : (fun W : World => SpAt W b x) = S at *
  have HBS : Hid (∀ W, S W = SpAt W b x) := fun W => by rw [← hS]
  clear hS
  generalize x.c.ov = o0 at *
  generalize x.s.ov = o1 at *
  obtain ⟨sq, ak, sack, fr, to, mss⟩ := o0
  obtain ⟨sq', ak', sack', fr', to', mss'⟩ := o1
  dsimp only [Shf.cells] at *
  go_enter Try.func10, Try.ntmps10
  go_upto_region 1 with (fail)
  generalize hV : (World.alloc w _).alloc _ = V
  have hxV : Ext w V := by rw [← hV]; exact (Ext.new _ _).al _
  have ka : V.heap[w.heap.size]? = some (.cells (Shf.cells ⟨0, 0, false, 0, 0, 0⟩) 40) := by rw [← hV]; simp only [heap_alloc_at, World.size_alloc]; simp
  have kb : V.heap[w.heap.size + 1]? = some (.cells (Shf.cells ⟨0, 0, false, 0, 0, 0⟩) 40) := by rw [← hV]; simp only [heap_alloc_at, World.size_alloc]; simp
  have h27 := hxV.cell h27
  clear hV
  go_wp2_with fail
  refine (snone_any b V true h27).mono ?_
  rintro e V ⟨rfl, rfl⟩
  go_upto_region 3 with (fail)
  refine Order.wp_region_order [0, 1, 2, 3, 4, 5, 6, 7, 8, 9, 10, 11] [12, 13] 13 (fun w' => Mvs (fun j => j = w.heap.size) V w') (fun _ _ => False) (fun _ _ _ _ h => h.elim) (fun _ h => Mvs.ofExt h) (by kernel_rfl) (by kernel_rfl) (by kernel_rfl) rfl (by kernel_rfl) ?_
  intro wd hwd
  have hL : ∀ W', Mvs (fun j => j = w.heap.size) V W' → SpAt W' b x := fun W' hm => hm.keep (hxV.block HB.out) (by omega)
  have HL := Lib.hid hL
  clear hL
  iterate 5
    apply Order.wpH_some rfl rfl
    · intro w' hw'; go_simp; exact rfl
    intro K hK; go_simp; refine hK _ ?_; clear hK K
  apply Order.wpH_some rfl rfl
  · intro w' hw'
    exact Order.look_load 40 _ rfl b 7 rfl (Shf.cells ⟨sq, ak, sack, fr, to, mss⟩) _ (HR0.out _ (HL.out _ hw')) Try.underlying40 rfl (by kernel_rfl)
  intro K hK; go_simp; refine hK _ ?_; clear hK K
  iterate 5
    apply Order.wpH_some rfl rfl
    · intro w' hw'; go_simp; exact rfl
    intro K hK; go_simp; refine hK _ ?_; clear hK K
  apply Order.wpH_some rfl rfl
  · intro w' hw'
    exact Order.look_load 40 _ rfl b 20 rfl (Shf.cells ⟨sq', ak', sack', fr', to', mss'⟩) _ (HR1.out _ (HL.out _ hw')) Try.underlying40 rfl (by kernel_rfl)
  intro K hK; go_simp; refine hK _ ?_; clear hK K
  have hwd : Ext V wd := hwd
  refine Order.wpH_nil ?_
  refine Order.wpI_put_row 40 rfl w.heap.size _ (Shf.cells ⟨sq, ak, sack, fr, to, mss⟩) _ rfl rfl (hwd.block ka) (by kernel_rfl) rfl (by simp [Value.oneCell']) ?_
  intro W4 k4 hm4 K hK
  refine hK _ _ (fun _ => (Mvs.ofExt hwd).tr hm4) ?_
  clear hK K
  refine Order.wpI_put_row 40 rfl (w.heap.size + 1) _ (Shf.cells ⟨sq', ak', sack', fr', to', mss'⟩) _ rfl rfl (hm4.keep (hwd.block kb) (by omega)) (by kernel_rfl) rfl (by simp [Value.oneCell']) ?_
  intro W5 k5 hm5 K hK
  refine hK _ _ (fun h => absurd rfl h) ?_
  clear hK K
  refine Order.wpI_nil ?_
  have k4 := hm5.keep k4 (by omega)
  go_wp2_with fail
  refine bodyPost_ret (results_cc Try.results10 _ rfl rfl (load_blk k4 40 _ Try.underlying40 rfl (by kernel_rfl)) (load_blk k5 40 _ Try.underlying40 rfl (by kernel_rfl))) rfl ?_
  exact ⟨rfl, hm5.ext (hm4.ext (hxV.tr hwd) (fun k hk => by omega)) (fun k hk => by omega)⟩
end Go.Proofs.Ytgbbpibcmpeneaa
