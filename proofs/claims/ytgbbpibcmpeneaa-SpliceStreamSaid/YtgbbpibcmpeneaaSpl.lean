/-
  Proved here: a splice as plain data; what its methods that only look compute: none, window, told, closed, State, Shifts. Conditions: numbers within their kinds; shifts that may be.
-/
import Derived.Test.YtgbbpibcmpeneaaShV
import Derived.Test.YtgbbpibcmpeneaaPlain
import Derived.Test.YtgbbpibcmpeneaaBig
import Derived.Test.YtgbbpibcmpeneaaTwo
namespace Go.Proofs.Ytgbbpibcmpeneaa
set_option maxRecDepth 200000
open Go.ChangeShapes Go.WideShapes Go.ChangeAt Go.RowKit Go.Cul Go.Loose
set_option linter.unusedVariables false
attribute [local go_sem] Loose.Still Loose.Upon Loose.vUpon

/-- An end: ports, last ack, window, what was sent, has it ended, its FIN, its shift. -/
structure En where
  lo : Int
  re : Int
  ac : Int
  wi : Int
  se : Int
  en : Bool
  fi : Int
  ov : Shf
structure En.ok (e : En) : Prop where
  lo : 0 ≤ e.lo ∧ e.lo ≤ 65535
  re : 0 ≤ e.re ∧ e.re ≤ 65535
  ac : 0 ≤ e.ac ∧ e.ac ≤ 4294967295
  wi : 0 ≤ e.wi ∧ e.wi ≤ 4294967295
  se : 0 ≤ e.se ∧ e.se ≤ 4294967295
  fi : 0 ≤ e.fi ∧ e.fi ≤ 4294967295
  ov : e.ov.ok
  may : e.ov.may = true
abbrev En.cells (e : En) : Array Value := #[.int .u16 e.lo, .int .u16 e.re, .int .u32 e.ac, .int .u32 e.wi, .int .u32 e.se, .bool e.en, .int .u32 e.fi, .int .u32 e.ov.sq, .int .u32 e.ov.ak, .bool e.ov.sack, .int .i64 e.ov.fr, .int .i64 e.ov.to, .int .i64 e.ov.mss]
/-- A splice: the client's end, the server's; reset; made. -/
structure Sp where
  c : En
  s : En
  rs : Bool
  md : Bool
structure Sp.ok (x : Sp) : Prop where
  c : x.c.ok
  s : x.s.ok
  md : x.md = true
abbrev Sp.cells (x : Sp) : Array Value := #[.int .u16 x.c.lo, .int .u16 x.c.re, .int .u32 x.c.ac, .int .u32 x.c.wi, .int .u32 x.c.se, .bool x.c.en, .int .u32 x.c.fi, .int .u32 x.c.ov.sq, .int .u32 x.c.ov.ak, .bool x.c.ov.sack, .int .i64 x.c.ov.fr, .int .i64 x.c.ov.to, .int .i64 x.c.ov.mss,
  .int .u16 x.s.lo, .int .u16 x.s.re, .int .u32 x.s.ac, .int .u32 x.s.wi, .int .u32 x.s.se, .bool x.s.en, .int .u32 x.s.fi, .int .u32 x.s.ov.sq, .int .u32 x.s.ov.ak, .bool x.s.ov.sack, .int .i64 x.s.ov.fr, .int .i64 x.s.ov.to, .int .i64 x.s.ov.mss, .bool x.rs, .bool x.md]
abbrev SpAt (w : World) (b : Nat) (x : Sp) : Prop := w.heap[b]? = some (.cells x.cells 70)
abbrev spp (b : Nat) : Value := .pointer (some ⟨b, 0, none⟩)
/-- The end of a number (true: the server's). -/
def Sp.at (x : Sp) (k : Bool) : En := if k then x.s else x.c
def Sp.put (x : Sp) (k : Bool) (e : En) : Sp := if k then { x with s := e } else { x with c := e }
abbrev kN (k : Bool) : Nat := if k then 1 else 0
abbrev kI (k : Bool) : Int := if k then 1 else 0
abbrev kO (k : Bool) : Nat := if k then 13 else 0
theorem Sp.ok.at {x : Sp} (h : x.ok) (k : Bool) : (x.at k).ok := by cases k; (· exact h.c); exact h.s

/-- An end's cells, in the splice's block. -/
theorem end_range {w : World} {b : Nat} {x : Sp} (h : SpAt w b x) (k : Bool) : w.rangeAt b (kO k) (x.at k).cells.toList := by
  intro j v hv
  rw [cell_blk h]
  have hj : j < 13 := by
    rcases Nat.lt_or_ge j 13 with hj | hj
    · exact hj
    · rw [List.getElem?_eq_none (by simpa using hj)] at hv; cases hv
  rw [← hv]
  cases k <;>
  rcases (by omega : j = 0 ∨ j = 1 ∨ j = 2 ∨ j = 3 ∨ j = 4 ∨ j = 5 ∨ j = 6 ∨ j = 7 ∨ j = 8 ∨ j = 9 ∨ j = 10 ∨ j = 11 ∨ j = 12) with rfl | rfl | rfl | rfl | rfl | rfl | rfl | rfl | rfl | rfl | rfl | rfl | rfl <;> rfl

theorem snone_nil (w : World) : Calls Try.prog 21 #[.pointer none] w fun e w' => e = .returned (.bool true) ∧ w' = w := by
  go_enter Try.func21, Try.ntmps21
  go_wp2
  go_ret
  exact ⟨rfl, rfl⟩
theorem snone_any (b : Nat) (w : World) (md : Bool) (h : w.cell? ⟨b, 27, none⟩ = some (.bool md)) : Calls Try.prog 21 #[spp b] w fun e w' => e = .returned (.bool (!md)) ∧ w' = w := by
  go_enter Try.func21, Try.ntmps21
  go_wp2
  go_ret
  exact ⟨rfl, rfl⟩
theorem later_any (a b : Int) (w : World) (ha : 0 ≤ a ∧ a ≤ 4294967295) (hb : 0 ≤ b ∧ b ≤ 4294967295) :
    Calls Try.prog 38 #[.int .u32 a, .int .u32 b] w fun e w' => e = .returned (.int .u32 (if sLess a b then b else a)) ∧ w' = w := by
  have h := less_any a b w ha hb
  generalize sLess a b = q at *
  cases q
  all_goals
    go_enter Try.func38, Try.ntmps38
    go_wp2_with fail
    refine h.mono ?_
    rintro e w1 ⟨rfl, rfl⟩
    go_wp2
    go_ret
    exact ⟨rfl, rfl⟩

/-- A window by a shift. -/
def wndE (o : En) : Int := if 65535 < o.wi / 2 ^ o.ov.to.toNat then 65535 else o.wi / 2 ^ o.ov.to.toNat
def Sp.wnd (x : Sp) (k : Bool) : Int := wndE (x.at (!k))
theorem may_to {x : Shf} (h : x.may = true) : ∃ t f : Nat, x.to = t ∧ t ≤ 14 ∧ x.fr = f ∧ f ≤ 14 := by
  unfold Shf.may at h
  simp only [Bool.and_eq_true, decide_eq_true_eq] at h
  exact ⟨x.to.toNat, x.fr.toNat, by omega, by omega, by omega, by omega⟩
theorem wndE_bd {o : En} (h : o.ok) : 0 ≤ wndE o ∧ wndE o ≤ 65535 := by
  unfold wndE
  have : 0 ≤ o.wi / 2 ^ o.ov.to.toNat := Int.ediv_nonneg h.wi.1 (Int.pow_nonneg (by decide))
  split <;> omega

set_option maxHeartbeats 1000000 in
set_option maxRecDepth 100000 in
theorem window_any (b : Nat) (x : Sp) (k : Bool) (w : World) (h : SpAt w b x) (hx : x.ok) :
    Calls Try.prog 28 #[spp b, .int .i64 (kI k)] w fun e w' => e = .returned (.int .u16 (x.wnd k)) ∧ Ext w w' := by
  have ho := hx.at (!k)
  have hr := end_range h (!k)
  have hWD : Hid (x.wnd k = wndE (x.at (!k))) := rfl
  unfold wndE at hWD
  generalize x.wnd k = V at *
  generalize x.at (!k) = o at *
  obtain ⟨t, f, ht, ht14, -, -⟩ := may_to ho.may
  obtain ⟨w0, w1⟩ := ho.wi
  obtain ⟨lo, re, ac, wi, se, en, fi, ⟨sq, ak, sack, fr, to, mss⟩⟩ := o
  dsimp only at ht
  subst ht
  dsimp only [En.cells, Int.toNat_natCast] at *
  have ht0 : (1 : Int) ≤ (2 : Int) ^ t := by
    have : 1 ≤ 2 ^ t := Nat.one_le_two_pow
    have h2 : ((2 ^ t : Nat) : Int) = (2 : Int) ^ t := by simp
    rw [← h2]; omega
  have hq0 : 0 ≤ wi / 2 ^ t := Int.ediv_nonneg w0 (by omega)
  have hq1 : wi / 2 ^ t ≤ wi := Int.ediv_le_self _ w0
  obtain ⟨Q, hQ⟩ : ∃ Q : Int, wi / 2 ^ t = Q := ⟨_, rfl⟩
  have hWD2 : V = if 65535 < Q then 65535 else Q := by rw [← hQ]; exact hWD.out
  have hq0' : 0 ≤ Q := hQ ▸ hq0
  have hone : (#[.int .u16 lo, .int .u16 re, .int .u32 ac, .int .u32 wi, .int .u32 se, .bool en, .int .u32 fi, .int .u32 sq, .int .u32 ak, .bool sack, .int .i64 fr, .int .i64 (t : Int), .int .i64 mss] : Array Value).all (·.oneCell') = true := by simp [Value.oneCell']
  obtain ⟨V', hV, hVb⟩ : ∃ V' : Int, V' = (if 65535 < Q then 65535 else Q) ∧ (0 ≤ V' ∧ V' ≤ 65535) := ⟨_, rfl, by split <;> omega⟩
  have hwr : IntKind.u16.wrap V' = V' := by rw [IntKind.wrap_u16]; omega
  have HV : Hid (V = V') := by rw [hV]; exact hWD2
  have hbt : ¬ (t : Int) < 0 := by omega
  have hmin : min t 32 = t := by omega
  clear ho hx hWD hWD2 w0 w1 ht0 hq0 hq1 hq0' ht14 hVb
  rcases (by omega : (65535 < Q ∧ V' = 65535) ∨ (¬ 65535 < Q ∧ V' = Q)) with ⟨q, rfl⟩ | ⟨q, rfl⟩
  all_goals
    clear hV
    cases k
    all_goals
      dsimp only [kI, kO, Bool.not_true, Bool.not_false, if_true, if_false, Bool.false_eq_true] at *
      go_enter Try.func28, Try.ntmps28
      go_wp2_with (first | (refine wpList_load_mid rfl 67 _ rfl b _ rfl _ _ hr Try.underlying67 rfl (by kernel_rfl) ?_) | (refine wpList_store_big 67 _ rfl rfl (by kernel_rfl) rfl hone ?_))
      go_ret
      refine ⟨?_, Ext.new _ _⟩
      rw [HV.out]
      rfl

/-- A segment to an end. -/
def toldG (x : Sp) (k : Bool) (n f wn : Int) : Sg := ⟨(x.at k).lo, (x.at k).re, n, ((x.at (!k)).ac - (x.at k).ov.sq) % 4294967296, f, wn, 0, [], []⟩
abbrev nos : Value := .slice none 0 0

set_option maxHeartbeats 4000000 in
set_option maxRecDepth 100000 in
theorem told_any (b : Nat) (x : Sp) (k : Bool) (n f wn : Int) (w : World) (h : SpAt w b x) :
    Calls Try.prog 27 #[spp b, .int .i64 (kI k), .int .u32 n, .int .u8 f, .int .u16 wn] w fun e w' => e = .returned (.agg ((toldG x k n f wn).cells nos nos)) ∧ Ext w w' := by
  have hlt := lt_of_block h
  have hR0 := end_range h k
  have hR1 := end_range h (!k)
  have hG : Hid (toldG x k n f wn = ⟨(x.at k).lo, (x.at k).re, n, ((x.at (!k)).ac - (x.at k).ov.sq) % 4294967296, f, wn, 0, [], []⟩) := rfl
  generalize toldG x k n f wn = G at *
  generalize x.at k = e0 at *
  generalize x.at (!k) = e1 at *
  obtain ⟨lo, re, ac, wi, se, en, fi, ⟨sq, ak, sack, fr, to, mss⟩⟩ := e0
  obtain ⟨lo', re', ac', wi', se', en', fi', ⟨sq', ak', sack', fr', to', mss'⟩⟩ := e1
  have ho0 : (En.cells ⟨lo, re, ac, wi, se, en, fi, ⟨sq, ak, sack, fr, to, mss⟩⟩).all (·.oneCell') = true := by simp [Value.oneCell']
  have ho1 : (En.cells ⟨lo', re', ac', wi', se', en', fi', ⟨sq', ak', sack', fr', to', mss'⟩⟩).all (·.oneCell') = true := by simp [Value.oneCell']
  clear h
  cases k
  all_goals
    dsimp only [kI, kO, Bool.not_true, Bool.not_false, En.cells] at *
    simp only [↓reduceIte, Bool.false_eq_true] at *
    go_enter Try.func27, Try.ntmps27
    go_upto_region 1 with (fail)
    generalize hW : w.alloc _ = W
    have hxW : Ext w W := by rw [← hW]; exact Ext.new _ _
    have kr : W.heap[w.heap.size]? = some (.cells (Sg.none.cells nos nos) 51) := by rw [← hW]; exact heap_alloc_new w _
    have hlr := lt_of_block kr
    have hR0 := range_ext hR0 hxW
    have hR1 := range_ext hR1 hxW
    clear hW
    refine Order.wp_region_two [0, 1, 2, 3, 4, 5, 6, 7, 8, 9, 10, 11, 12] 13 14 [15, 16] 16 (fun w' => Ext W w') (fun _ _ => False) (fun _ _ _ _ h => h.elim) (fun _ h => h) (by kernel_rfl) (by kernel_rfl) (by kernel_rfl) rfl (by kernel_rfl) ?_
    intro wd hwd
    iterate 5
      apply Order.wpH_some rfl rfl
      · intro w' hw'; go_simp; exact rfl
      intro K hK; go_simp; refine hK _ ?_; clear hK K
    apply Order.wpH_some rfl rfl
    · intro w' hw'
      exact Order.look_load 67 _ rfl b _ rfl (En.cells ⟨lo, re, ac, wi, se, en, fi, ⟨sq, ak, sack, fr, to, mss⟩⟩) _ (range_ext hR0 hw') Try.underlying67 rfl (by kernel_rfl)
    intro K hK; go_simp; refine hK _ ?_; clear hK K
    iterate 6
      apply Order.wpH_some rfl rfl
      · intro w' hw'; go_simp; exact rfl
      intro K hK; go_simp; refine hK _ ?_; clear hK K
    apply Order.wpH_some rfl rfl
    · intro w' hw'
      exact Order.look_load 67 _ rfl b _ rfl (En.cells ⟨lo', re', ac', wi', se', en', fi', ⟨sq', ak', sack', fr', to', mss'⟩⟩) _ (range_ext hR1 hw') Try.underlying67 rfl (by kernel_rfl)
    intro K hK; go_simp; refine hK _ ?_; clear hK K
    have hwd : Ext W wd := hwd
    refine Order.wpH_nil ⟨?_, ?_⟩
    · apply Order.wpI_step rfl rfl
      intro K hK
      go_simp
      refine hK _ _ (fun _ => hwd.al _) ?_
      clear hK K
      apply Order.wpI_step rfl rfl
      intro K hK
      go_simp
      refine hK _ _ (fun _ => (hwd.al _).al _) ?_
      clear hK K
      generalize hV : (World.alloc wd _).alloc _ = V
      have hxV : Ext W V := by rw [← hV]; exact (hwd.al _).al _
      have hsz := hwd.size
      have ka : V.heap[wd.heap.size]? = some (.cells (En.cells ⟨0, 0, 0, 0, 0, false, 0, ⟨0, 0, false, 0, 0, 0⟩⟩) 67) := by rw [← hV]; simp only [heap_alloc_at, World.size_alloc]; simp
      have kb : V.heap[wd.heap.size + 1]? = some (.cells (En.cells ⟨0, 0, 0, 0, 0, false, 0, ⟨0, 0, false, 0, 0, 0⟩⟩) 67) := by rw [← hV]; simp only [heap_alloc_at, World.size_alloc]; simp
      clear hV
      refine Order.wpI_put_row 67 rfl (wd.heap.size) _ (En.cells ⟨lo, re, ac, wi, se, en, fi, ⟨sq, ak, sack, fr, to, mss⟩⟩) _ rfl rfl ka (by kernel_rfl) rfl ho0 ?_
      intro V1 ka1 hm1 K hK
      refine hK _ _ (fun _ => hm1.ext hxV (fun k hk => by omega)) ?_
      clear hK K
      refine Order.wpI_put_row 67 rfl (wd.heap.size + 1) _ (En.cells ⟨lo', re', ac', wi', se', en', fi', ⟨sq', ak', sack', fr', to', mss'⟩⟩) _ rfl rfl (hm1.keep kb (by omega)) (by kernel_rfl) rfl ho1 ?_
      intro V2 kb2 hm2 K hK
      refine hK _ _ (fun h => absurd rfl h) ?_
      clear hK K
      refine Order.wpI_nil ?_
      have ka2 := hm2.keep ka1 (by omega)
      have hx2 : Ext W V2 := hm2.ext (hm1.ext hxV (fun k hk => by omega)) (fun k hk => by omega)
      have kr2 := hx2.block kr
      clear hm1 hm2 ka kb ka1 hxV hR0 hR1
      have hxw := hxW.tr hx2
      have a0 := cell_blk ka2 0
      have a1 := cell_blk ka2 1
      have a7 := cell_blk ka2 7
      simp at a0 a1 a7
      have b2 := cell_blk kb2 2
      simp at b2
      go_wp2_with (refine wpList_put_row 51 w.heap.size _ (Sg.cells ⟨lo, re, n, (ac' - sq) % 4294967296, f, wn, 0, [], []⟩ nos nos) _ rfl rfl kr2 (by kernel_rfl) rfl (by simp [Value.oneCell']) ?_; intro W3 k3 hm3)
      refine bodyPost_ret (results_cell Try.results27 _ rfl (load_blk k3 51 _ Try.underlying51 rfl (by kernel_rfl))) rfl ?_
      exact ⟨by rw [hG.out], hm3.ext hxw (fun k hk => by omega)⟩
    · apply Order.wpI_step rfl rfl
      intro K hK
      go_simp
      refine hK _ _ (fun _ => hwd.al _) ?_
      clear hK K
      apply Order.wpI_step rfl rfl
      intro K hK
      go_simp
      refine hK _ _ (fun _ => (hwd.al _).al _) ?_
      clear hK K
      generalize hV : (World.alloc wd _).alloc _ = V
      have hxV : Ext W V := by rw [← hV]; exact (hwd.al _).al _
      have hsz := hwd.size
      have ka : V.heap[wd.heap.size + 1]? = some (.cells (En.cells ⟨0, 0, 0, 0, 0, false, 0, ⟨0, 0, false, 0, 0, 0⟩⟩) 67) := by rw [← hV]; simp only [heap_alloc_at, World.size_alloc]; simp
      have kb : V.heap[wd.heap.size]? = some (.cells (En.cells ⟨0, 0, 0, 0, 0, false, 0, ⟨0, 0, false, 0, 0, 0⟩⟩) 67) := by rw [← hV]; simp only [heap_alloc_at, World.size_alloc]; simp
      clear hV
      refine Order.wpI_put_row 67 rfl (wd.heap.size + 1) _ (En.cells ⟨lo, re, ac, wi, se, en, fi, ⟨sq, ak, sack, fr, to, mss⟩⟩) _ rfl rfl ka (by kernel_rfl) rfl ho0 ?_
      intro V1 ka1 hm1 K hK
      refine hK _ _ (fun _ => hm1.ext hxV (fun k hk => by omega)) ?_
      clear hK K
      refine Order.wpI_put_row 67 rfl (wd.heap.size) _ (En.cells ⟨lo', re', ac', wi', se', en', fi', ⟨sq', ak', sack', fr', to', mss'⟩⟩) _ rfl rfl (hm1.keep kb (by omega)) (by kernel_rfl) rfl ho1 ?_
      intro V2 kb2 hm2 K hK
      refine hK _ _ (fun h => absurd rfl h) ?_
      clear hK K
      refine Order.wpI_nil ?_
      have ka2 := hm2.keep ka1 (by omega)
      have hx2 : Ext W V2 := hm2.ext (hm1.ext hxV (fun k hk => by omega)) (fun k hk => by omega)
      have kr2 := hx2.block kr
      clear hm1 hm2 ka kb ka1 hxV hR0 hR1
      have hxw := hxW.tr hx2
      have a0 := cell_blk ka2 0
      have a1 := cell_blk ka2 1
      have a7 := cell_blk ka2 7
      simp at a0 a1 a7
      have b2 := cell_blk kb2 2
      simp at b2
      go_wp2_with (refine wpList_put_row 51 w.heap.size _ (Sg.cells ⟨lo, re, n, (ac' - sq) % 4294967296, f, wn, 0, [], []⟩ nos nos) _ rfl rfl kr2 (by kernel_rfl) rfl (by simp [Value.oneCell']) ?_; intro W3 k3 hm3)
      refine bodyPost_ret (results_cell Try.results27 _ rfl (load_blk k3 51 _ Try.underlying51 rfl (by kernel_rfl))) rfl ?_
      exact ⟨by rw [hG.out], hm3.ext hxw (fun k hk => by omega)⟩

/-- Is an end's FIN acknowledged? -/
def Sp.clo (x : Sp) (k : Bool) : Bool := (x.at k).en && !sLess (x.at (!k)).ac (((x.at k).fi + 1 + (x.at k).ov.sq) % 4294967296)

set_option maxHeartbeats 4000000 in
set_option maxRecDepth 100000 in
theorem closed_any (b : Nat) (x : Sp) (k : Bool) (w : World) (h : SpAt w b x) (hx : x.ok) :
    Calls Try.prog 24 #[spp b, .int .i64 (kI k)] w fun e w' => e = .returned (.bool (x.clo k)) ∧ Ext w w' := by
  have hlt := lt_of_block h
  have hR0 := end_range h k
  have hR1 := end_range h (!k)
  have hac := (hx.at (!k)).ac
  have hC : Hid (x.clo k = ((x.at k).en && !sLess (x.at (!k)).ac (((x.at k).fi + 1 + (x.at k).ov.sq) % 4294967296))) := rfl
  generalize x.clo k = CL at *
  generalize x.at k = e0 at *
  generalize x.at (!k) = e1 at *
  obtain ⟨lo, re, ac, wi, se, en, fi, ⟨sq, ak, sack, fr, to, mss⟩⟩ := e0
  obtain ⟨lo', re', ac', wi', se', en', fi', ⟨sq', ak', sack', fr', to', mss'⟩⟩ := e1
  have ho0 : (En.cells ⟨lo, re, ac, wi, se, en, fi, ⟨sq, ak, sack, fr, to, mss⟩⟩).all (·.oneCell') = true := by simp [Value.oneCell']
  have ho1 : (En.cells ⟨lo', re', ac', wi', se', en', fi', ⟨sq', ak', sack', fr', to', mss'⟩⟩).all (·.oneCell') = true := by simp [Value.oneCell']
  dsimp only at hac
  have hAC := Lib.hid hac
  clear h hx hac
  have hls : ∀ W : World, Calls Try.prog 35 #[.int .u32 ac', .int .u32 ((fi + 1 + sq) % 4294967296)] W fun e w' => e = .returned (.bool (sLess ac' ((fi + 1 + sq) % 4294967296))) ∧ w' = W := fun W => less_any _ _ W hAC.out (by omega)
  have HLS := Lib.hid hls
  clear hls hAC
  generalize sLess ac' ((fi + 1 + sq) % 4294967296) = L at *
  cases k
  all_goals
    dsimp only [kI, kO, Bool.not_true, Bool.not_false, En.cells] at *
    simp only [↓reduceIte, Bool.false_eq_true] at *
    go_enter Try.func24, Try.ntmps24
    go_upto_region 1 with (fail)
    refine Order.wp_region_two [0, 1, 2, 3, 4, 5, 6, 7, 8, 9, 10, 11, 12] 13 14 [15, 16] 16 (fun w' => Ext w w') (fun _ _ => False) (fun _ _ _ _ h => h.elim) (fun _ h => h) (by kernel_rfl) (by kernel_rfl) (by kernel_rfl) rfl (by kernel_rfl) ?_
    intro wd hwd
    iterate 5
      apply Order.wpH_some rfl rfl
      · intro w' hw'; go_simp; exact rfl
      intro K hK; go_simp; refine hK _ ?_; clear hK K
    apply Order.wpH_some rfl rfl
    · intro w' hw'
      exact Order.look_load 67 _ rfl b _ rfl (En.cells ⟨lo, re, ac, wi, se, en, fi, ⟨sq, ak, sack, fr, to, mss⟩⟩) _ (range_ext hR0 hw') Try.underlying67 rfl (by kernel_rfl)
    intro K hK; go_simp; refine hK _ ?_; clear hK K
    iterate 6
      apply Order.wpH_some rfl rfl
      · intro w' hw'; go_simp; exact rfl
      intro K hK; go_simp; refine hK _ ?_; clear hK K
    apply Order.wpH_some rfl rfl
    · intro w' hw'
      exact Order.look_load 67 _ rfl b _ rfl (En.cells ⟨lo', re', ac', wi', se', en', fi', ⟨sq', ak', sack', fr', to', mss'⟩⟩) _ (range_ext hR1 hw') Try.underlying67 rfl (by kernel_rfl)
    intro K hK; go_simp; refine hK _ ?_; clear hK K
    have hwd : Ext w wd := hwd
    refine Order.wpH_nil ⟨?_, ?_⟩
    · apply Order.wpI_step rfl rfl
      intro K hK
      go_simp
      refine hK _ _ (fun _ => hwd.al _) ?_
      clear hK K
      apply Order.wpI_step rfl rfl
      intro K hK
      go_simp
      refine hK _ _ (fun _ => (hwd.al _).al _) ?_
      clear hK K
      generalize hV : (World.alloc wd _).alloc _ = V
      have hxV : Ext w V := by rw [← hV]; exact (hwd.al _).al _
      have hsz := hwd.size
      have ka : V.heap[wd.heap.size]? = some (.cells (En.cells ⟨0, 0, 0, 0, 0, false, 0, ⟨0, 0, false, 0, 0, 0⟩⟩) 67) := by rw [← hV]; simp only [heap_alloc_at, World.size_alloc]; simp
      have kb : V.heap[wd.heap.size + 1]? = some (.cells (En.cells ⟨0, 0, 0, 0, 0, false, 0, ⟨0, 0, false, 0, 0, 0⟩⟩) 67) := by rw [← hV]; simp only [heap_alloc_at, World.size_alloc]; simp
      clear hV
      refine Order.wpI_put_row 67 rfl (wd.heap.size) _ (En.cells ⟨lo, re, ac, wi, se, en, fi, ⟨sq, ak, sack, fr, to, mss⟩⟩) _ rfl rfl ka (by kernel_rfl) rfl ho0 ?_
      intro V1 ka1 hm1 K hK
      refine hK _ _ (fun _ => hm1.ext hxV (fun k hk => by omega)) ?_
      clear hK K
      refine Order.wpI_put_row 67 rfl (wd.heap.size + 1) _ (En.cells ⟨lo', re', ac', wi', se', en', fi', ⟨sq', ak', sack', fr', to', mss'⟩⟩) _ rfl rfl (hm1.keep kb (by omega)) (by kernel_rfl) rfl ho1 ?_
      intro V2 kb2 hm2 K hK
      refine hK _ _ (fun h => absurd rfl h) ?_
      clear hK K
      refine Order.wpI_nil ?_
      have ka2 := hm2.keep ka1 (by omega)
      have hxw : Ext w V2 := hm2.ext (hm1.ext hxV (fun k hk => by omega)) (fun k hk => by omega)
      clear hm1 hm2 ka kb ka1 hxV hR0 hR1
      have a5 := cell_blk ka2 5
      have a6 := cell_blk ka2 6
      have a7 := cell_blk ka2 7
      simp at a5 a6 a7
      have b2 := cell_blk kb2 2
      simp at b2
      cases en
      · go_wp2_with fail
        go_ret
        exact ⟨by rw [hC.out]; rfl, hxw⟩
      · go_wp2_with fail
        refine (HLS.out _).mono ?_
        rintro e w1 ⟨rfl, rfl⟩
        go_wp2_with fail
        go_ret
        exact ⟨by rw [hC.out]; rfl, hxw⟩
    · apply Order.wpI_step rfl rfl
      intro K hK
      go_simp
      refine hK _ _ (fun _ => hwd.al _) ?_
      clear hK K
      apply Order.wpI_step rfl rfl
      intro K hK
      go_simp
      refine hK _ _ (fun _ => (hwd.al _).al _) ?_
      clear hK K
      generalize hV : (World.alloc wd _).alloc _ = V
      have hxV : Ext w V := by rw [← hV]; exact (hwd.al _).al _
      have hsz := hwd.size
      have ka : V.heap[wd.heap.size + 1]? = some (.cells (En.cells ⟨0, 0, 0, 0, 0, false, 0, ⟨0, 0, false, 0, 0, 0⟩⟩) 67) := by rw [← hV]; simp only [heap_alloc_at, World.size_alloc]; simp
      have kb : V.heap[wd.heap.size]? = some (.cells (En.cells ⟨0, 0, 0, 0, 0, false, 0, ⟨0, 0, false, 0, 0, 0⟩⟩) 67) := by rw [← hV]; simp only [heap_alloc_at, World.size_alloc]; simp
      clear hV
      refine Order.wpI_put_row 67 rfl (wd.heap.size + 1) _ (En.cells ⟨lo, re, ac, wi, se, en, fi, ⟨sq, ak, sack, fr, to, mss⟩⟩) _ rfl rfl ka (by kernel_rfl) rfl ho0 ?_
      intro V1 ka1 hm1 K hK
      refine hK _ _ (fun _ => hm1.ext hxV (fun k hk => by omega)) ?_
      clear hK K
      refine Order.wpI_put_row 67 rfl (wd.heap.size) _ (En.cells ⟨lo', re', ac', wi', se', en', fi', ⟨sq', ak', sack', fr', to', mss'⟩⟩) _ rfl rfl (hm1.keep kb (by omega)) (by kernel_rfl) rfl ho1 ?_
      intro V2 kb2 hm2 K hK
      refine hK _ _ (fun h => absurd rfl h) ?_
      clear hK K
      refine Order.wpI_nil ?_
      have ka2 := hm2.keep ka1 (by omega)
      have hxw : Ext w V2 := hm2.ext (hm1.ext hxV (fun k hk => by omega)) (fun k hk => by omega)
      clear hm1 hm2 ka kb ka1 hxV hR0 hR1
      have a5 := cell_blk ka2 5
      have a6 := cell_blk ka2 6
      have a7 := cell_blk ka2 7
      simp at a5 a6 a7
      have b2 := cell_blk kb2 2
      simp at b2
      cases en
      · go_wp2_with fail
        go_ret
        exact ⟨by rw [hC.out]; rfl, hxw⟩
      · go_wp2_with fail
        refine (HLS.out _).mono ?_
        rintro e w1 ⟨rfl, rfl⟩
        go_wp2_with fail
        go_ret
        exact ⟨by rw [hC.out]; rfl, hxw⟩

/-- Where a splice stands. -/
def Sp.state (x : Sp) : Int := if !x.md then 0 else if x.rs then 2 else if x.clo false && x.clo true then 1 else 0
theorem sstate_nil (w : World) : Calls Try.prog 14 #[.pointer none] w fun e w' => e = .returned (.int .i64 0) ∧ w' = w := by
  go_enter Try.func14, Try.ntmps14
  go_wp2_with fail
  refine (snone_nil w).mono ?_
  rintro e w1 ⟨rfl, rfl⟩
  go_wp2
  go_ret
  exact ⟨rfl, rfl⟩
set_option maxHeartbeats 1000000 in
theorem sstate_any (b : Nat) (x : Sp) (w : World) (h : SpAt w b x) (hx : x.ok) : Calls Try.prog 14 #[spp b] w fun e w' => e = .returned (.int .i64 x.state) ∧ Ext w w' := by
  have h26 := cell_blk h 26
  have h27 := cell_blk h 27
  simp at h26 h27
  have hS : Hid (x.state = if !x.md then 0 else if x.rs then 2 else if x.clo false && x.clo true then 1 else 0) := rfl
  have hmd := hx.md
  have hc0 := Lib.hid (fun (W : World) (h : SpAt W b x) => closed_any b x false W h hx)
  have hc1 := Lib.hid (fun (W : World) (h : SpAt W b x) => closed_any b x true W h hx)
  generalize x.clo false = c0 at *
  generalize x.clo true = c1 at *
  generalize x.state = ST at *
  generalize x.rs = rs at *
  rw [hmd] at h27 hS
  clear hx hmd
  have hN := snone_any b w true h27
  go_enter Try.func14, Try.ntmps14
  go_wp2_with fail
  refine hN.mono ?_
  rintro e w1 ⟨rfl, rfl⟩
  clear hN
  cases rs
  · go_wp2_with fail
    refine (hc0.out _ h).mono ?_
    rintro e w2 ⟨rfl, hx2⟩
    have h2 := hx2.block h
    cases c0
    · go_wp2_with fail
      go_ret
      exact ⟨by rw [hS.out]; rfl, hx2⟩
    go_wp2_with fail
    refine (hc1.out _ h2).mono ?_
    rintro e w3 ⟨rfl, hx3⟩
    cases c1
    all_goals
      go_wp2_with fail
      go_ret
      exact ⟨by rw [hS.out]; rfl, hx2.tr hx3⟩
  · go_wp2_with fail
    go_ret
    exact ⟨by rw [hS.out]; rfl, Ext.rfl' _⟩
end Go.Proofs.Ytgbbpibcmpeneaa
