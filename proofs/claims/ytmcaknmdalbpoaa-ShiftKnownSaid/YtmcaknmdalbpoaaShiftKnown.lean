/-
  Proved here: the law ShiftKnown returns true.
-/
import Derived.Test.YtmcaknmdalbpoaaShD
import Derived.Test.YtmcaknmdalbpoaaTcpW
import Derived.Test.YtmcaknmdalbpoaaOptBk
import Derived.Test.YtmcaknmdalbpoaaOptG
import Derived.Test.YtmcaknmdalbpoaaFrz
namespace Go.Proofs.Ytmcaknmdalbpoaa.shiftKnown
set_option maxRecDepth 16000
open Go.ChangeShapes Go.WideShapes Go.ChangeAt Go.RowKit Go.Cul Go.Loose
set_option linter.unusedVariables false
attribute [local go_sem] Loose.Still Loose.Upon Loose.vUpon

/-- The options of the law's segment. -/
def knO : List Op1 := [(2, [0, 9]), (4, []), (8, [0, 0, 0, 0, 0, 0, 0, 0]), (9, [1]), (5, [0, 0, 0, 1, 0, 0, 0, 5])]
def knG : Sg := ⟨0, 0, 0, 0, 48, 0, 3, knO, [97, 98, 99, 100, 101, 102]⟩
theorem knG_ok : knG.ok := ⟨by decide, by decide, by decide, by decide, by decide, by decide, by decide, by
  intro o ho
  simp only [knG, knO, List.mem_cons, List.not_mem_nil, or_false] at ho
  rcases ho with rfl | rfl | rfl | rfl | rfl
  · exact ⟨by decide, byt_of rfl⟩
  · exact ⟨by decide, byt_of rfl⟩
  · exact ⟨by decide, byt_of rfl⟩
  · exact ⟨by decide, byt_of rfl⟩
  · exact ⟨by decide, byt_of rfl⟩, byt_of rfl⟩

def knP (s f u : Int) (os : List Op1) (d : List Int) : Sg := ⟨0, 0, s, 10, f, 0, u, os, d⟩
def knL1 : List Sg := [knP 0 48 3 [(9, [1]), (5, [0, 0, 0, 11, 0, 0, 0, 15])] [97, 98], knP 2 48 1 [(9, [1]), (5, [0, 0, 0, 11, 0, 0, 0, 15])] [99, 100], knP 4 16 0 [(9, [1]), (5, [0, 0, 0, 11, 0, 0, 0, 15])] [101, 102]]
def knL2 : List Sg := [knP 0 48 3 [(9, [1])] [97, 98], knP 2 48 1 [(9, [1])] [99, 100], knP 4 16 0 [(9, [1])] [101, 102]]
theorem over1 : overL ⟨0, 10, true, 0, 0, 18⟩ knG = (knL1, 0) := by kernel_rfl
theorem over2 : overL ⟨0, 10, false, 0, 0, 6⟩ knG = (knL2, 0) := by kernel_rfl
theorem over_lit2 {x : Shf} {g : Sg} {L : List Sg} {E : Int} (he : overL x g = (L, E)) (hx : x.ok) (hg : g.ok) {vo vd : Value} {w : World} (hvo : RdO w vo g.os) (hvd : Rd .u8 w vd g.data) (hn : g.os.length ≤ 50000) (hd : ∀ o ∈ g.os, o.2.length ≤ 1000000) (hl : g.data.length ≤ 1000000) :
    Calls Try.prog 9 #[.agg x.cells, .agg (g.cells vo vd)] w fun e w' => ∃ u, e = .returned (.tuple #[u, .int .i64 E]) ∧ FrS w' w.heap.size u L ∧ Ext w w' := by
  have h := over_any x hx g hg vo vd w hvo hvd hn hd hl
  rw [he] at h
  exact h
theorem knD : ∀ o ∈ knG.os, o.2.length ≤ 1000000 := by decide

/-- An option, its data told. -/
def OptV (k : Int) (l : List Int) : Value → World → Prop := fun v w => ∃ a n c, v = .agg #[.int .u8 k, .slice a n c] ∧ Rd .u8 w (.slice a n c) l
theorem OptV.lasts {k : Int} {l : List Int} (v : Value) (w w' : World) (h : RowKit.Below w.heap.size w w') (hs : OptV k l v w) : OptV k l v w' := by
  obtain ⟨a, n, c, rfl, hr⟩ := hs
  exact ⟨a, n, c, rfl, hr.ext h⟩

theorem OptV.mkd {k : Int} {l : List Int} {e : TypeId} {N : Nat} (v : Value) (w w' : World) (h : Mkd e N w w') (hs : OptV k l v w) : OptV k l v w' := by
  obtain ⟨a, n, c, rfl, hr⟩ := hs
  exact ⟨a, n, c, rfl, hr.mkd h⟩
theorem rdo_mkd {w w' : World} {v : Value} {os : List Op1} {e : TypeId} {N : Nat} (h : RdO w v os) (hx : Mkd e N w w') : RdO w' v os := by
  obtain ⟨a, cap, rfl, h1, h2, h3⟩ := h
  refine ⟨a, cap, rfl, h1, h2, ?_⟩
  rcases h3 with h3 | ⟨b, o, rfl, h3⟩
  · exact .inl h3
  · exact .inr ⟨b, o, rfl, fun i hi => let ⟨u, h4, h5, h6⟩ := h3 i hi; ⟨u, hx.cell h4, hx.cell h5, h6.mkd hx⟩⟩
/-- A literal's row. -/
def LitR (N : Nat) (l : List Int) : Value → World → Prop := fun v w => ∃ b C f, v = .slice (some ⟨b, 0, none⟩) l.length l.length ∧ N ≤ b ∧ w.heap[b]? = some (.cells C 5 f) ∧ Rd .u8 w v l
theorem LitR.ext {N : Nat} {l : List Int} (v : Value) (w w' : World) (h : Ext w w') (hs : LitR N l v w) : LitR N l v w' := by
  obtain ⟨b, C, f, rfl, h1, h2, h3⟩ := hs
  exact ⟨b, C, f, rfl, h1, h.block h2, h3.ext h⟩
theorem LitR.mkd {N : Nat} {l : List Int} {e : TypeId} {M : Nat} (v : Value) (w w' : World) (h : Mkd e M w w') (hs : LitR N l v w) : LitR N l v w' := by
  obtain ⟨b, C, f, rfl, h1, h2, h3⟩ := hs
  obtain ⟨f', h4, -⟩ := h.blk _ _ _ _ h2
  exact ⟨b, C, f', rfl, h1, h4, h3.mkd h⟩
/-- A new segment's block. -/
def NewS (N : Nat) : Value → World → Prop := fun v w => ∃ g, v = .pointer (some ⟨g, 0, none⟩) ∧ N ≤ g ∧ w.heap[g]? = some (.cells (Sg.none.cells (.slice none 0 0) (.slice none 0 0)) 29)
theorem NewS.mkd {N M : Nat} (v : Value) (w w' : World) (h : Mkd 5 M w w') (hs : NewS N v w) : NewS N v w' := by
  obtain ⟨g, rfl, h1, h2⟩ := hs
  obtain ⟨f', h4, h5⟩ := h.blk _ _ _ _ h2
  exact ⟨g, rfl, h1, by rw [h4, h5 (by decide)]⟩

/-- The one byte of an empty segment's cells. -/
theorem zero_u8 {w : World} {g o : Nat} {x : Int} (hz : w.heap[g]? = some (.cells (Sg.none.cells (.slice none 0 0) (.slice none 0 0)) 29)) (h : w.cell? ⟨g, o, none⟩ = some (.int .u8 x)) : o = 4 ∧ x = 0 := by
  rw [cell_blk hz] at h
  have ho : o < 9 := (Array.getElem?_eq_some_iff.1 h).1
  rcases (by omega : o = 0 ∨ o = 1 ∨ o = 2 ∨ o = 3 ∨ o = 4 ∨ o = 5 ∨ o = 6 ∨ o = 7 ∨ o = 8) with rfl | rfl | rfl | rfl | rfl | rfl | rfl | rfl | rfl <;> simp [Sg.none] at h
  exact ⟨rfl, h.symm⟩
theorem cell_put {w W : World} {g : Nat} (hm : Mvs (fun k => k = g) w W) {a : Addr} {v : Value} (h : w.cell? a = some v) (ha : a.block ≠ g) : W.cell? a = some v := by
  have hb := hm.block a.block (lt_of_cell h) ha
  rw [← h]
  simp only [World.cell?, hb]
theorem rd_put {w W : World} {g : Nat} {v : Value} {l : List Int} (hz : w.heap[g]? = some (.cells (Sg.none.cells (.slice none 0 0) (.slice none 0 0)) 29)) (hm : Mvs (fun k => k = g) w W) (h : Rd .u8 w v l) (hl : l = [] ∨ 2 ≤ l.length ∨ l.getD 0 0 ≠ 0) : Rd .u8 W v l := by
  obtain ⟨a, cap, rfl, h1, h2, h3⟩ := h
  refine ⟨a, cap, rfl, h1, h2, ?_⟩
  rcases h3 with h3 | ⟨b, o, rfl, h3⟩
  · exact .inl h3
  · refine (Classical.em (l = [])).imp id fun hne => ⟨b, o, rfl, fun i hi => ?_⟩
    refine cell_put hm (h3 i hi) (fun hb => ?_)
    have hb : b = g := hb
    subst hb
    have hpos : 0 < l.length := by omega
    have q0 := zero_u8 hz (h3 0 hpos)
    rcases hl with hl | hl | hl
    · exact hne hl
    · have q1 := zero_u8 hz (h3 1 (by omega))
      omega
    · exact hl q0.2
theorem rdo_put {w W : World} {g : Nat} {v : Value} {os : List Op1} (hz : w.heap[g]? = some (.cells (Sg.none.cells (.slice none 0 0) (.slice none 0 0)) 29)) (hm : Mvs (fun k => k = g) w W) (h : RdO w v os)
    (hl : ∀ i, i < os.length → (os.getD i (0, [])).1 ≠ 0 ∧ ((os.getD i (0, [])).2 = [] ∨ 2 ≤ (os.getD i (0, [])).2.length ∨ (os.getD i (0, [])).2.getD 0 0 ≠ 0)) : RdO W v os := by
  obtain ⟨a, cap, rfl, h1, h2, h3⟩ := h
  refine ⟨a, cap, rfl, h1, h2, ?_⟩
  rcases h3 with h3 | ⟨b, o, rfl, h3⟩
  · exact .inl h3
  · refine .inr ⟨b, o, rfl, fun i hi => ?_⟩
    obtain ⟨u, h4, h5, h6⟩ := h3 i hi
    have hb : b ≠ g := fun hb => by
      subst hb
      exact (hl i hi).1 (zero_u8 hz h4).2
    exact ⟨u, cell_put hm h4 hb, cell_put hm h5 hb, rd_put hz hm h6 (hl i hi).2⟩

set_option maxHeartbeats 4000000 in
set_option maxRecDepth 100000 in
theorem walk (w : World) : Calls Try.prog 5 #[] w fun e w' => e = .returned (.bool true) ∧ Ext w w' := by
  go_enter Try.func5, Try.ntmps5
  go_wp2_with fail
  refine (withsacks_any _ [(1, 5)] _ ⟨_, 1, rfl, Nat.le_refl _, by decide, .inr ⟨w.heap.size, 0, rfl, fun i hi => ?_⟩⟩ (fun b hb => ?_)).mono ?_
  · obtain rfl : i = 0 := by simpa using hi
    exact ⟨by rw [cell_new]; rfl, by rw [cell_new]; rfl⟩
  · obtain rfl : b = (1, 5) := by simpa using hb
    exact ⟨by decide, by decide⟩
  rw [show owith [(1, 5)] = ((5, [0, 0, 0, 1, 0, 0, 0, 5]), 0) from by decide +kernel]
  rintro e w1 ⟨u1, rfl, hu1, hx1⟩
  have hx01 : Ext w w1 := Ext.tr (Ext.new _ _) hx1
  replace hu1 := hu1.rd
  obtain ⟨a1, n1, c1, rfl⟩ := hu1.shape
  clear hx1
  go_upto_region 2 with (fail)
  generalize hW : w1.alloc _ = W
  have hxW : Ext w W := by rw [← hW]; exact hx01.al _
  have k1 : W.heap[w1.heap.size]? = some (.cells #[.int .u8 5, .slice a1 n1 c1] 46) := by rw [← hW]; exact heap_alloc_new _ _
  replace hu1 : Rd .u8 W (.slice a1 n1 c1) [0, 0, 0, 1, 0, 0, 0, 5] := by rw [← hW]; exact hu1.ext (Ext.new _ _)
  clear hW hx01
  generalize w1.heap.size = B1 at *
  have e0 := cell_blk k1 0
  have e1 := cell_blk k1 1
  simp at e0 e1
  have hmss := Lib.hid (fun (W' : World) => withmss_any 9 W' (by decide))
  have hper := Lib.hid (fun (W' : World) => permit_any W')
  refine LooseT.wp_region_tailT 12 [(9, Mkd 5 W.heap.size)] [(0, OptV 2 [0, 9]), (1, Loose.is (.agg #[.int .u8 4, .slice none 0 0])), (2, fun v w' => Rd .u8 w' v (zeros 8)), (3, OptV 8 (zeros 8)), (4, fun v w' => Rd .u8 w' v [1]), (5, OptV 9 [1]), (7, fun v w' => RdO w' v knO), (8, LitR W.heap.size [97, 98, 99, 100, 101, 102]), (9, LitR W.heap.size [97, 98, 99, 100, 101, 102]), (11, NewS W.heap.size)]
    tk_hX (lastsK_cons (fun v w w' h hs => OptV.lasts v w w' h hs) OptV.mkd (lastsK_cons (fun _ _ _ _ h => h) (fun _ _ _ _ h => h) (lastsK_cons (fun v w w' h hs => Rd.ext hs h) (fun v w w' h hs => Rd.mkd hs h) (lastsK_cons (fun v w w' h hs => OptV.lasts v w w' h hs) OptV.mkd (lastsK_cons (fun v w w' h hs => Rd.ext hs h) (fun v w w' h hs => Rd.mkd hs h) (lastsK_cons (fun v w w' h hs => OptV.lasts v w w' h hs) OptV.mkd
      (lastsK_cons (fun v w w' h hs => RdO.ext hs h) (fun v w w' h hs => rdo_mkd hs h) (lastsK_cons LitR.ext LitR.mkd (lastsK_cons LitR.ext LitR.mkd (lastsK_cons (fun v w w' h hs => let ⟨g, h1, h2, h3⟩ := hs; ⟨g, h1, h2, Ext.block h h3⟩) NewS.mkd LooseT.lastsT_nil)))))))))) (by kernel_rfl) (by kernel_rfl) (by kernel_rfl) ?_
  simp only [List.take, List.drop]
  apply LooseT.wpL_some rfl rfl
  · intro w' hw' hn'
    go_simp
    refine ⟨Ext.rfl' _, ?_⟩
    refine (hmss.out w').mono ?_
    rintro e w2 ⟨u, rfl, hu, hx⟩
    have hr := hu.rd
    obtain ⟨a, n, c, rfl⟩ := hr.shape
    exact ⟨_, rfl, hx, a, n, c, rfl, hr⟩
  intro v0 w' hw' hD' hv
  obtain ⟨a2, n2, c2, rfl, -⟩ := hv
  clear hw' hD' w'
  intro K hK; go_simp; refine hK _ _ ?_; clear hK K
  apply LooseT.wpL_some rfl rfl
  · intro w' hw' hn'
    go_simp
    refine ⟨Ext.rfl' _, ?_⟩
    refine (hper.out w').mono ?_
    rintro e w2 ⟨rfl, hx⟩
    exact ⟨_, rfl, hx, rfl⟩
  intro v w' hw' hD' hv
  obtain rfl : v = _ := hv
  clear hw' hD' w'
  intro K hK; go_simp; refine hK _ _ ?_; clear hK K
  apply LooseT.wpL_some rfl rfl
  · intro w' hw' hn'
    obtain ⟨w1, hr, ho, hx⟩ := run_mk (P := Try.prog) isU8 w' w'.heap.size .i64 .i64 8 (by omega) (by unfold maxLen; omega) (Nat.le_refl _)
    have hr : Sem.run Try.prog (Instr.makeSlice 27 (.int .i64 8) (.int .i64 8)) w' = .ok (.slice (some ⟨w'.heap.size, 0, none⟩) 8 8) w1 := hr
    have ho := ho.rd
    go_simp
    first | done | exact ⟨hx, ho⟩ | exact ho
  intro v3 w' hw' hD' hv
  obtain ⟨a3, n3, c3, rfl⟩ := Rd.shape hv
  clear hv hw' hD' w'
  intro K hK; go_simp; refine hK _ _ ?_; clear hK K
  apply LooseT.wpL_some rfl rfl
  · intro w' hw' hn'
    have hr : Rd .u8 w' (.slice a3 n3 c3) (zeros 8) := hn' ⟨2, .data⟩ (by simp) rfl
    go_simp
    exact ⟨Ext.rfl' _, a3, n3, c3, rfl, hr⟩
  intro v w' hw' hD' hv
  obtain ⟨a4, n4, c4, rfl, -⟩ := hv
  clear hw' hD' w'
  intro K hK; go_simp; refine hK _ _ ?_; clear hK K
  apply LooseT.wpL_some rfl rfl
  · intro w' hw' hn'
    have hr : Rd .u8 (w'.alloc (.cells #[.int .u8 1] 5)) (.slice (some ⟨w'.heap.size, 0, none⟩) 1 1) [1] := rd_new .u8 _ _ _ [1] rfl rfl rfl rfl (by decide)
    go_simp
    first | done | exact Ext.new _ _ | exact ⟨Ext.new _ _, hr⟩ | exact hr
  intro v3 w' hw' hD' hv
  obtain ⟨a5, n5, c5, rfl⟩ := Rd.shape hv
  clear hv hw' hD' w'
  intro K hK; go_simp; refine hK _ _ ?_; clear hK K
  apply LooseT.wpL_some rfl rfl
  · intro w' hw' hn'
    have hr : Rd .u8 w' (.slice a5 n5 c5) [1] := hn' ⟨4, .data⟩ (by simp) rfl
    go_simp
    exact ⟨Ext.rfl' _, a5, n5, c5, rfl, hr⟩
  intro v w' hw' hD' hv
  obtain ⟨a6, n6, c6, rfl, -⟩ := hv
  clear hw' hD' w'
  intro K hK; go_simp; refine hK _ _ ?_; clear hK K
  apply LooseT.wpL_none rfl rfl
  · intro w' hw' hn'; have e0 := Ext.cell hw'.1 e0; have e1 := Ext.cell hw'.1 e1; go_simp; exact rfl
  intro K hK; go_simp; refine hK _ _ ?_; clear hK K
  apply LooseT.wpL_some rfl rfl
  · intro w' hw' hn'
    obtain ⟨_, _, _, he, q0⟩ : OptV 2 [0, 9] (.agg #[.int .u8 2, .slice a2 n2 c2]) w' := hn' ⟨0, .data⟩ (by simp) rfl
    cases he
    obtain ⟨_, _, _, he, q3⟩ : OptV 8 (zeros 8) (.agg #[.int .u8 8, .slice a4 n4 c4]) w' := hn' ⟨3, .data⟩ (by simp) rfl
    cases he
    obtain ⟨_, _, _, he, q5⟩ : OptV 9 [1] (.agg #[.int .u8 9, .slice a6 n6 c6]) w' := hn' ⟨5, .data⟩ (by simp) rfl
    cases he
    have q6 := hu1.ext hw'.1
    have hro : RdO (w'.alloc (.cells #[.int .u8 2, .slice a2 n2 c2, .int .u8 4, .slice none 0 0, .int .u8 8, .slice a4 n4 c4, .int .u8 9, .slice a6 n6 c6, .int .u8 5, .slice a1 n1 c1] 46)) (.slice (some ⟨w'.heap.size, 0, none⟩) 5 5) knO := by
      have hx := Ext.new w' (.cells #[.int .u8 2, .slice a2 n2 c2, .int .u8 4, .slice none 0 0, .int .u8 8, .slice a4 n4 c4, .int .u8 9, .slice a6 n6 c6, .int .u8 5, .slice a1 n1 c1] 46)
      refine (src_blk (base := (w'.alloc (.cells #[.int .u8 2, .slice a2 n2 c2, .int .u8 4, .slice none 0 0, .int .u8 8, .slice a4 n4 c4, .int .u8 9, .slice a6 n6 c6, .int .u8 5, .slice a1 n1 c1] 46)).heap.size) (ys := [((2, [0, 9]), .slice a2 n2 c2), ((4, []), .slice none 0 0), ((8, zeros 8), .slice a4 n4 c4), ((9, [1]), .slice a6 n6 c6), ((5, [0, 0, 0, 1, 0, 0, 0, 5]), .slice a1 n1 c1)]) (heap_alloc_new w' _) ?_ (by simp [maxLen])).rdo
      intro y hy
      refine .inr ⟨_, Nat.le_refl _, Ext.rfl' _, ?_⟩
      simp only [List.mem_cons, List.not_mem_nil, or_false] at hy
      rcases hy with rfl | rfl | rfl | rfl | rfl
      · exact q0.ext hx
      · exact Rd.nil _ _
      · exact q3.ext hx
      · exact q5.ext hx
      · exact q6.ext hx
    go_simp
    first | done | exact Ext.new _ _ | exact ⟨Ext.new _ _, hro⟩ | exact hro
  intro v7 w' hw' hD' hv
  obtain ⟨a7, c7, rfl⟩ := RdO.shape hv
  clear hv hw' hD' w'
  intro K hK; go_simp; refine hK _ _ ?_; clear hK K
  apply LooseT.wpL_some rfl rfl
  · intro w' hw' hn'
    have hr : Rd .u8 (w'.alloc (.cells #[.int .u8 97, .int .u8 98, .int .u8 99, .int .u8 100, .int .u8 101, .int .u8 102] 5)) (.slice (some ⟨w'.heap.size, 0, none⟩) 6 6) [97, 98, 99, 100, 101, 102] := rd_new .u8 _ _ _ [97, 98, 99, 100, 101, 102] rfl rfl rfl rfl (by decide)
    go_simp
    exact ⟨Ext.new _ _, w'.heap.size, _, _, rfl, hw'.2, heap_alloc_new w' _, hr⟩
  intro v8 w' hw' hD' hv
  obtain ⟨b8, _, _, rfl, -, -, -⟩ := hv
  clear hw' hD' w'
  intro K hK; go_simp; refine hK _ _ ?_; clear hK K
  apply LooseT.wpL_some rfl rfl
  · intro w' hw' hn'
    obtain ⟨b, C, f, he, hb1, hb2, hb3⟩ : LitR W.heap.size [97, 98, 99, 100, 101, 102] (.slice (some ⟨b8, 0, none⟩) 6 6) w' := hn' ⟨8, .data⟩ (by simp) rfl
    cases he
    have hcv := run_convert_lit (P := Try.prog) w' 27 5 b8 C f 6 6 hb2 Try.underlying27 Try.underlying5
    have hmk := freeze_mkd hb2 hb1 C.size
    go_simp
    exact ⟨hmk, LitR.mkd _ _ _ hmk ⟨b8, C, f, rfl, hb1, hb2, hb3⟩⟩
  intro v9 w' hw' hD' hv
  obtain ⟨b9, _, _, rfl, -, -, -⟩ := hv
  clear hw' hD' w'
  intro K hK; go_simp; refine hK _ _ ?_; clear hK K
  apply LooseT.wpL_none rfl rfl
  · intro w' hw' hn'; go_simp; exact rfl
  intro K hK; go_simp; refine hK _ _ ?_; clear hK K
  apply LooseT.wpL_some rfl rfl
  · intro w' hw' hn'
    go_simp
    exact ⟨Ext.new _ _, _, rfl, hw'.2, heap_alloc_new _ _⟩
  intro v w' hw' hD' hv
  obtain ⟨g, rfl, hg, hb⟩ := hv
  clear hD' hw' hb w'
  intro K hK; go_simp; refine hK _ _ ?_; clear hK K
  refine LooseT.wpL_nil ?_
  intro w2 hw2 hD2
  have hr7 : RdO w2 _ knO := hD2 7
  obtain ⟨_, _, _, he, -, -, hr9⟩ := hD2 9
  cases he
  obtain ⟨_, he, hgW, hz⟩ := hD2 11
  cases he
  refine wpVL_put_row 29 g _ (knG.cells (.slice a7 knO.length c7) (.slice (some ⟨b9, 0, none⟩) 6 6)) _ rfl rfl hz (by kernel_rfl) rfl (by simp [Value.oneCell']) ?_
  intro W3 k3 hm3
  have hx3 : Ext w W3 := hm3.ext (hxW.tr hw2.1) (fun k hk => by have := hxW.size; omega)
  have hro := rdo_put hz hm3 hr7 (by decide)
  have hrd := rd_put hz hm3 hr9 (.inr (.inl (by decide)))
  refine wpVL_nil ?_
  try simp only [Act.put]
  clear hD2 hr7 hr9 hz hm3 hw2 hmss hper e0 e1 k1 hu1
  have hshape : ∀ (u : Value) (L : List Sg) (W' : World) (b : Nat), FrS W' b u L → ∃ a c, u = .slice a L.length c := fun u L W' b h => let ⟨a, c, h1, _⟩ := h.shape; ⟨a, c, h1⟩
  have HSH := Lib.hid hshape
  clear hshape
  go_wp2_with (refine wpList_load_bigG 29 g _ _ _ rfl k3 rfl Try.underlying29 rfl (seg_sz _ _ _) ?_)
  refine (over_lit2 (x := ⟨0, 10, true, 0, 0, 18⟩) over1 ⟨by decide, by decide, by decide, by decide, by decide⟩ knG_ok hro hrd (by decide) knD (by decide)).mono ?_
  rintro e w4 ⟨u4, rfl, hu4, hx4⟩
  obtain ⟨a4, c4, rfl⟩ := HSH.out _ _ _ _ hu4
  replace k3 := hx4.block k3
  have hro4 := hro.ext hx4
  have hrd4 := hrd.ext hx4
  have hxw4 := hx3.tr hx4
  clear hx4 hro hrd hx3
  go_wp2_with (refine wpList_load_bigG 29 g _ _ _ rfl k3 rfl Try.underlying29 rfl (seg_sz _ _ _) ?_)
  refine (over_lit2 (x := ⟨0, 10, false, 0, 0, 6⟩) over2 ⟨by decide, by decide, by decide, by decide, by decide⟩ knG_ok hro4 hrd4 (by decide) knD (by decide)).mono ?_
  rintro e w5 ⟨u5, rfl, hu5, hx5⟩
  obtain ⟨a5, c5, rfl⟩ := HSH.out _ _ _ _ hu5
  have hxw5 := hxw4.tr hx5
  replace hu4 := hu4.keep (Keep.ofExt hx5)
  clear hx5 hro4 hrd4 hxw4 k3
  go_wp2_with fail
  refine (over_lit2 (x := ⟨0, 0, false, 0, 0, 1460⟩) (g := ⟨0, 0, 0, 0, 2, 0, 0, [], []⟩) (L := []) (E := 24) (by kernel_rfl) ⟨by decide, by decide, by decide, by decide, by decide⟩ ⟨by decide, by decide, by decide, by decide, by decide, by decide, by decide, (fun o h => by cases h), (fun o h => by cases h)⟩ (RdO.nil _) (Rd.nil _ _) (by decide) (fun o h => by cases h) (by decide)).mono ?_
  rintro e w6 ⟨u6, rfl, hu6, hx6⟩
  obtain ⟨a6, c6, rfl⟩ := HSH.out _ _ _ _ hu6
  have hxx6 : Ext w5 w6 := hx6
  have hxw6 := hxw5.tr hxx6
  replace hu4 := hu4.keep (Keep.ofExt hxx6)
  replace hu5 := hu5.keep (Keep.ofExt hxx6)
  clear hx6 hxx6 hxw5
  go_wp2_with fail
  refine (over_lit2 (x := ⟨0, 0, false, 0, 0, 0⟩) (g := ⟨0, 0, 0, 0, 0, 0, 0, [], []⟩) (L := []) (E := 1) (by kernel_rfl) ⟨by decide, by decide, by decide, by decide, by decide⟩ ⟨by decide, by decide, by decide, by decide, by decide, by decide, by decide, (fun o h => by cases h), (fun o h => by cases h)⟩ (RdO.nil _) (Rd.nil _ _) (by decide) (fun o h => by cases h) (by decide)).mono ?_
  rintro e w7 ⟨u7, rfl, hu7, hx7⟩
  obtain ⟨a7, c7, rfl⟩ := HSH.out _ _ _ _ hu7
  have hxx7 : Ext w6 w7 := hx7
  have hxw7 := hxw6.tr hxx7
  replace hu4 := hu4.keep (Keep.ofExt hxx7)
  replace hu5 := hu5.keep (Keep.ofExt hxx7)
  clear hx7 hxx7 hxw6
  go_wp2_with fail
  refine (over_lit2 (x := ⟨0, 0, false, 0, 0, 1⟩) (g := ⟨0, 0, 0, 0, 0, 0, 0, [(1, [])], []⟩) (L := []) (E := 1) (by kernel_rfl) ⟨by decide, by decide, by decide, by decide, by decide⟩ ⟨by decide, by decide, by decide, by decide, by decide, by decide, by decide, (fun o h => by obtain rfl : o = (1, []) := (by simpa using h); exact ⟨by decide, fun o h => by cases h⟩), (fun o h => by cases h)⟩ (rdo_one (heap_alloc_new _ _) (Rd.nil _ _)) (Rd.nil _ _) (by decide) (fun o h => by obtain rfl : o = (1, []) := (by simpa using h); decide) (by decide)).mono ?_
  rintro e w8 ⟨u8, rfl, hu8, hx8⟩
  obtain ⟨a8, c8, rfl⟩ := HSH.out _ _ _ _ hu8
  have hxx8 : Ext w7 w8 := Ext.tr (Ext.new _ _) hx8
  have hxw8 := hxw7.tr hxx8
  replace hu4 := hu4.keep (Keep.ofExt hxx8)
  replace hu5 := hu5.keep (Keep.ofExt hxx8)
  clear hx8 hxx8 hxw7
  go_wp2_with fail
  refine (over_lit2 (x := ⟨0, 5, false, 0, 0, 1⟩) (g := ⟨0, 0, 0, 7, 0, 0, 0, [], []⟩) (L := [⟨0, 0, 0, 0, 0, 0, 0, [], []⟩]) (E := 0) (by kernel_rfl) ⟨by decide, by decide, by decide, by decide, by decide⟩ ⟨by decide, by decide, by decide, by decide, by decide, by decide, by decide, (fun o h => by cases h), (fun o h => by cases h)⟩ (RdO.nil _) (Rd.nil _ _) (by decide) (fun o h => by cases h) (by decide)).mono ?_
  rintro e w9 ⟨u9, rfl, hu9, hx9⟩
  obtain ⟨a9, c9, rfl⟩ := HSH.out _ _ _ _ hu9
  have hxx9 : Ext w8 w9 := hx9
  have hxw9 := hxw8.tr hxx9
  replace hu4 := hu4.keep (Keep.ofExt hxx9)
  replace hu5 := hu5.keep (Keep.ofExt hxx9)
  clear hx9 hxx9 hxw8
  obtain ⟨g4, m4, vo4, vd4, he, -, hc0, ho0, hd0⟩ := hu4.at (i := 0) (by decide)
  obtain ⟨g4', m4', vo4', vd4', he1, -, hc1, -, -⟩ := hu4.at (i := 1) (by decide)
  obtain ⟨g4'', m4'', vo4'', vd4'', he2, -, hc2, -, -⟩ := hu4.at (i := 2) (by decide)
  obtain ⟨g5, m5, vo5, vd5, he3, -, hc3, ho3, -⟩ := hu5.at (i := 0) (by decide)
  obtain ⟨g9, m9, vo9, vd9, he4, -, hc4, -, -⟩ := hu9.at (i := 0) (by decide)
  rw [he] at he1 he2
  cases he
  cases he1
  cases he2
  cases he3
  cases he4
  have p60 := hc0 6 (by decide)
  have p70 := hc0 7 (by decide)
  have p80 := hc0 8 (by decide)
  have p61 := hc1 6 (by decide)
  have p41 := hc1 4 (by decide)
  have p62 := hc2 6 (by decide)
  have p42 := hc2 4 (by decide)
  have q70 := hc3 7 (by decide)
  have r30 := hc4 3 (by decide)
  simp [knL1, knL2, knP] at p60 p70 p80 p61 p41 p62 p42 q70 r30
  have hl1 : knL1.length = 3 := rfl
  have hl2 : knL2.length = 3 := rfl
  clear hc0 hc1 hc2 hc3 hc4 hu4 hu5 hu9
  have ho0 : RdO w9 vo4 [(9, [1]), (5, [0, 0, 0, 11, 0, 0, 0, 15])] := ho0.rdo
  have ho3 : RdO w9 vo5 [(9, [1])] := ho3.rdo
  have hd0 : Rd .u8 w9 vd4 [97, 98] := hd0.rd
  obtain ⟨ao4, co4, rfl⟩ := ho0.shape
  obtain ⟨ao5, co5, rfl⟩ := ho3.shape
  obtain ⟨ad4, cd4, rfl, -, -, -⟩ := id hd0
  go_wp2_with fail
  refine (osacks_any _ _ _ ho0 (fun o ho => ?_)).mono ?_
  · simp only [List.mem_cons, List.not_mem_nil, or_false] at ho
    rcases ho with rfl | rfl
    · exact ⟨by decide, byt_of rfl⟩
    · exact ⟨by decide, byt_of rfl⟩
  rw [show osacks [(9, [1]), (5, [0, 0, 0, 11, 0, 0, 0, 15])] = [(11, 15)] from by decide +kernel]
  rintro e w10 ⟨u10, rfl, hu10, hx10⟩
  obtain ⟨a10, c10, rfl, hs1, hs2, hs3⟩ := hu10.rdb
  rcases hs3 with hs3 | ⟨b10, o10, rfl, hs3⟩
  · cases hs3
  obtain ⟨y0, y1⟩ := hs3 0 (by decide)
  simp at y0 y1
  clear hs3 hu10
  replace p60 := hx10.cell p60
  replace p70 := hx10.cell p70
  replace p80 := hx10.cell p80
  replace p61 := hx10.cell p61
  replace p41 := hx10.cell p41
  replace p62 := hx10.cell p62
  replace p42 := hx10.cell p42
  replace q70 := hx10.cell q70
  replace r30 := hx10.cell r30
  replace ho0 := ho0.ext hx10
  have hxw10 := hxw9.tr hx10
  clear hx10 hxw9 hd0 ho3
  go_wp2_with fail
  refine (wakes25_any _).mono ?_
  rintro e w11 ⟨rfl, hx11⟩
  replace p60 := hx11.cell p60
  replace p70 := hx11.cell p70
  replace p80 := hx11.cell p80
  replace p61 := hx11.cell p61
  replace p41 := hx11.cell p41
  replace p62 := hx11.cell p62
  replace p42 := hx11.cell p42
  replace q70 := hx11.cell q70
  replace r30 := hx11.cell r30
  replace y0 := hx11.cell y0
  replace y1 := hx11.cell y1
  replace ho0 := ho0.ext hx11
  have hxw11 := hxw10.tr hx11
  clear hx11 hxw10
  obtain ⟨_, _, he, hk1, hk2, hk3⟩ := id ho0
  cases he
  rcases hk3 with hk3 | ⟨bo, oo, rfl, hk3⟩
  · cases hk3
  obtain ⟨_, z0, -, -⟩ := hk3 0 (by decide)
  simp at z0
  clear hk3 ho0
  go_wp2_with fail
  refine (smay_any ⟨0, 0, false, 0, 0, 1461⟩ _).mono ?_
  rw [show (Shf.mk 0 0 false 0 0 1461).may = false from rfl]
  rintro e w12 ⟨rfl, hx12⟩
  go_wp2_with fail
  refine (smay_any ⟨0, 0, false, 15, 0, 1⟩ _).mono ?_
  rw [show (Shf.mk 0 0 false 15 0 1).may = false from rfl]
  rintro e w13 ⟨rfl, hx13⟩
  go_wp2_with fail
  go_ret
  exact ⟨rfl, hxw11.tr (hx12.tr hx13)⟩
end Go.Proofs.Ytmcaknmdalbpoaa.shiftKnown
