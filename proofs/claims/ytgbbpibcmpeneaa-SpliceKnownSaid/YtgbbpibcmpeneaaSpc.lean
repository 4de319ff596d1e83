/-
  Proved here: what splice's FromClient and FromServer compute. Conditions: as from's.
-/
import Derived.Test.YtgbbpibcmpeneaaSpg
namespace Go.Proofs.Ytgbbpibcmpeneaa
set_option maxRecDepth 200000
open Go.ChangeShapes Go.WideShapes Go.ChangeAt Go.RowKit Go.Cul Go.Loose
set_option linter.unusedVariables false

theorem gcells_one {w : World} {g : Sg} {vo vd : Value} (hvo : RdO w vo g.os) (hvd : Rd .u8 w vd g.data) : (g.cells vo vd).all (·.oneCell') = true := by
  obtain ⟨a, c, rfl⟩ := hvo.shape
  obtain ⟨a2, n2, c2, rfl⟩ := hvd.shape
  simp [Value.oneCell']

set_option maxHeartbeats 2000000 in
theorem fromc_any (b : Nat) (x : Sp) (g : Sg) (vo vd : Value) (w : World) (hx : x.ok) (hg : g.ok) (h : SpAt w b x) (hvo : RdO w vo g.os) (hvd : Rd .u8 w vd g.data) (hn : g.os.length ≤ 50000) (hdl : ∀ o ∈ g.os, o.2.length ≤ 1000000) (hl : g.data.length ≤ 1000000) :
    Calls Try.prog 11 #[spp b, .agg (g.cells vo vd)] w fun e w' => ∃ u v, e = .returned (.tuple #[u, v, .int .i64 (frM x false g).2.2.2]) ∧ FrS w' w.heap.size u (frM x false g).2.1 ∧ FrS w' w.heap.size v (frM x false g).2.2.1 ∧ SpAt w' b (frM x false g).1 ∧ Mvs (fun j => j = b) w w' := by
  have hF := Lib.hid (fun (W : World) (hW : Ext w W) => from_any b x false g vo vd W hx hg (hW.block h) (hvo.ext hW) (hvd.ext hW) hn hdl hl)
  obtain ⟨ao, co, rfl⟩ := hvo.shape
  obtain ⟨ad, nd, cd, rfl⟩ := hvd.shape
  generalize frM x false g = FM at *
  clear h hvo hvd hx hg hn hdl hl
  go_enter Try.func11, Try.ntmps11
  go_upto_region 1 with (fail)
  generalize hW : w.alloc _ = W
  have hxW : Ext w W := by rw [← hW]; exact Ext.new _ _
  have kN : W.heap[w.heap.size]? = some (.cells (g.cells (.slice ao g.os.length co) (.slice ad nd cd)) 51) := by rw [← hW]; exact heap_alloc_new w _
  clear hW
  go_wp2_with (refine wpList_load_bigG 51 w.heap.size _ _ _ rfl kN rfl Try.underlying51 rfl (by kernel_rfl) ?_)
  refine (hF.out W hxW).mono ?_
  rintro e w1 ⟨u, v, rfl, h1, h2, h3, h4⟩
  have H1 := Lib.hid (h1.lowS (base' := w.heap.size) hxW.size)
  have H2 := Lib.hid (h2.lowS (base' := w.heap.size) hxW.size)
  have H3 := Lib.hid h3
  have H4 := Lib.hid ((Mvs.ofExt hxW).tr h4)
  obtain ⟨a1, c1, rfl, -⟩ := h1.shape
  obtain ⟨a2, c2, rfl, -⟩ := h2.shape
  clear h1 h2 h3 h4 kN hF
  go_wp2_with fail
  refine bodyPost_ret (v := .tuple #[.slice a1 FM.2.1.length c1, .slice a2 FM.2.2.1.length c2, .int .i64 FM.2.2.2]) (by simp [results, Try.results11, go_sem]) rfl ?_
  exact ⟨_, _, rfl, H1.out, H2.out, H3.out, H4.out⟩

set_option maxHeartbeats 2000000 in
theorem froms_any (b : Nat) (x : Sp) (g : Sg) (vo vd : Value) (w : World) (hx : x.ok) (hg : g.ok) (h : SpAt w b x) (hvo : RdO w vo g.os) (hvd : Rd .u8 w vd g.data) (hn : g.os.length ≤ 50000) (hdl : ∀ o ∈ g.os, o.2.length ≤ 1000000) (hl : g.data.length ≤ 1000000) :
    Calls Try.prog 12 #[spp b, .agg (g.cells vo vd)] w fun e w' => ∃ u v, e = .returned (.tuple #[u, v, .int .i64 (frM x true g).2.2.2]) ∧ FrS w' w.heap.size u (frM x true g).2.1 ∧ FrS w' w.heap.size v (frM x true g).2.2.1 ∧ SpAt w' b (frM x true g).1 ∧ Mvs (fun j => j = b) w w' := by
  have hF := Lib.hid (fun (W : World) (hW : Ext w W) => from_any b x true g vo vd W hx hg (hW.block h) (hvo.ext hW) (hvd.ext hW) hn hdl hl)
  obtain ⟨ao, co, rfl⟩ := hvo.shape
  obtain ⟨ad, nd, cd, rfl⟩ := hvd.shape
  generalize frM x true g = FM at *
  clear h hvo hvd hx hg hn hdl hl
  go_enter Try.func12, Try.ntmps12
  go_upto_region 1 with (fail)
  generalize hW : w.alloc _ = W
  have hxW : Ext w W := by rw [← hW]; exact Ext.new _ _
  have kN : W.heap[w.heap.size]? = some (.cells (g.cells (.slice ao g.os.length co) (.slice ad nd cd)) 51) := by rw [← hW]; exact heap_alloc_new w _
  clear hW
  go_wp2_with (refine wpList_load_bigG 51 w.heap.size _ _ _ rfl kN rfl Try.underlying51 rfl (by kernel_rfl) ?_)
  refine (hF.out W hxW).mono ?_
  rintro e w1 ⟨u, v, rfl, h1, h2, h3, h4⟩
  have H1 := Lib.hid (h1.lowS (base' := w.heap.size) hxW.size)
  have H2 := Lib.hid (h2.lowS (base' := w.heap.size) hxW.size)
  have H3 := Lib.hid h3
  have H4 := Lib.hid ((Mvs.ofExt hxW).tr h4)
  obtain ⟨a1, c1, rfl, -⟩ := h1.shape
  obtain ⟨a2, c2, rfl, -⟩ := h2.shape
  clear h1 h2 h3 h4 kN hF
  go_wp2_with fail
  refine bodyPost_ret (v := .tuple #[.slice a1 FM.2.1.length c1, .slice a2 FM.2.2.1.length c2, .int .i64 FM.2.2.2]) (by simp [results, Try.results12, go_sem]) rfl ?_
  exact ⟨_, _, rfl, H1.out, H2.out, H3.out, H4.out⟩
end Go.Proofs.Ytgbbpibcmpeneaa
