/-
  Proved here: what a splice that is none tells: FromClient, FromServer, Updates, Copy.
-/
import Derived.Test.YtgbbpibcmpeneaaSpj
namespace Go.Proofs.Ytgbbpibcmpeneaa
set_option maxRecDepth 200000
open Go.ChangeShapes Go.WideShapes Go.ChangeAt Go.RowKit Go.Cul Go.Loose
set_option linter.unusedVariables false

set_option maxHeartbeats 2000000 in
set_option maxRecDepth 100000 in
theorem from_none (p : Option Addr) (k : Bool) (g : Sg) (w : World) (hn : ∀ W, Ext w W → Calls Try.prog 21 #[.pointer p] W fun e w' => e = .returned (.bool true) ∧ w' = W) :
    Calls Try.prog 22 #[.pointer p, .int .i64 (kI k), .agg (g.cells nos nos)] w fun e w' => e = .returned (.tuple #[nos, nos, .int .i64 2]) ∧ Ext w w' := by
  have HN := Lib.hid hn
  clear hn
  cases k
  all_goals
    dsimp only [kI] at *
    simp only [↓reduceIte, Bool.false_eq_true] at *
    go_enter Try.func22, Try.ntmps22
    go_wp2_with fail
    refine (HN.out _ (Ext.new _ _)).mono ?_
    rintro e w1 ⟨rfl, rfl⟩
    go_wp2_with fail
    refine bodyPost_ret (v := .tuple #[nos, nos, .int .i64 2]) (by simp [results, Try.results22, go_sem]) rfl ?_
    exact ⟨rfl, Ext.new _ _⟩
set_option maxHeartbeats 2000000 in
theorem fromc_nil (g : Sg) (w : World) : Calls Try.prog 11 #[.pointer none, .agg (g.cells nos nos)] w fun e w' => e = .returned (.tuple #[nos, nos, .int .i64 2]) ∧ Ext w w' := by
  have hF := Lib.hid (fun (W : World) => from_none none false g W (fun W _ => snone_nil W))
  go_enter Try.func11, Try.ntmps11
  go_upto_region 1 with (fail)
  generalize hW : w.alloc _ = W
  have hxW : Ext w W := by rw [← hW]; exact Ext.new _ _
  have kN : W.heap[w.heap.size]? = some (.cells (g.cells nos nos) 51) := by rw [← hW]; exact heap_alloc_new w _
  clear hW
  go_wp2_with (refine wpList_load_bigG 51 w.heap.size _ _ _ rfl kN rfl Try.underlying51 rfl (by kernel_rfl) ?_)
  refine (hF.out W).mono ?_
  rintro e w1 ⟨rfl, hx1⟩
  go_wp2_with fail
  refine bodyPost_ret (v := .tuple #[nos, nos, .int .i64 2]) (by simp [results, Try.results11, go_sem]) rfl ?_
  exact ⟨rfl, hxW.tr hx1⟩
set_option maxHeartbeats 2000000 in
theorem froms_zero (b : Nat) (g : Sg) (w : World) (h : w.cell? ⟨b, 27, none⟩ = some (.bool false)) : Calls Try.prog 12 #[spp b, .agg (g.cells nos nos)] w fun e w' => e = .returned (.tuple #[nos, nos, .int .i64 2]) ∧ Ext w w' := by
  have hF := Lib.hid (fun (W : World) (hw : Ext w W) => from_none (some ⟨b, 0, none⟩) true g W (fun W' hW' => snone_any b W' false ((hw.tr hW').cell h)))
  clear h
  go_enter Try.func12, Try.ntmps12
  go_upto_region 1 with (fail)
  generalize hW : w.alloc _ = W
  have hxW : Ext w W := by rw [← hW]; exact Ext.new _ _
  have kN : W.heap[w.heap.size]? = some (.cells (g.cells nos nos) 51) := by rw [← hW]; exact heap_alloc_new w _
  clear hW
  go_wp2_with (refine wpList_load_bigG 51 w.heap.size _ _ _ rfl kN rfl Try.underlying51 rfl (by kernel_rfl) ?_)
  refine (hF.out W hxW).mono ?_
  rintro e w1 ⟨rfl, hx1⟩
  go_wp2_with fail
  refine bodyPost_ret (v := .tuple #[nos, nos, .int .i64 2]) (by simp [results, Try.results12, go_sem]) rfl ?_
  exact ⟨rfl, hxW.tr hx1⟩

theorem scopy_nil (w : World) : Calls Try.prog 18 #[.pointer none] w fun e w' => e = .returned (.pointer none) ∧ w' = w := by
  go_enter Try.func18, Try.ntmps18
  go_wp2_with fail
  refine (snone_nil w).mono ?_
  rintro e w1 ⟨rfl, rfl⟩
  go_wp2
  go_ret
  exact ⟨rfl, rfl⟩

set_option maxHeartbeats 2000000 in
set_option maxRecDepth 100000 in
theorem both_nil (f : Value) (w : World) : Calls Try.prog 25 #[.pointer none, f] w fun e w' => e = .returned (.tuple #[.agg (Sg.none.cells nos nos), .agg (Sg.none.cells nos nos)]) ∧ Ext w w' := by
  have hone : (Sg.none.cells nos nos).all (·.oneCell') = true := by simp [Value.oneCell']
  have HONE := Lib.hid hone
  clear hone
  go_enter Try.func25, Try.ntmps25
  go_upto_region 1 with (fail)
  generalize hV : (World.alloc w _).alloc _ = V
  have hxV : Ext w V := by rw [← hV]; exact (Ext.new _ _).al _
  have ka : V.heap[w.heap.size]? = some (.cells (Sg.none.cells nos nos) 51) := by rw [← hV]; simp only [heap_alloc_at, World.size_alloc]; simp [Sg.none]
  have kb : V.heap[w.heap.size + 1]? = some (.cells (Sg.none.cells nos nos) 51) := by rw [← hV]; simp only [heap_alloc_at, World.size_alloc]; simp [Sg.none]
  clear hV
  go_wp2_with fail
  refine (snone_nil V).mono ?_
  rintro e w1 ⟨rfl, rfl⟩
  go_wp2_with (first | (refine wpList_build_big 51 (Sg.none.cells nos nos) _ rfl (by kernel_rfl) ?_) | (refine wpList_put_row 51 w.heap.size _ (Sg.none.cells nos nos) _ rfl rfl ka (by kernel_rfl) rfl HONE.out ?_; intro W4 k4 hm4) | (refine wpList_put_row 51 (w.heap.size + 1) _ (Sg.none.cells nos nos) _ rfl rfl (hm4.keep kb (by omega)) (by kernel_rfl) rfl HONE.out ?_; intro W5 k5 hm5))
  have k4 := hm5.keep k4 (by omega)
  refine bodyPost_ret (results_cc Try.results25 _ rfl rfl (load_blk k4 51 _ Try.underlying51 rfl (by kernel_rfl)) (load_blk k5 51 _ Try.underlying51 rfl (by kernel_rfl))) rfl ?_
  exact ⟨rfl, hm5.ext (hm4.ext hxV (fun k hk => by omega)) (fun k hk => by omega)⟩

set_option maxHeartbeats 2000000 in
set_option maxRecDepth 100000 in
theorem upds_nil (w : World) : Calls Try.prog 15 #[.pointer none] w fun e w' => e = .returned (.tuple #[.agg (Sg.none.cells nos nos), .agg (Sg.none.cells nos nos)]) ∧ Ext w w' := by
  have hone : (Sg.none.cells nos nos).all (·.oneCell') = true := by simp [Value.oneCell']
  have HONE := Lib.hid hone
  clear hone
  have hmf : ∀ (fn : Fn) (first cap : Array Value) (w : World), (Instr.makeFunc fn first cap).run Try.prog w = .ok (.func fn first cap) w := fun _ _ _ _ => rfl
  go_enter Try.func15, Try.ntmps15
  go_upto_region 1 with (fail)
  generalize hV : World.alloc (World.alloc (World.alloc w _) _) _ = V
  have hxV : Ext w V := by rw [← hV]; exact ((Ext.new _ _).al _).al _
  have kg : V.heap[w.heap.size]? = some (.cells #[.pointer none] 34) := by rw [← hV]; simp only [heap_alloc_at, World.size_alloc]; repeat (first | rfl | rw [if_pos (by first | trivial | omega)] | rw [if_neg (by omega)])
  have ka : V.heap[w.heap.size + 1]? = some (.cells (Sg.none.cells nos nos) 51) := by rw [← hV]; simp only [heap_alloc_at, World.size_alloc]; repeat (first | rfl | rw [if_pos (by first | trivial | omega)] | rw [if_neg (by omega)])
  have kb : V.heap[w.heap.size + 1 + 1]? = some (.cells (Sg.none.cells nos nos) 51) := by rw [← hV]; simp only [heap_alloc_at, World.size_alloc]; repeat (first | rfl | rw [if_pos (by first | trivial | omega)] | rw [if_neg (by omega)])
  clear hV
  have g0 := cell_blk kg 0
  simp at g0
  go_wp2_with fail
  refine (both_nil _ V).mono ?_
  rintro e w3 ⟨rfl, hx3⟩
  have ka := hx3.block ka
  have kb := hx3.block kb
  have hx3 := hxV.tr hx3
  clear hxV g0 kg hmf
  go_wp2_with (first | (refine wpList_put_row 51 (w.heap.size + 1) _ (Sg.none.cells nos nos) _ rfl rfl ka (by kernel_rfl) rfl HONE.out ?_; intro W4 k4 hm4) | (refine wpList_put_row 51 (w.heap.size + 1 + 1) _ (Sg.none.cells nos nos) _ rfl rfl (hm4.keep kb (by omega)) (by kernel_rfl) rfl HONE.out ?_; intro W5 k5 hm5))
  have k4 := hm5.keep k4 (by omega)
  refine bodyPost_ret (results_cc Try.results15 _ rfl rfl (load_blk k4 51 _ Try.underlying51 rfl (by kernel_rfl)) (load_blk k5 51 _ Try.underlying51 rfl (by kernel_rfl))) rfl ?_
  exact ⟨rfl, hm5.ext (hm4.ext hx3 (fun k hk => by omega)) (fun k hk => by omega)⟩
end Go.Proofs.Ytgbbpibcmpeneaa
