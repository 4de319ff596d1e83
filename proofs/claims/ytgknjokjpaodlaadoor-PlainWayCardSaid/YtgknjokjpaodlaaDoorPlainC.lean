/-
  Proved here: what the law's config and segment hand back, and plain.Open.
-/
import Derived.Test.YtgknjokjpaodlaaDoorPlainS
import Derived.Test.YtgknjokjpaodlaaDoorBig
namespace Go.Proofs.YtgknjokjpaodlaaDoor
open Go.ChangeShapes Go.WideShapes Go.ChangeAt Go.RowKit Go.Cul
set_option linter.unusedVariables false

/-- The chapter's set-up: its cells. -/
def cfgC (idle wait : Int) : Array Value := #[.int .u32 0, .int .u32 0, .int .u32 0, .int .u16 0, .int .u16 0, .int .u64 0, .int .i64 0, .slice none 0 0, .int .i64 0, .int .u16 0, .int .i64 0, .bool false, .int .u64 0, .slice none 0 0, .slice none 0 0, .int .u64 0, .int .i64 0, .int .u64 idle, .int .u64 wait]
theorem cfg_one (a b : Int) : (cfgC a b).all (·.oneCell') = true := by simp [cfgC, Value.oneCell']

theorem config_any (w : World) : Calls Tryd.prog 7 #[] w fun e w' => e = .returned (.agg (cfgC 80 5)) ∧ Ext w w' := by
  go_enter Tryd.func7, Tryd.ntmps7
  go_wp2_with (refine wpList_store_big 34 (cfgC 80 5) rfl rfl (by kernel_rfl) rfl (cfg_one _ _) ?_)
  refine bodyPost_ret (v := .agg (cfgC 80 5)) ?_ rfl ?_
  · exact results_cell rfl _ rfl (load_blk (heap_alloc_new _ _) 34 _ Tryd.underlying34 rfl (by kernel_rfl))
  · exact ⟨rfl, Ext.new _ _⟩

/-- A packet of which only the segment is known: its cells. -/
def pkC (proto q k f win : Int) (v : Value) : Array Value := #[.int .u8 0, .int .u16 0, .bool false, .int .u8 0, .int .u8 proto, .int .u32 0, .int .u32 0, .slice none 0 0,
  .int .u16 0, .int .u16 0, .int .u32 q, .int .u32 k, .int .u8 f, .int .u16 win, .int .u16 0, .slice none 0 0, v, .int .u16 0, .int .u16 0, .slice none 0 0, .int .u8 0, .int .u8 0, .int .u32 0, .slice none 0 0]
theorem pk_one (a b c d e : Int) (x : Option Addr) (n m : Nat) : (pkC a b c d e (.slice x n m)).all (·.oneCell') = true := by simp [pkC, Value.oneCell']

theorem lsegment_any (q k f : Int) (w : World) : Calls Tryd.prog 9 #[.int .u32 q, .int .u32 k, .int .u8 f] w fun e w' => e = .returned (.agg (pkC 6 q k f 0 (.slice none 0 0))) ∧ Ext w w' := by
  go_enter Tryd.func9, Tryd.ntmps9
  go_wp2_with (refine wpList_store_big 46 (pkC 6 q k f 0 (.slice none 0 0)) rfl rfl (by kernel_rfl) rfl (pk_one _ _ _ _ _ _ _ _) ?_)
  refine bodyPost_ret (v := .agg (pkC 6 q k f 0 (.slice none 0 0))) ?_ rfl ?_
  · exact results_cell rfl _ rfl (load_blk (heap_alloc_new _ _) 46 _ Tryd.underlying46 rfl (show _ = some 24 by kernel_rfl))
  · exact ⟨rfl, Ext.new _ _⟩

/-- The protocols' variable holds 1, 6, 17. -/
def Kn (w : World) : Prop := ∃ v, w.cell? ⟨0, 0, none⟩ = some v ∧ Rd .u8 w v [1, 6, 17]
theorem Kn.ext {w w' : World} (h : Kn w) (hx : Ext w w') : Kn w' := let ⟨v, h1, h2⟩ := h; ⟨v, hx.cell h1, h2.ext hx⟩

def known3 (x : Int) : Bool := x == 1 || x == 6 || x == 17

theorem contains_any (v : Value) (x : Int) (w : World) (h : Rd .u8 w v [1, 6, 17]) :
    Calls Tryd.prog 17 #[v, .int .u8 x] w fun e w' => e = .returned (.bool (known3 x)) ∧ w' = w := by
  obtain ⟨a, cap, rfl, h1, h2, h3⟩ := h
  obtain ⟨b, o, rfl, h4⟩ := h3.resolve_left (by simp)
  have c0 : w.cell? ⟨b, o, none⟩ = some (.int .u8 1) := h4 0 (by decide)
  have c1 : w.cell? ⟨b, o + 1, none⟩ = some (.int .u8 6) := h4 1 (by decide)
  have c2 : w.cell? ⟨b, o + 2, none⟩ = some (.int .u8 17) := h4 2 (by decide)
  clear h4 h3
  simp only [List.length_cons, List.length_nil, Nat.zero_add, Nat.reduceAdd] at *
  unfold known3
  go_enter Tryd.func17, Tryd.ntmps17
  by_cases e1 : x = 1
  · subst e1
    go_wp2
    refine wp_loop_rounds 1 ?_
    rw [rounds_succ]
    go_wp2
    go_ret
    exact ⟨rfl, rfl⟩
  have e1' : (x == 1) = false := by simp [e1]
  by_cases e2 : x = 6
  · subst e2
    go_wp2
    refine wp_loop_rounds 2 ?_
    rw [rounds_succ]
    go_wp2
    rw [rounds_succ]
    go_wp2
    go_ret
    exact ⟨rfl, rfl⟩
  have e2' : (x == 6) = false := by simp [e2]
  by_cases e3 : x = 17
  · subst e3
    go_wp2
    refine wp_loop_rounds 3 ?_
    rw [rounds_succ]
    go_wp2
    rw [rounds_succ]
    go_wp2
    rw [rounds_succ]
    go_wp2
    go_ret
    exact ⟨rfl, rfl⟩
  have e3' : (x == 17) = false := by simp [e3]
  rw [e1', e2', e3']
  have n1 : ¬ (x = 1) := e1
  · go_wp2
    refine wp_loop_rounds 4 ?_
    rw [rounds_succ]
    go_wp2
    rw [rounds_succ]
    go_wp2
    rw [rounds_succ]
    go_wp2
    rw [rounds_succ]
    go_wp2
    go_ret
    exact ⟨rfl, rfl⟩

/-- A new flow. -/
def flNew (idle wait proto now : Int) : Fl := ⟨max idle 1, wait, proto, ⟨false, false, false, 0, 0, 0⟩, ⟨false, false, false, 0, 0, 0⟩, now, false, 0⟩

theorem open_none (idle wait proto now : Int) (w : World) (hK : Kn w) (hp : known3 proto = false) :
    Calls Tryd.prog 6 #[.agg (cfgC idle wait), .int .u8 proto, .int .u64 now] w fun e w' => e = .returned (.tuple #[.pointer none, .int .i64 22]) ∧ Ext w w' := by
  obtain ⟨v, c0, hv⟩ := hK
  simp only [cfgC]
  go_enter Tryd.func6, Tryd.ntmps6
  have c0 := fun (o : Obj) => (Ext.new w o).cell c0
  go_wp2_with fail
  refine (contains_any v proto _ (hv.ext (Ext.new _ _))).mono ?_
  rw [hp]
  rintro e w1 ⟨rfl, rfl⟩
  go_wp2
  go_ret2
  exact ⟨rfl, Ext.new _ _⟩

theorem open_any (idle wait proto now : Int) (w : World) (hK : Kn w) (hp : known3 proto = true) (hi : 0 ≤ idle ∧ idle ≤ 18446744073709551615) :
    Calls Tryd.prog 6 #[.agg (cfgC idle wait), .int .u8 proto, .int .u64 now] w fun e w' => ∃ b, e = .returned (.tuple #[fp b, .int .i64 0]) ∧ w.heap.size ≤ b ∧ At w' b (flNew idle wait proto now) ∧ Ext w w' := by
  obtain ⟨v, c0, hv⟩ := hK
  simp only [cfgC]
  go_enter Tryd.func6, Tryd.ntmps6
  have c0 := fun (o : Obj) => (Ext.new w o).cell c0
  go_wp2_with fail
  refine (contains_any v proto _ (hv.ext (Ext.new _ _))).mono ?_
  rw [hp]
  rintro e w1 ⟨rfl, rfl⟩
  go_wp2
  all_goals
    go_ret2
    refine ⟨w.heap.size + 1, rfl, by omega, ?_, (Ext.new _ _).al _⟩
    rw [At, new_blk _ _ (by simp)]
    simp only [flNew, Fl.cells]
    congr
    omega
end Go.Proofs.YtgknjokjpaodlaaDoor
