/-
  Proved here, over any program: a struct is stored into any block at one stroke, or a value into one cell; the world behind it has a name of its own.
-/
import Derived.Test.YtbaidlkjbdeceaaGreatBig
import Derived.Test.YtbaidlkjbdeceaaGreatRegion
import Derived.Laws.Tables
namespace Go.Cul
open Go Go.Loose
set_option linter.unusedVariables false
variable {P : Program}

theorem setRow_facts {w : World} {b : Nat} {c : Array Value} {t : TypeId} (hk : w.heap[b]? = some (.cells c t)) (C : Array Value) : (w.setRow b C).heap[b]? = some (.cells C t) ∧ Mvs (fun k => k = b) w (w.setRow b C) :=
  ⟨setRow_heap w b c C t (0, 0) hk, ⟨rfl, rfl, rfl, by simp, fun k _ hn => setRow_other w b k C hn⟩⟩

theorem wpList_put_row (ty : TypeId) {dst : Option Tmp} {x y : Operand} {tt : TypeId} {pos : String} {after : Array Edge} {ops : Array Oper} {rest : List Oper} {a : Act} {w : World} {Q : Exit → Act → World → Prop}
    (b : Nat) (c C : Array Value) (t : TypeId) (hx : a.eval x = .pointer (some ⟨b, 0, none⟩)) (hy : a.eval y = .agg C) (hk : w.heap[b]? = some (.cells c t))
    (hi : (P.info? ty).map (·.size) = some C.size) (hs : c.size = C.size) (h1 : C.all (·.oneCell') = true)
    (h : ∀ W : World, W.heap[b]? = some (.cells C t) → Mvs (fun k => k = b) w W → wpList P ops Q rest (a.put dst undef) W) : wpList P ops Q ({ dst := dst, op := .store ty x y, type := tt, pos := pos, after := after, guard := none } :: rest) a w :=
  wpList_plain rfl fun _ hK => by
    unfold Oper.wp execOp
    simp only [hx, hy, Instr.storeAt, Instr.sureAddr, Sem.run_bind, Sem.run_pure, Result.andThen_ok, run_storeVar_row w b t ty c C hk hi hs h1]
    exact hK _ _ (h _ (setRow_facts hk C).1 (setRow_facts hk C).2)

theorem wpVL_put_row (ty : TypeId) {dst : Option Tmp} {x y : Operand} {tt : TypeId} {pos : String} {after : Array Edge} {ops : Array Oper} {rest : List Oper} {a : Act} {w : World} {Q : Exit → Act → World → Prop}
    (b : Nat) (c C : Array Value) (t : TypeId) (hx : a.eval x = .pointer (some ⟨b, 0, none⟩)) (hy : a.eval y = .agg C) (hk : w.heap[b]? = some (.cells c t))
    (hi : (P.info? ty).map (·.size) = some C.size) (hs : c.size = C.size) (h1 : C.all (·.oneCell') = true)
    (h : ∀ W : World, W.heap[b]? = some (.cells C t) → Mvs (fun k => k = b) w W → wpVL P ops Q rest (a.put dst undef) W) : wpVL P ops Q ({ dst := dst, op := .store ty x y, type := tt, pos := pos, after := after, guard := none } :: rest) a w := by
  refine wpVL_step rfl fun _ hK => ?_
  unfold execOp
  simp only [hx, hy, Instr.storeAt, Instr.sureAddr, Sem.run_bind, Sem.run_pure, Result.andThen_ok, run_storeVar_row w b t ty c C hk hi hs h1]
  exact hK _ _ (h _ (setRow_facts hk C).1 (setRow_facts hk C).2)

theorem run_put_cell {w : World} (ty : TypeId) (b i : Nat) (c : Array Value) (t : TypeId) (v : Value) (hk : w.heap[b]? = some (.cells c t))
    (hi : (P.info? ty).map (·.size) = some 1) (hs : i < c.size) (h1 : v.oneCell' = true) (hv : v.cells = #[v]) : (storeVar ty ⟨b, i, none⟩ v).run P w = .ok () (w.setCell ⟨b, i, none⟩ v) := by
  have hc : w.cell? ⟨b, i, none⟩ = some c[i] := by rw [cell_blk hk]; simp [hs]
  have hf : w.frozen? ⟨b, i, none⟩ = false := fz_blk hk i
  have hst : (store ((⟨b, i, none⟩ : Addr).add 0) v).run P w = .ok () (w.setCell ⟨b, i, none⟩ v) := by
    rw [Addr.add_lit, Nat.add_zero, run_store P w _ v _ h1, hc]
    simp [hf]
  cases hq : P.info? ty with
  | none => simp [hq] at hi
  | some inf =>
    have hs1 : inf.size = 1 := by simpa [hq] using hi
    simp [storeVar, sizeOf, typeInfo, hq, hv, hs1, storeCells, hst]
theorem wpVL_put_cell (ty : TypeId) {dst : Option Tmp} {x y : Operand} {tt : TypeId} {pos : String} {after : Array Edge} {ops : Array Oper} {rest : List Oper} {a : Act} {w : World} {Q : Exit → Act → World → Prop}
    (b i : Nat) (c : Array Value) (t : TypeId) (v : Value) (hx : a.eval x = .pointer (some ⟨b, i, none⟩)) (hy : a.eval y = v) (hk : w.heap[b]? = some (.cells c t))
    (hi : (P.info? ty).map (·.size) = some 1) (hs : i < c.size) (h1 : v.oneCell' = true) (hv : v.cells = #[v])
    (h : ∀ W : World, W.heap[b]? = some (.cells (c.setIfInBounds i v) t) → Mvs (fun k => k = b) w W → wpVL P ops Q rest (a.put dst undef) W) : wpVL P ops Q ({ dst := dst, op := .store ty x y, type := tt, pos := pos, after := after, guard := none } :: rest) a w := by
  refine wpVL_step rfl fun _ hK => ?_
  unfold execOp
  simp only [hx, hy, Instr.storeAt, Instr.sureAddr, Sem.run_bind, Sem.run_pure, Result.andThen_ok, run_put_cell ty b i c t v hk hi hs h1 hv]
  exact hK _ _ (h _ (set_blk hk i v) (Mvs.set _ _ _ rfl))

theorem wpList_put_cell (ty : TypeId) {dst : Option Tmp} {x y : Operand} {tt : TypeId} {pos : String} {after : Array Edge} {ops : Array Oper} {rest : List Oper} {a : Act} {w : World} {Q : Exit → Act → World → Prop}
    (b i : Nat) (c : Array Value) (t : TypeId) (v : Value) (hx : a.eval x = .pointer (some ⟨b, i, none⟩)) (hy : a.eval y = v) (hk : w.heap[b]? = some (.cells c t))
    (hi : (P.info? ty).map (·.size) = some 1) (hs : i < c.size) (h1 : v.oneCell' = true) (hv : v.cells = #[v])
    (h : ∀ W : World, W.heap[b]? = some (.cells (c.setIfInBounds i v) t) → Mvs (fun k => k = b) w W → wpList P ops Q rest (a.put dst undef) W) : wpList P ops Q ({ dst := dst, op := .store ty x y, type := tt, pos := pos, after := after, guard := none } :: rest) a w :=
  wpList_plain rfl fun _ hK => by
    have hc : w.cell? ⟨b, i, none⟩ = some c[i] := by rw [cell_blk hk]; simp [hs]
    have hf : w.frozen? ⟨b, i, none⟩ = false := fz_blk hk i
    have hst : (store ((⟨b, i, none⟩ : Addr).add 0) v).run P w = .ok () (w.setCell ⟨b, i, none⟩ v) := by
      rw [Addr.add_lit, Nat.add_zero, run_store P w _ v _ h1, hc]
      simp [hf]
    have hrun : (storeVar ty ⟨b, i, none⟩ v).run P w = .ok () (w.setCell ⟨b, i, none⟩ v) := by
      cases hq : P.info? ty with
      | none => simp [hq] at hi
      | some inf =>
        have hs1 : inf.size = 1 := by simpa [hq] using hi
        simp [storeVar, sizeOf, typeInfo, hq, hv, hs1, storeCells, hst]
    unfold Oper.wp execOp
    simp only [hx, hy, Instr.storeAt, Instr.sureAddr, Sem.run_bind, Sem.run_pure, Result.andThen_ok, hrun]
    exact hK _ _ (h _ (set_blk hk i v) (Mvs.set _ _ _ rfl))
end Go.Cul
