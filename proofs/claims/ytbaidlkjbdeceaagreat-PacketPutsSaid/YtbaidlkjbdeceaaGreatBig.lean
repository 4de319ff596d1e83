/-
  Proved here, over any program: a struct of many cells is loaded from, or stored into, a block at one stroke.
-/
import Derived.Test.YtbaidlkjbdeceaaGreatCore
import Derived.Deep.WholeRow
import Derived.Deep.MidRow
namespace Go.Cul
open Go
set_option linter.unusedVariables false
variable {P : Program}

theorem wpList_load_big (ty : TypeId) {dst : Option Tmp} {x : Operand} {tt : TypeId} {pos : String} {after : Array Edge} {ops : Array Oper} {rest : List Oper} {a : Act} {w : World} {Q : Exit → Act → World → Prop}
    (b : Nat) (C : Array Value) (t : TypeId) (d : TypeDesc) (hx : a.eval x = .pointer (some ⟨b, 0, none⟩)) (hk : w.heap[b]? = some (.cells C t))
    (hu : P.underlying ty = some d) (hd : (match d with | .struct _ | .array _ _ => true | _ => false) = true) (hi : (P.info? ty).map (·.size) = some C.size)
    (h : wpList P ops Q rest (a.put dst (.agg C)) w) : wpList P ops Q ({ dst := dst, op := .load ty x, type := tt, pos := pos, after := after, guard := none } :: rest) a w :=
  wpList_plain rfl fun _ hK => by
    unfold Oper.wp execOp
    simp only [hx, Instr.loadAt, Instr.sureAddr, Sem.run_bind, Sem.run_pure, Result.andThen_ok, run_loadVar_row w b t ty C (0, 0) d hk hu hd hi]
    exact hK _ _ h

theorem wpList_load_bigG (ty : TypeId) {dst : Option Tmp} {x : Operand} {tt : TypeId} {pos : String} {after : Array Edge} {gd : Option (Nat × Bool)} {ops : Array Oper} {rest : List Oper} {a : Act} {w : World} {Q : Exit → Act → World → Prop}
    (b : Nat) (C : Array Value) (t : TypeId) (d : TypeDesc) (hx : a.eval x = .pointer (some ⟨b, 0, none⟩)) (hk : w.heap[b]? = some (.cells C t))
    (hw : Region.wanted { dst := dst, op := .load ty x, type := tt, pos := pos, after := after, guard := gd } (yielded ops a.tmps) = true)
    (hu : P.underlying ty = some d) (hd : (match d with | .struct _ | .array _ _ => true | _ => false) = true) (hi : (P.info? ty).map (·.size) = some C.size)
    (h : wpList P ops Q rest (a.put dst (.agg C)) w) : wpList P ops Q ({ dst := dst, op := .load ty x, type := tt, pos := pos, after := after, guard := gd } :: rest) a w :=
  wpList_step fun K hK => by
    rw [if_pos hw]
    unfold Oper.wp execOp
    simp only [hx, Instr.loadAt, Instr.sureAddr, Sem.run_bind, Sem.run_pure, Result.andThen_ok, run_loadVar_row w b t ty C (0, 0) d hk hu hd hi]
    exact hK _ _ h

theorem wpList_store_big (ty : TypeId) {dst : Option Tmp} {x y : Operand} {tt : TypeId} {pos : String} {after : Array Edge} {ops : Array Oper} {rest : List Oper} {a : Act} {w : World} {c : Array Value} {Q : Exit → Act → World → Prop}
    (C : Array Value) (hx : a.eval x = .pointer (some ⟨w.heap.size, 0, none⟩)) (hy : a.eval y = .agg C)
    (hi : (P.info? ty).map (·.size) = some C.size) (hs : c.size = C.size) (h1 : C.all (·.oneCell') = true)
    (h : wpList P ops Q rest (a.put dst undef) (w.alloc (.cells C ty))) : wpList P ops Q ({ dst := dst, op := .store ty x y, type := tt, pos := pos, after := after, guard := none } :: rest) a (w.alloc (.cells c ty)) :=
  wpList_plain rfl fun _ hK => by
    unfold Oper.wp execOp
    simp only [hx, hy, Instr.storeAt, Instr.sureAddr, Sem.run_bind, Sem.run_pure, Result.andThen_ok, run_storeVar_new w ty c C hi hs h1]
    exact hK _ _ h

theorem wpList_build_big (ty : TypeId) {dst : Option Tmp} {parts : Array (Nat × Operand)} {tt : TypeId} {pos : String} {after : Array Edge} {ops : Array Oper} {rest : List Oper} {a : Act} {w : World} {Q : Exit → Act → World → Prop}
    (C : Array Value) (vs : Array (Nat × Value)) (hv : (parts.map fun (i, x) => (i, a.eval x)) = vs) (hb : P.built ty vs.toList = some C)
    (h : wpList P ops Q rest (a.put dst (.agg C)) w) : wpList P ops Q ({ dst := dst, op := .build ty parts, type := tt, pos := pos, after := after, guard := none } :: rest) a w :=
  wpList_plain rfl fun _ hK => by
    unfold Oper.wp execOp
    simp only [hv, run_build w ty vs C hb, Sem.run_bind, Sem.run_pure, Result.andThen_ok]
    exact hK _ _ h

/-- A whole block, loaded. -/
theorem load_blk {w : World} {b : Nat} {C : Array Value} {t : TypeId} (hk : w.heap[b]? = some (.cells C t)) (ty : TypeId) (d : TypeDesc)
    (hu : P.underlying ty = some d) (hd : (match d with | .struct _ | .array _ _ => true | _ => false) = true) (hi : (P.info? ty).map (·.size) = some C.size) :
    Sem.run P (loadVar ty ⟨b, 0, none⟩) w = .ok (.agg C) w := run_loadVar_row w b t ty C (0, 0) d hk hu hd hi

/-- A result that lies in a variable of its own. -/
theorem results_cell {fn : Func} {t : Tmp} {ty : TypeId} {a : Addr} {v : Value} {w : World} (h : fn.results = #[.cell t ty]) (tmps : Array Value) (hp : tmps.getD t undef = .pointer (some a)) (hl : Sem.run P (loadVar ty a) w = .ok v w) :
    (results fn tmps).run P w = .ok v w := by
  have hp' : tmps[t]?.getD undef = .pointer (some a) := by simpa using hp
  simp [results, h, hp', hl, asAddr]
end Go.Cul
