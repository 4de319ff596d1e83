/-
  Proved here: what packet.parts makes: a map of three parts; and what is found in it.
-/
import Derived.Test.YtbaidlkjbdeceaaGreatPk
import Derived.Test.YtbaidlkjbdeceaaGreatMv
import Derived.MapKept
import Derived.Laws.EntriesVeiled
namespace Go.Proofs.YtbaidlkjbdeceaaGreat
set_option maxRecDepth 200000
open Go.ChangeShapes Go.WideShapes Go.ChangeAt Go.RowKit Go.Cul Go.Loose
set_option linter.unusedVariables false
attribute [local go_sem] Loose.Still Loose.Upon Loose.vUpon First.pUpon

theorem run_insert_int {P : Program} {t k e : TypeId} {q : IntKind} (ht : P.underlying t = some (.map k e)) (hk : P.underlying k = some (.int q)) {w : World} {r : Nat} {es : Array MapEntry} {clock : Nat} (hb : w.heap[r]? = some (.map es clock)) (x : Int) (v : Value) (hf : Instr.findNow (.int q) (.int q x) es.toList 0 = some none) :
    (Instr.mapUpdate t (.map (some r)) (.int q x) v).run P w = .ok () { w with heap := w.heap.setIfInBounds r (.map (es.push { key := .int q x, val := v, born := clock }) (clock + 1)) } := by
  have h1 := MapKept.run_checkKey (P := P) (w := w) hk (k := .int q x) (by simp [MapKept.IsKey]) false 9999
  have h2 := MapKept.run_findKey (P := P) (w := w) hk hf
  simp [Instr.mapUpdate, Sem.run_bind, run_underlying ht, MapKept.run_getObj_map hb, Result.andThen, h1, h2, MapKept.run_setObj_map _ hb]
theorem run_lookup_int {P : Program} {t k e : TypeId} {q : IntKind} (ht : P.underlying t = some (.map k e)) (hk : P.underlying k = some (.int q)) {w : World} {r : Nat} {es : Array MapEntry} {clock : Nat} (hb : w.heap[r]? = some (.map es clock)) (x : Int) {i : Nat} {v : Value} (hf : Instr.findNow (.int q) (.int q x) es.toList 0 = some (some (i, v))) (c : Bool) :
    (Instr.lookup t (.map (some r)) (.int q x) c).run P w = .ok (if c then .tuple #[v, .bool true] else v) w := by
  have h1 := MapKept.run_checkKey (P := P) (w := w) hk (k := .int q x) (by simp [MapKept.IsKey]) es.isEmpty 9999
  have h2 := MapKept.run_findKey (P := P) (w := w) hk hf
  cases c <;> simp [Instr.lookup, Sem.run_bind, run_underlying ht, MapKept.run_getObj_map hb, Result.andThen, h1, h2]
theorem run_lookup_no {P : Program} {t k e : TypeId} {q : IntKind} (ht : P.underlying t = some (.map k e)) (hk : P.underlying k = some (.int q)) {w : World} {r : Nat} {es : Array MapEntry} {clock : Nat} (hb : w.heap[r]? = some (.map es clock)) (x : Int) (hf : Instr.findNow (.int q) (.int q x) es.toList 0 = some none) {z : Value} (hz : (zeroValue e).run P w = .ok z w) (c : Bool) :
    (Instr.lookup t (.map (some r)) (.int q x) c).run P w = .ok (if c then .tuple #[z, .bool false] else z) w := by
  have h1 := MapKept.run_checkKey (P := P) (w := w) hk (k := .int q x) (by simp [MapKept.IsKey]) es.isEmpty 9999
  have h2 := MapKept.run_findKey (P := P) (w := w) hk hf
  cases c <;> simp [Instr.lookup, Sem.run_bind, run_underlying ht, MapKept.run_getObj_map hb, Result.andThen, h1, h2, hz]

abbrev fnv (f : FuncId) : Value := .func (.func f) #[] #[]
abbrev part6 : Value := .agg #[fnv 32, fnv 34]
abbrev part17 : Value := .agg #[fnv 36, fnv 38]
abbrev part1 : Value := .agg #[fnv 40, fnv 42]
abbrev ents : Array MapEntry := #[⟨.int .u8 6, part6, 0⟩, ⟨.int .u8 17, part17, 1⟩, ⟨.int .u8 1, part1, 2⟩]

/-- An entry into a map of known entries: the world behind it has a name. -/
theorem wpList_insert_int {P : Program} {ops : Array Oper} {rest : List Oper} {Q : Exit → Act → World → Prop} {a : Act} {w : World} {t k e : TypeId} {q : IntKind} {dst : Option Tmp} {m x y : Operand} {tt : TypeId} {pos : String} {after : Array Edge}
    (ht : P.underlying t = some (.map k e)) (hk : P.underlying k = some (.int q)) (r : Nat) (n : Int) (v : Value) (es : Array MapEntry) (clock : Nat) (hm : a.eval m = .map (some r)) (hx : a.eval x = .int q n) (hy : a.eval y = v) (hb : w.heap[r]? = some (.map es clock)) (hf : Instr.findNow (.int q) (.int q n) es.toList 0 = some none)
    (h : ∀ W : World, W.heap[r]? = some (.map (es.push ⟨.int q n, v, clock⟩) (clock + 1)) → Mvs (fun j => j = r) w W → wpList P ops Q rest (a.put dst undef) W) : wpList P ops Q ({ dst := dst, op := .insert t m x y, type := tt, pos := pos, after := after, guard := none } :: rest) a w :=
  wpList_plain rfl fun _ hK => by
    unfold Oper.wp execOp
    simp only [hm, hx, hy, Sem.run_bind, Sem.run_pure, Result.andThen_ok, run_insert_int ht hk hb n v hf]
    refine hK _ _ (h _ (MapKept.heap_set hb).1 ⟨rfl, rfl, rfl, by simp, fun j hj hn => (MapKept.heap_set hb).2 j hn⟩)

theorem parts_any (w : World) : Calls Tryz.prog 14 #[] w fun e w' => ∃ r, e = .returned (.map (some r)) ∧ w.heap.size ≤ r ∧ w'.heap[r]? = some (.map ents 3) ∧ Ext w w' := by
  have hmm := @run_makeMap Tryz.prog
  have ht : Tryz.prog.underlying 52 = some (.map 5 51) := by kernel_rfl
  have hk : Tryz.prog.underlying 5 = some (.int .u8) := by kernel_rfl
  go_enter Tryz.func14, Tryz.ntmps14
  go_upto_region 1 with (fail)
  refine wp_region_lit ?_
  iterate 2
    refine wpList_plain rfl (fun K1 hK1 => ?_)
    go_simp
    refine hK1 _ _ ?_
    clear hK1 K1
  refine wpList_insert_int ht hk w.heap.size 6 part6 #[] 0 rfl rfl rfl (heap_alloc_new w _) rfl ?_
  intro W1 k1 m1
  refine wpList_plain rfl (fun K1 hK1 => ?_)
  go_simp
  refine hK1 _ _ ?_
  clear hK1 K1
  refine wpList_insert_int ht hk w.heap.size 17 part17 _ _ rfl rfl rfl k1 rfl ?_
  intro W2 k2 m2
  refine wpList_plain rfl (fun K1 hK1 => ?_)
  go_simp
  refine hK1 _ _ ?_
  clear hK1 K1
  refine wpList_insert_int ht hk w.heap.size 1 part1 _ _ rfl rfl rfl k2 rfl ?_
  intro W3 k3 m3
  have hx : Ext w W3 := (m1.tr (m2.tr m3)).ext (Ext.new w _) (fun j hj => by omega)
  clear m1 m2 m3 k1 k2
  iterate 2
    refine wpList_plain rfl (fun K1 hK1 => ?_)
    go_simp
    refine hK1 _ _ ?_
    clear hK1 K1
  refine wpList_nil ?_
  go_wp2_with fail
  go_ret
  exact ⟨_, rfl, Nat.le_refl _, k3, hx⟩

/-- The part of a Proto. -/
def hasP (p : Int) : Bool := p == 6 || p == 17 || p == 1
def partOf (p : Int) : Value := if p = 6 then part6 else if p = 17 then part17 else if p = 1 then part1 else .agg #[.nilFunc, .nilFunc]
end Go.Proofs.YtbaidlkjbdeceaaGreat
