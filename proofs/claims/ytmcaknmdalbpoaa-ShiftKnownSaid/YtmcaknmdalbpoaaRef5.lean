/-
  Proved here: what culvertref05's Same, Parse and Put compute. Conditions: kinds and data are bytes; Put: at most 1000000000 options.
-/
import Derived.Test.YtmcaknmdalbpoaaOptsR
import Derived.Test.YtmcaknmdalbpoaaOptM
import Derived.Test.YtmcaknmdalbpoaaOptsS
import Derived.Test.YtmcaknmdalbpoaaRef3
import Derived.BigRegion
namespace Go.Proofs.Ytmcaknmdalbpoaa
set_option maxRecDepth 16000
open Go.ChangeShapes Go.WideShapes Go.ChangeAt Go.RowKit Go.Cul Go.Loose
set_option linter.unusedVariables false
attribute [local go_sem] Loose.Still Loose.Upon Loose.vUpon

theorem str_eq {l l' : List Int} (hb : Byt l) (hb' : Byt l') : ((strOfNums l).toList == (strOfNums l').toList) = decide (l = l') := by
  rw [ByteArray.toList_eq, ByteArray.toList_eq, Bool.eq_iff_iff, decide_eq_true_iff, beq_iff_eq]
  refine ⟨fun h => ?_, fun h => by rw [h]⟩
  rw [← nums_back l hb, ← nums_back l' hb', h]

/-- A value made of a kind and own data. -/
def AggO (base : Nat) (k : Int) (D : List Int) (v : Value) (w : World) : Prop := ∃ u, v = .agg #[.int .u8 k, u] ∧ Fr w base 5 .u8 u D
/-- One option in new memory. -/
def NewO (base : Nat) (k : Int) (D : List Int) (v : Value) (w : World) : Prop := ∃ g u, v = .slice (some ⟨g, 0, none⟩) 1 1 ∧ w.heap[g]? = some (.cells #[.int .u8 k, u] 46) ∧ Fr w base 5 .u8 u D
theorem AggO.ext {base : Nat} {k : Int} {D : List Int} {v : Value} {w w' : World} (h : AggO base k D v w) (hx : Ext w w') : AggO base k D v w' := by
  obtain ⟨u, h1, h2⟩ := h; exact ⟨u, h1, h2.kept hx⟩
theorem NewO.ext {base : Nat} {k : Int} {D : List Int} {v : Value} {w w' : World} (h : NewO base k D v w) (hx : Ext w w') : NewO base k D v w' := by
  obtain ⟨g, u, h1, h2, h3⟩ := h; exact ⟨g, u, h1, hx.block h2, h3.kept hx⟩

theorem vupon_appO {w : World} {o : Oper} {a : Act} {K : Act → World → Prop} (s x : Operand)
    (ho : o.op = .call { callee := .builtin .append, args := #[s, x], argTypes := #[26, 26] }) (base : Nat) (v : Value) (os : List Op1) (hs : a.eval s = v) (h : FrO w base v os) (bs : Nat) (hx : a.eval x = .slice (some ⟨bs, 0, none⟩) 1 1)
    (k : Int) (u : Value) (l : List Int) (hu : Fr w base 5 .u8 u l) (hbs : w.heap[bs]? = some (.cells #[.int .u8 k, u] 46)) (hn : os.length ≤ 100000) (hbase : base ≤ w.heap.size)
    (hc : ∀ v' w', FrO w' base v' (os ++ [(k, l)]) → w.grownBy w' v.ownBlock → (∀ j, v.ownBlock = some j → base ≤ j) → K (a.put o.dst v') w') : Loose.vUpon Try.prog o a K ((execOp a.eval o).run Try.prog w) := by
  obtain ⟨v', w', hrun, h2, h3, -, h5⟩ := run_appO w base o.type v os h bs k u l hu hbs hn hbase
  unfold execOp
  simp only [ho, resolve, invoke, builtin, Sem.run_bind, Sem.run_pure, Result.andThen_ok, List.map_toArray, List.map_cons, List.map_nil, hs, hx, hrun, Loose.vUpon]
  exact hc v' w' h2 h3 h5

theorem all_no {l : List Int} {i j : Nat} (hij : i ≤ j) (hj : j < l.length) (h : (l.getD j 0 == 0) = false) : (l.drop i).all (· == 0) = false := by
  rw [List.all_eq_false]
  refine ⟨l[j], ?_, by simpa [List.getD, hj] using h⟩
  rw [List.mem_iff_getElem]
  exact ⟨j - i, by rw [List.length_drop]; omega, by rw [List.getElem_drop]; congr 1; omega⟩
theorem all_yes {l : List Int} {i : Nat} (h : ∀ x, i ≤ x → x < l.length → l.getD x 0 = 0) : (l.drop i).all (· == 0) = true := by
  rw [List.all_eq_true]
  intro x hx
  obtain ⟨k, hk, rfl⟩ := List.mem_iff_getElem.1 hx
  rw [List.length_drop] at hk
  have := h (i + k) (by omega) (by omega)
  rw [List.getElem_drop]
  simpa [List.getD, show i + k < l.length by omega] using this

end Go.Proofs.Ytmcaknmdalbpoaa
