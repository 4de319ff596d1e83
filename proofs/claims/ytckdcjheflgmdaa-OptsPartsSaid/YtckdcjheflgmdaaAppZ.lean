/-
  Proved here: append of so many zeros ('append(b, make([]T, n)...)') onto a slice of integers that the call itself made. Over any program.
-/
import Derived.Test.YtckdcjheflgmdaaApp
import Derived.Lib.AppendZeros
namespace Go.Cul
open Go Go.RowKit
set_option linter.unusedVariables false

section
variable {P : Program}

theorem zeroCells_one (z : Value) (n : Nat) (hz : z.cells = #[z]) : Builtin.zeroCells z.cells n = (List.replicate n z).toArray := by
  rw [hz]
  apply Array.ext'
  simp [Builtin.zeroCells, Nat.mod_one, List.map_const']

theorem run_app_zeros {k : IntKind} {t e tn : TypeId} {kn : IntKind} {bytes : Nat} (is : IS P k t e bytes) (htn : P.underlying tn = some (.int kn)) (w : World) (base : Nat) (ty : TypeId) (v : Value) (l : List Int) (hown : Own w base e k v l) (n : Nat) (hn0 : l = [] → n = 0)
    (hlen : (l.length + n) * bytes ≤ 140737488355328) (h63 : l.length + n ≤ maxLen) (hbase : base ≤ w.heap.size) :
    ∃ v' w', (Builtin.append_ #[t, tn] ty #[v, .int kn n]).run P w = .ok v' w' ∧ Own w' base e k v' (l ++ List.replicate n 0) ∧ w.grownBy w' v.ownBlock := by
  obtain ⟨i, hi, hz, hs, hb⟩ := is.hi
  have h63' : l.length + n ≤ 9223372036854775807 := by simp only [maxLen] at h63; omega
  have hw : IntKind.i64.wrap (n : Int) = n := by rw [IntKind.wrap_i64]; omega
  have hneg : ¬ ((n : Int) < 0) := by omega
  have hnb : n * bytes ≤ 140737488355328 := Nat.le_trans (Nat.mul_le_mul_right _ (by omega)) hlen
  have h48i : ¬ (281474976710656 < (n : Int) * (i.bytes : Int)) := by rw [hb, ← Int.natCast_mul]; omega
  have hzc : (Value.int k 0).cells = #[Value.int k 0] := rfl
  by_cases hn : n = 0
  · subst hn
    refine ⟨v, w, ?_, by simpa using hown, World.grownBy.refl w _⟩
    rcases hown.2 with ⟨rfl, h0⟩ | ⟨g, cap, cur, rfl, hbg, hg, hnc, hcm, hcs, htk⟩
    · simp [Builtin.append_, run_underlying is.ht, run_underlying htn, sizeOf, typeInfo, hi, asInt, asIntOf, Builtin.lenOf]
      simp [IntKind.wrap, IntKind.bits, IntKind.signed]
    · simp [Builtin.append_, run_underlying is.ht, run_underlying htn, sizeOf, typeInfo, hi, asInt, asIntOf, Builtin.lenOf]
      simp [IntKind.wrap, IntKind.bits, IntKind.signed, storeCells, hnc]
  · rcases hown.2 with ⟨rfl, h0⟩ | ⟨g, cap, cur, rfl, hbg, hg, hnc, hcm, hcs, htk⟩
    · exact absurd (hn0 (List.eq_nil_of_length_eq_zero h0)) hn
    have hns : ¬ (n * i.size = 0) := by rw [hs]; omega
    have hzl : ∀ m, Builtin.zeroCells (Value.int k 0).cells m = (List.replicate m (Value.int k 0)).toArray := fun m => zeroCells_one _ m hzc
    have hlen2 : (l.map (Value.int k) ++ List.replicate n (Value.int k 0)).length = (l.length + n) * 1 := by simp
    have hmap : (l ++ List.replicate n (0 : Int)).map (Value.int k) = l.map (Value.int k) ++ List.replicate n (Value.int k 0) := by simp
    have hol : (l ++ List.replicate n (0 : Int)).length = l.length + n := by simp
    by_cases hroom : l.length + n ≤ cap
    · have hst := run_storeCells_at P g (l.length * 1) e (List.replicate n (Value.int k 0)) 0 cur w hg (by simp [hcs]; omega) (by intro u hu; rw [List.eq_of_mem_replicate hu]; rfl)
      simp only [Nat.add_zero] at hst
      refine ⟨.slice (some ⟨g, 0, none⟩) (l.length + n) cap, w.setRow g (cur.toList.take (l.length * 1) ++ List.replicate n (Value.int k 0) ++ cur.toList.drop (l.length * 1 + (List.replicate n (Value.int k 0)).length)).toArray, ?_, ?_, ?_⟩
      · generalize w.setRow g (cur.toList.take (l.length * 1) ++ List.replicate n (Value.int k 0) ++ cur.toList.drop (l.length * 1 + (List.replicate n (Value.int k 0)).length)).toArray = W' at *
        rw [Nat.mul_one] at hst
        simp [Builtin.append_, run_underlying is.ht, run_underlying htn, sizeOf, typeInfo, zeroValue, hi, hz, hs, asInt, asIntOf, hw, hneg, h48i, hroom, hn, Addr.add_lit, hzl, hst]
      · refine ⟨by rw [hmap, hol]; exact hlen2, .inr ⟨g, cap, _, by rw [hol], hbg, setRow_heap w g cur _ e _ hg, by omega, hcm, ?_, ?_⟩⟩
        · simp only [List.size_toArray, List.length_append, List.length_take, List.length_drop, Array.length_toList, List.length_replicate]
          omega
        · rw [htk, hmap, hol, ← hlen2]
          exact List.take_left
      · exact ⟨rfl, rfl, rfl, by simp, fun k _ hk => setRow_other w g k _ (fun e => hk (by simp [Value.ownBlock, e]))⟩
    · have holds : ∀ j u, (l.map (Value.int k))[j]? = some u → w.cell? ((⟨g, 0, none⟩ : Addr).add j) = some u := hown.cells (g := g) rfl
      have hfo := run_firstCells_some (P := P) w.drew i.size l.length ⟨g, 0, none⟩ l.length cap (l.map (Value.int k)) (by simp [hs]) (by simpa using holds)
      have h63'' : ¬ (9223372036854775807 < ((l.length : Int) + (n : Int))) := by omega
      have hfit := growslice_fits (show cap < l.length + n by omega) hlen
      have h48' : ¬ (281474976710656 < Builtin.nextslicecap (l.length + n) cap * i.bytes) := by rw [hb]; omega
      have hge := grownCap_ge w (l.length + n) cap e
      have hcm' : grownCap w (l.length + n) cap e ≤ maxLen := grownCap_le_maxLen w (l.length + n) cap e h63
      refine ⟨.slice (some ⟨w.heap.size, 0, none⟩) (l.length + n) (grownCap w (l.length + n) cap e), w.drew.alloc (.cells ((l.map (Value.int k)).toArray ++ (List.replicate n (Value.int k 0)).toArray ++ Builtin.zeroCells (Value.int k 0).cells (grownCap w (l.length + n) cap e - (l.length + n))) e), ?_, ?_, ⟨rfl, rfl, rfl, by simp, fun k hk _ => heap_alloc_old w.drew _ hk⟩⟩
      · simp [Builtin.append_, run_underlying is.ht, run_underlying htn, sizeOf, typeInfo, zeroValue, hi, hz, hs, asInt, asIntOf, hw, hneg, h48i, hroom, hn, hzl, h63'', h48', Question.forced, newRow, grownCap] at hfo ⊢
        simp [hfo]
      · refine ⟨by rw [hmap, hol]; exact hlen2, .inr ⟨w.heap.size, _, _, by rw [hol], hbase, heap_alloc_new w.drew _, by omega, hcm', ?_, ?_⟩⟩
        · rw [hzl]
          simp only [Array.size_append, List.size_toArray, List.length_map, List.length_replicate]
          omega
        · rw [hmap, hol, ← hlen2]
          simp only [Array.toList_append, List.append_assoc]
          rw [← List.append_assoc]
          exact List.take_left

theorem wpList_app_zeros {k : IntKind} {t e tn : TypeId} {kn : IntKind} {bytes : Nat} (is : IS P k t e bytes) (htn : P.underlying tn = some (.int kn)) {w : World} {ops : Array Oper} {rest : List Oper} {o : Oper} {a : Act} {Q : Exit → Act → World → Prop} (hgd : o.guard = none) (s x : Operand)
    (ho : o.op = .call { callee := .builtin .append, args := #[s, x], argTypes := #[t, tn] }) (base : Nat) (v : Value) (l : List Int) (hs : a.eval s = v) (hown : Own w base e k v l) (n : Nat) (hx : a.eval x = .int kn n) (hn0 : l = [] → n = 0)
    (hlen : (l.length + n) * bytes ≤ 140737488355328) (h63 : l.length + n ≤ maxLen) (hbase : base ≤ w.heap.size)
    (h : ∀ v' w', Own w' base e k v' (l ++ List.replicate n 0) → w.grownBy w' v.ownBlock → wpList P ops Q rest (a.put o.dst v') w') : wpList P ops Q (o :: rest) a w := by
  refine wpList_plain hgd fun K hK => ?_
  obtain ⟨v', w', hrun, h2, h3⟩ := run_app_zeros is htn w base o.type v l hown n hn0 hlen h63 hbase
  unfold Oper.wp execOp
  simp only [ho, resolve, invoke, builtin, Sem.run_bind, Sem.run_pure, Result.andThen_ok, List.map_toArray, List.map_cons, List.map_nil, hs, hx, hrun]
  exact hK _ _ (h v' w' h2 h3)
end
end Go.Cul
