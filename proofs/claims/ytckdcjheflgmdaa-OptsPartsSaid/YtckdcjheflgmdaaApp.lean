/-
  Proved here: append onto any slice of integers that has no room, from any source. Over any program.
-/
import Derived.Test.YtckdcjheflgmdaaOwn2
import Derived.ArgAppend
namespace Go.Cul
open Go Go.RowKit
set_option linter.unusedVariables false

/-- New memory, or an empty slice without room. -/
def Fr (w : World) (base : Nat) (e : TypeId) (k : IntKind) (v : Value) (l : List Int) : Prop := Own w base e k v l ∨ ∃ a, v = .slice a 0 0 ∧ l = []

theorem Fr.rd {w : World} {base : Nat} {e : TypeId} {k : IntKind} {v : Value} {l : List Int} (h : Fr w base e k v l) : Rd k w v l := by
  rcases h with h | ⟨a, rfl, rfl⟩
  · exact h.rd
  · exact ⟨a, 0, rfl, Nat.le_refl _, by decide, .inl rfl⟩
theorem Fr.kept {w w' : World} {base : Nat} {e : TypeId} {k : IntKind} {v : Value} {l : List Int} (h : Fr w base e k v l) (hx : Ext w w') : Fr w' base e k v l := by
  rcases h with h | h
  · exact .inl (h.kept hx)
  · exact .inr h
theorem Fr.low {w : World} {base base' : Nat} {e : TypeId} {k : IntKind} {v : Value} {l : List Int} (h : Fr w base e k v l) (hb : base' ≤ base) : Fr w base' e k v l := by
  rcases h with h | h
  · exact .inl (h.low hb)
  · exact .inr h
theorem Own.fr {w : World} {base : Nat} {e : TypeId} {k : IntKind} {v : Value} {l : List Int} (h : Own w base e k v l) : Fr w base e k v l := .inl h

section
variable {P : Program}

theorem run_app_nothing {k : IntKind} {t e : TypeId} {bytes : Nat} (is : IS P k t e bytes) (w : World) (ty : TypeId) (a : Option Addr) (n cap : Nat) (b : Option Addr) (c : Nat) (hn : n ≤ cap) (ha : a = none → n = 0) :
    (Builtin.append_ #[t, t] ty #[.slice a n cap, .slice b 0 c]).run P w = .ok (.slice a n cap) w := by
  obtain ⟨i, hi, hz, hs, hb⟩ := is.hi
  cases a <;> cases b <;> simp [Builtin.append_, run_underlying is.ht, sizeOf, typeInfo, hi, Builtin.lenOf, Builtin.firstCells, hn, storeCells, loadCells, loadCellsFrom]

theorem cells_of_rd {k : IntKind} {w : World} {b : Nat} {o : Nat} {r : List Int} (hc : ∀ i, i < r.length → w.cell? ⟨b, o + i, none⟩ = some (.int k (r.getD i 0))) : ∀ (j : Nat) (u : Value), (r.map (Value.int k))[j]? = some u → w.cell? ((⟨b, o, none⟩ : Addr).add j) = some u := by
  intro j u hu
  have hj : j < r.length := by
    rcases Nat.lt_or_ge j r.length with h | h
    · exact h
    · simp [List.getElem?_eq_none (show (r.map (Value.int k)).length ≤ j by simpa using h)] at hu
  have hadd : (⟨b, o, none⟩ : Addr).add j = ⟨b, o + j, none⟩ := by unfold Addr.add; split <;> simp_all
  rw [hadd, hc j hj, ← hu]
  simp [List.getD, hj]

/-- append onto new memory or an empty slice without room, from any source. -/
theorem run_app_fr {k : IntKind} {t e : TypeId} {bytes : Nat} (is : IS P k t e bytes) (w : World) (base : Nat) (ty : TypeId) (v : Value) (l : List Int) (hv : Fr w base e k v l) (u : Value) (r : List Int) (hr : Rd k w u r)
    (hlen : (l.length + r.length) * bytes ≤ 140737488355328) (h63 : l.length + r.length ≤ maxLen) (hbase : base ≤ w.heap.size) :
    ∃ v' w', (Builtin.append_ #[t, t] ty #[v, u]).run P w = .ok v' w' ∧ Fr w' base e k v' (l ++ r) ∧ (r ≠ [] → Own w' base e k v' (l ++ r)) ∧ Below base w w' := by
  rcases hv with hv | ⟨a, rfl, rfl⟩
  · obtain ⟨v', w', h1, h2, h3, _⟩ := run_app is w base ty v l hv u r hr hlen h63 hbase
    exact ⟨v', w', h1, .inl h2, fun _ => h2, hv.below h3 (Below.refl _ _) hbase⟩
  · cases a with
    | none =>
      obtain ⟨v', w', h1, h2, h3, _⟩ := run_app is w base ty _ [] (Own.nil w base e k) u r hr hlen h63 hbase
      exact ⟨v', w', h1, .inl h2, fun _ => h2, (Own.nil w base e k).below h3 (Below.refl _ _) hbase⟩
    | some ad =>
      obtain ⟨b, c, rfl, hc1, hc2, hcell⟩ := hr
      rcases hcell with rfl | ⟨bb, o, rfl, hcell⟩
      · exact ⟨_, w, run_app_nothing is w ty (some ad) 0 0 b c (Nat.le_refl _) (by simp), .inr ⟨_, rfl, rfl⟩, fun h => absurd rfl h, Below.refl _ _⟩
      · by_cases h0 : r.length = 0
        · have : r = [] := List.eq_nil_of_length_eq_zero h0
          subst this
          exact ⟨_, w, run_app_nothing is w ty (some ad) 0 0 _ c (Nat.le_refl _) (by simp), .inr ⟨_, rfl, rfl⟩, fun h => absurd rfl h, Below.refl _ _⟩
        · obtain ⟨i, hi, hz, hs, hb⟩ := is.hi
          obtain ⟨v', w', hrun, h2, h3⟩ := run_append_arg_grows (P := P) w t ty e i _ 1 bytes is.ht hi hz hs hb rfl (by decide) ad 0 0 [] rfl (by simp) ⟨bb, o, none⟩ r.length c (r.map (Value.int k)) (by simp) (cells_of_rd hcell) (by omega) h63 hlen
          have hown : Own w' w.heap.size e k v' ([] ++ r) := by
            unfold Own
            simpa using h2
          have hown' := hown.low hbase
          exact ⟨v', w', hrun, .inl hown', fun _ => hown', (Ext.of_grown h3).mono hbase⟩

theorem wp_app_fr {k : IntKind} {t e : TypeId} {bytes : Nat} (is : IS P k t e bytes) {w : World} {o : Oper} {a : Act} {K : Act → World → Prop} {Q : Exit → Act → World → Prop} (s x : Operand)
    (ho : o.op = .call { callee := .builtin .append, args := #[s, x], argTypes := #[t, t] }) (base : Nat) (v : Value) (l : List Int) (hs : a.eval s = v) (hv : Fr w base e k v l) (u : Value) (r : List Int) (hx : a.eval x = u) (hr : Rd k w u r)
    (hlen : (l.length + r.length) * bytes ≤ 140737488355328) (h63 : l.length + r.length ≤ maxLen) (hbase : base ≤ w.heap.size)
    (h : ∀ v' w', Fr w' base e k v' (l ++ r) → (r ≠ [] → Own w' base e k v' (l ++ r)) → Below base w w' → K (a.put o.dst v') w') : o.wp P a w K Q := by
  obtain ⟨v', w', hrun, h2, h3, h4⟩ := run_app_fr is w base o.type v l hv u r hr hlen h63 hbase
  unfold Oper.wp execOp
  simp only [ho, resolve, invoke, builtin, Sem.run_bind, Sem.run_pure, Result.andThen_ok, List.map_toArray, List.map_cons, List.map_nil, hs, hx, hrun]
  exact h v' w' h2 h3 h4

theorem wpList_app_fr {k : IntKind} {t e : TypeId} {bytes : Nat} (is : IS P k t e bytes) {w : World} {ops : Array Oper} {rest : List Oper} {o : Oper} {a : Act} {Q : Exit → Act → World → Prop} (hgd : o.guard = none) (s x : Operand)
    (ho : o.op = .call { callee := .builtin .append, args := #[s, x], argTypes := #[t, t] }) (base : Nat) (v : Value) (l : List Int) (hs : a.eval s = v) (hv : Fr w base e k v l) (u : Value) (r : List Int) (hx : a.eval x = u) (hr : Rd k w u r)
    (hlen : (l.length + r.length) * bytes ≤ 140737488355328) (h63 : l.length + r.length ≤ maxLen) (hbase : base ≤ w.heap.size)
    (h : ∀ v' w', Fr w' base e k v' (l ++ r) → (r ≠ [] → Own w' base e k v' (l ++ r)) → Below base w w' → wpList P ops Q rest (a.put o.dst v') w') : wpList P ops Q (o :: rest) a w :=
  wpList_plain hgd fun _ hK => wp_app_fr is s x ho base v l hs hv u r hx hr hlen h63 hbase fun v' w' h2 h3 h4 => hK _ _ (h v' w' h2 h3 h4)
end
end Go.Cul
