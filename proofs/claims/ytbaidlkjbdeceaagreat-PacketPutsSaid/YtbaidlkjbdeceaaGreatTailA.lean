/-
  Proved here: append inside a region that draws its order (over XTailT): what it leaves alone. Over any program.
-/
import Derived.Test.YtbaidlkjbdeceaaGreatRegion
import Derived.Test.YtbaidlkjbdeceaaGreatCore
import Derived.Deep.Upon
namespace Go.Cul
open Go Go.RowKit Go.Loose
set_option linter.unusedVariables false

/-- Rows of type e may have turned; what is older than block N, and all else, has not. -/
def RowsOnly (N : Nat) (e : TypeId) (w w' : World) : Prop := Below N w w' ∧ ∀ (k : Nat) (o : Obj), w.heap[k]? = some o → (∀ cur, o ≠ Obj.cells cur e (0, 0)) → w'.heap[k]? = some o

theorem run_app_rows {P : Program} {k : IntKind} {t e : TypeId} {bytes : Nat} (is : IS P k t e bytes) (w : World) (base : Nat) (ty : TypeId) (v : Value) (l : List Int) (hv : Fr w base e k v l) (u : Value) (r : List Int) (hr : Rd k w u r)
    (hlen : (l.length + r.length) * bytes ≤ 140737488355328) (h63 : l.length + r.length ≤ maxLen) (hbase : base ≤ w.heap.size) :
    ∃ v' w', (Builtin.append_ #[t, t] ty #[v, u]).run P w = .ok v' w' ∧ Fr w' base e k v' (l ++ r) ∧ RowsOnly base e w w' := by
  rcases hv with hv | ⟨a, rfl, rfl⟩
  · obtain ⟨v', w', h1, h2, h3, _⟩ := run_app is w base ty v l hv u r hr hlen h63 hbase
    refine ⟨v', w', h1, .inl h2, hv.below h3 (Below.refl _ _) hbase, fun j o hj ho => ?_⟩
    refine (h3.block j (lt_of_block hj) ?_).trans hj
    · intro he
      rcases hv.2 with ⟨rfl, _⟩ | ⟨g, cap, cur, rfl, _, hh, _⟩
      · simp [Value.ownBlock] at he
      · simp [Value.ownBlock] at he
        subst he
        rw [hj] at hh
        cases hh
        exact ho cur rfl
  · obtain ⟨v', w', h1, h2, h3, h4⟩ := run_app_fr is w w.heap.size ty (.slice a 0 0) [] (.inr ⟨a, rfl, rfl⟩) u r hr hlen h63 (Nat.le_refl _)
    exact ⟨v', w', h1, h2.low hbase, h4.mono hbase, fun j o hj _ => Ext.block h4 hj⟩

theorem upon_app {P : Program} {k : IntKind} {t e : TypeId} {bytes : Nat} (is : IS P k t e bytes) {o : Oper} {a : Act} {w : World} (s x : Operand)
    (ho : o.op = .call { callee := .builtin .append, args := #[s, x], argTypes := #[t, t] }) (base : Nat) (v : Value) (l : List Int) (hs : a.eval s = v) (hv : Fr w base e k v l) (u : Value) (r : List Int) (hx : a.eval x = u) (hr : Rd k w u r)
    (hlen : (l.length + r.length) * bytes ≤ 140737488355328) (h63 : l.length + r.length ≤ maxLen) (hbase : base ≤ w.heap.size) {T : World → World → Prop} {S : Value → World → Prop}
    (h : ∀ v' w', Fr w' base e k v' (l ++ r) → RowsOnly base e w w' → T w w' ∧ S v' w') : Loose.Upon P T S w ((execOp a.eval o).run P w) := by
  obtain ⟨v', w', hrun, h2, h3⟩ := run_app_rows is w base o.type v l hv u r hr hlen h63 hbase
  unfold execOp
  simp only [ho, resolve, invoke, builtin, Sem.run_bind, Sem.run_pure, Result.andThen_ok, List.map_toArray, List.map_cons, List.map_nil, hs, hx, hrun, Loose.Upon]
  exact h v' w' h2 h3

/-- As RowsOnly, but each row of type e keeps its size and its first m cells. -/
def RowsKeep (N m : Nat) (e : TypeId) (w w' : World) : Prop := RowsOnly N e w w' ∧ ∀ (k : Nat) (cur : Array Value), w.heap[k]? = some (Obj.cells cur e (0, 0)) → ∃ cur', w'.heap[k]? = some (Obj.cells cur' e (0, 0)) ∧ cur'.size = cur.size ∧ ∀ i, i < m → cur'[i]? = cur[i]?

theorem RowsKeep.own {N m : Nat} {e : TypeId} {w w' : World} (h : RowsKeep N m e w w') {base : Nat} {k : IntKind} {v : Value} {l : List Int} (ho : Own w base e k v l) (hm : l.length ≤ m) : Own w' base e k v l := by
  refine ⟨ho.1, ?_⟩
  rcases ho.2 with h0 | ⟨g, cap, cur, rfl, hb, hh, hn, hx, hsz, htk⟩
  · exact .inl h0
  · obtain ⟨cur', h1, h2, h3⟩ := h.2 g cur hh
    refine .inr ⟨g, cap, cur', rfl, hb, h1, hn, hx, h2.trans hsz, ?_⟩
    rw [← htk]
    apply List.ext_getElem?
    intro i
    rw [List.getElem?_take, List.getElem?_take]
    split
    · rw [Array.getElem?_toList, Array.getElem?_toList]; exact h3 i (by omega)
    · rfl
theorem RowsKeep.fr {N m : Nat} {e : TypeId} {w w' : World} (h : RowsKeep N m e w w') {base : Nat} {k : IntKind} {v : Value} {l : List Int} (ho : Fr w base e k v l) (hm : l.length ≤ m) : Fr w' base e k v l := by
  rcases ho with ho | ho
  · exact .inl (h.own ho hm)
  · exact .inr ho
theorem RowsKeep.ofExt {N m : Nat} {e : TypeId} {w w' : World} (h : Ext w w') (hN : N ≤ w.heap.size) : RowsKeep N m e w w' :=
  ⟨⟨h.mono hN, fun k o hk _ => Ext.block h hk⟩, fun k cur hk => ⟨cur, Ext.block h hk, rfl, fun _ _ => rfl⟩⟩

theorem setCells_row (g : Nat) (e : TypeId) : ∀ (vs : List Value) (o : Nat) (w : World) (cur : Array Value), w.heap[g]? = some (Obj.cells cur e (0, 0)) →
    ∃ cur', (w.setCells g o vs).heap[g]? = some (Obj.cells cur' e (0, 0)) ∧ cur'.size = cur.size ∧ ∀ i, i < o → cur'[i]? = cur[i]?
  | [], o, w, cur, h => ⟨cur, h, rfl, fun _ _ => rfl⟩
  | u :: vs, o, w, cur, h => by
    have h1 : (w.setCell ⟨g, o, none⟩ u).heap[g]? = some (Obj.cells (cur.setIfInBounds o u) e (0, 0)) := by simp [World.setCell, Array.getElem?_modify, h]
    obtain ⟨cur', h2, h3, h4⟩ := setCells_row g e vs (o + 1) _ _ h1
    refine ⟨cur', h2, by rw [h3]; simp, fun i hi => ?_⟩
    rw [h4 i (by omega), Array.getElem?_setIfInBounds_ne (by omega)]

theorem run_app_keep {P : Program} {k : IntKind} {t e : TypeId} {bytes : Nat} (is : IS P k t e bytes) (w : World) (base : Nat) (ty : TypeId) (v : Value) (l : List Int) (hv : Fr w base e k v l) (u : Value) (r : List Int) (hr : Rd k w u r)
    (hlen : (l.length + r.length) * bytes ≤ 140737488355328) (h63 : l.length + r.length ≤ maxLen) (hbase : base ≤ w.heap.size) :
    ∃ v' w', (Builtin.append_ #[t, t] ty #[v, u]).run P w = .ok v' w' ∧ Fr w' base e k v' (l ++ r) ∧ RowsKeep base l.length e w w' := by
  obtain ⟨v', w', hrun, hfr, hro⟩ := run_app_rows is w base ty v l hv u r hr hlen h63 hbase
  refine ⟨v', w', hrun, hfr, hro, ?_⟩
  obtain ⟨i, hi, hz, hs, hb⟩ := is.hi
  have keepExt : Ext w w' → ∀ (k : Nat) (cur : Array Value), w.heap[k]? = some (Obj.cells cur e (0, 0)) → ∃ cur', w'.heap[k]? = some (Obj.cells cur' e (0, 0)) ∧ cur'.size = cur.size ∧ ∀ i, i < l.length → cur'[i]? = cur[i]? :=
    fun hx k cur hk => ⟨cur, hx.block hk, rfl, fun _ _ => rfl⟩
  have h1 : ∀ u ∈ r.map (Value.int k), u.oneCell' = true := by
    intro u hu; obtain ⟨x, _, rfl⟩ := List.mem_map.1 hu; rfl
  rcases hv with hv | ⟨a, rfl, rfl⟩
  · by_cases hnil : v = .slice none 0 0
    · subst hnil
      have hl0 : l = [] := by
        rcases hv.2 with ⟨_, h0⟩ | ⟨g, cap, cur, he, _⟩
        · exact List.eq_nil_of_length_eq_zero h0
        · cases he
      subst hl0
      obtain ⟨v2, w2, hrun2, _, h3, _⟩ := run_app is w w.heap.size ty _ [] (Own.nil w w.heap.size e k) u r hr hlen h63 (Nat.le_refl _)
      rw [hrun] at hrun2
      cases hrun2
      exact keepExt (nil_grow h3 (Ext.rfl' w))
    · rcases hv.2 with ⟨h0, _⟩ | ⟨g, cap, cur, rfl, hg, hh, hn, hm, hsz, htk⟩
      · exact absurd h0 hnil
      obtain ⟨a, c, rfl, hc1, hc2, hcell⟩ := hr
      rcases hcell with rfl | ⟨b, o, rfl, hcell⟩
      · have hrun2 : ∃ c', (Builtin.append_ #[t, t] ty #[.slice (some ⟨g, 0, none⟩) l.length cap, .slice a 0 c]).run P w = .ok c' w := by
          exact ⟨_, run_app_nothing is w ty (some ⟨g, 0, none⟩) l.length cap a c hn (by simp)⟩
        obtain ⟨c', hrun2⟩ := hrun2
        rw [List.length_nil] at hrun
        rw [hrun] at hrun2
        cases hrun2
        exact keepExt (Ext.rfl' w)
      · have hnews := cells_of_rd hcell
        by_cases hroom : l.length + r.length ≤ cap
        · have hrun2 := run_append_room_cells (P := P) w t ty e i is.ht hi g 0 l.length cap ⟨b, o, none⟩ r.length c (r.map (Value.int k)) (by simp [hs]) hnews h1 hroom
            (fun j hj => by
              rw [hs, Nat.mul_one, Nat.zero_add]
              simp only [World.cell?, hh]
              have : l.length + j < cur.size := by rw [hsz]; simp at hj; omega
              simp [this]) (fun j hj => by simp [World.frozen?, hh])
          rw [hrun] at hrun2
          cases hrun2
          intro k2 cur2 hk2
          by_cases hkg : k2 = g
          · subst hkg
            rw [hs, Nat.mul_one, Nat.zero_add]
            exact setCells_row k2 e _ _ w cur2 hk2
          · exact ⟨cur2, by rw [hs, World.heap_setCells_other _ _ _ _ (lt_of_block hk2) hkg]; exact hk2, rfl, fun _ _ => rfl⟩
        · have holds : ∀ j u, (l.map (Value.int k))[j]? = some u → w.cell? ((⟨g, 0, none⟩ : Addr).add j) = some u := by
            intro j u hu
            have hrd := hv.rd
            obtain ⟨a', c', he, _, _, hc⟩ := hrd
            cases he
            have hj : j < l.length := by
              rcases Nat.lt_or_ge j l.length with h | h
              · exact h
              · simp [List.getElem?_eq_none (show (l.map (Value.int k)).length ≤ j by simpa using h)] at hu
            rcases hc with rfl | ⟨b', o', he, hc⟩
            · simp at hj
            · cases he
              have hadd : (⟨g, 0, none⟩ : Addr).add j = ⟨g, 0 + j, none⟩ := by unfold Addr.add; split <;> simp_all
              rw [hadd, hc j hj, ← hu]
              simp [List.getD, hj]
          obtain ⟨v2, w2, hrun2, _, h3⟩ := run_append_arg_grows (P := P) w t ty e i _ 1 bytes is.ht hi hz hs hb rfl (by decide) ⟨g, 0, none⟩ l.length cap (l.map (Value.int k)) (by simp) holds ⟨b, o, none⟩ r.length c (r.map (Value.int k)) (by simp) hnews (by omega) h63 hlen
          rw [hrun] at hrun2
          cases hrun2
          exact keepExt (Ext.of_grown h3)
  · obtain ⟨v2, w2, hrun2, _, _, h4⟩ := run_app_fr is w w.heap.size ty (.slice a 0 0) [] (.inr ⟨a, rfl, rfl⟩) u r hr hlen h63 (Nat.le_refl _)
    rw [hrun] at hrun2
    cases hrun2
    exact keepExt h4

theorem upon_app_keep {P : Program} {k : IntKind} {t e : TypeId} {bytes : Nat} (is : IS P k t e bytes) {o : Oper} {a : Act} {w : World} (s x : Operand)
    (ho : o.op = .call { callee := .builtin .append, args := #[s, x], argTypes := #[t, t] }) (base : Nat) (v : Value) (l : List Int) (hs : a.eval s = v) (hv : Fr w base e k v l) (u : Value) (r : List Int) (hx : a.eval x = u) (hr : Rd k w u r)
    (hlen : (l.length + r.length) * bytes ≤ 140737488355328) (h63 : l.length + r.length ≤ maxLen) (hbase : base ≤ w.heap.size) {T : World → World → Prop} {S : Value → World → Prop}
    (h : ∀ v' w', Fr w' base e k v' (l ++ r) → RowsKeep base l.length e w w' → T w w' ∧ S v' w') : Loose.Upon P T S w ((execOp a.eval o).run P w) := by
  obtain ⟨v', w', hrun, h2, h3⟩ := run_app_keep is w base o.type v l hv u r hr hlen h63 hbase
  unfold execOp
  simp only [ho, resolve, invoke, builtin, Sem.run_bind, Sem.run_pure, Result.andThen_ok, List.map_toArray, List.map_cons, List.map_nil, hs, hx, hrun, Loose.Upon]
  exact h v' w' h2 h3
end Go.Cul
