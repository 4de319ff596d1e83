/-
  Proved here, over any program: a region that draws its order, in which some operations only look (one value in all worlds that keep J), two may then come in either order, and the others are a chain behind both: the looking ones first, then the chain for each order of the two ('a, b := x, y' of structs: two allocations, two stores).
-/
import Derived.Test.YtbaidlkjbdeceaaGreatRegion
import Derived.Test.YtbaidlkjbdeceaaGreatRow
namespace Go.Order
open Go Go.Loose Go.First
set_option linter.unusedVariables false

section
variable (P : Program) (md : Region.Mode) (ops : Array Oper) (J : World → Prop) (z : Nat) (Q : Exit → Act → World → Prop) (E : List PanicEntry → World → Prop)
def twoO (t1 t2 : Nat) (ts : List Nat) : List Nat → Array Bool → Bool
  | [], listed => decide (Region.ready md ops listed = [t1, t2]) && chainO md ops (t2 :: ts) (listed.setIfInBounds t1 true) && chainO md ops (t1 :: ts) (listed.setIfInBounds t2 true)
  | i :: hs, listed => decide (i ∈ Region.ready md ops listed) && twoO t1 t2 ts hs (listed.setIfInBounds i true)
end

section
variable {P : Program} {md : Region.Mode} {ops : Array Oper} {J : World → Prop} {z : Nat} {Q : Exit → Act → World → Prop} {E : List PanicEntry → World → Prop}

/-- One operation of a chain. -/
theorem pOp_of {t n : Nat} {ts : List Nat} {listed : Array Bool} {a : Act} {w : World} (hc : chainO md ops ts (listed.setIfInBounds t true) = true) (hn : ts.length = n) (h : wpI P ops J z Q E (t :: ts) a w) : pOp P ops E t (fun a w => (t ≠ z → J w) ∧ wpAnyI P md ops J z Q E n (listed.setIfInBounds t true) a w) a w := by
  subst hn
  have ih := fun a w => chain_of (P := P) (J := J) (z := z) (Q := Q) (E := E) ts (listed.setIfInBounds t true) a w hc
  unfold wpI at h
  unfold pOp
  cases ho : ops[t]? with
  | none => rw [ho] at h; exact h.elim
  | some o =>
    rw [ho] at h
    simp only at h ⊢
    split
    · rename_i hw; rw [if_pos hw] at h; exact h.mono fun a w h => ⟨h.1, ih _ _ h.2⟩
    · rename_i hw; rw [if_neg hw] at h; exact ⟨h.1, ih _ _ h.2⟩

theorem two_of (t1 t2 : Nat) (ts : List Nat) (listed : Array Bool) (a : Act) (w : World) (hr : Region.ready md ops listed = [t1, t2]) (h1 : chainO md ops (t2 :: ts) (listed.setIfInBounds t1 true) = true) (h2 : chainO md ops (t1 :: ts) (listed.setIfInBounds t2 true) = true)
    (h : wpI P ops J z Q E (t1 :: t2 :: ts) a w ∧ wpI P ops J z Q E (t2 :: t1 :: ts) a w) : wpAnyI P md ops J z Q E (ts.length + 1 + 1) listed a w := by
  refine ⟨fun h0 => (by rw [hr] at h0; cases h0), fun i hi => ?_⟩
  rw [hr] at hi
  simp only [List.mem_cons, List.not_mem_nil, or_false] at hi
  rcases hi with rfl | rfl
  · exact pOp_of h1 rfl h.1
  · exact pOp_of h2 rfl h.2

theorem order_two (hsel : Region.noSelect ops = true) (hp : ∀ i j oi oj, i < j → ops[i]? = some oi → ops[j]? = some oj → pairB md ops i oi oj = true) (t1 t2 : Nat) (ts : List Nat) {w : World} (hJ : J w) :
    ∀ (hs : List Nat) (listed : Array Bool) (a : Act), (∀ i ∈ hs, ∀ oz, ops[z]? = some oz → ∃ e ∈ oz.after, Region.binds md e = true ∧ e.on = i) → twoO md ops t1 t2 ts hs listed = true →
      wpH P ops J (fun a => wpI P ops J z Q E (t1 :: t2 :: ts) a w ∧ wpI P ops J z Q E (t2 :: t1 :: ts) a w) hs a → wpAnyI P md ops J z Q E (hs.length + (ts.length + 1 + 1)) listed a w
  | [], listed, a, _, ho, h => by
    rw [List.length_nil, Nat.zero_add]
    unfold twoO at ho
    simp only [Bool.and_eq_true, decide_eq_true_eq] at ho
    exact two_of t1 t2 ts listed a w ho.1.1 ho.1.2 ho.2 h
  | i :: hs, listed, a, hz, ho, h => by
    unfold twoO at ho
    rw [Bool.and_eq_true, decide_eq_true_eq] at ho
    obtain ⟨hr, ho⟩ := ho
    obtain ⟨hun, oi, hoi, halli⟩ := mem_ready.1 hr
    have hfree : ∀ j oj, ops[j]? = some oj → j ≠ i → listed.getD j true = false → (∀ e ∈ oj.after, Region.binds md e = true → e.on ≠ i) → oi.apart ops oj = true := fun j oj hoj hji hjun hno => by
      rcases Nat.lt_or_ge i j with h | h
      · exact pairB_apart (hp i j oi oj h hoi hoj) hno
      · have hji' : j < i := by omega
        have hnoti : ∀ e ∈ oi.after, Region.binds md e = true → e.on ≠ j := fun e he hb heq => by
          have h1 := halli e he hb
          rw [heq] at h1
          rcases Nat.lt_or_ge j listed.size with h' | h'
          · simp [h'] at hjun h1; rw [hjun] at h1; cases h1
          · simp [Array.getElem?_eq_none h'] at h1
        have := pairB_apart (hp j i oj oi hji' hoj hoi) hnoti
        exact apart_symm this
    rw [List.length_cons, show hs.length + 1 + (ts.length + 1 + 1) = (hs.length + (ts.length + 1 + 1)) + 1 by omega]
    unfold wpH at h
    rw [hoi] at h
    simp only at h
    split at h
    · rename_i hw
      obtain ⟨c, h1, h2⟩ := h
      exact wpAnyI_first hoi (Region.noSelect_spec hsel) (hz i (List.mem_cons_self ..)) _ listed a w hfree hr hJ (.inr ⟨hw, h1⟩) (order_two hsel hp t1 t2 ts hJ hs _ _ (fun i hi => hz i (List.mem_cons_of_mem _ hi)) ho h2)
    · rename_i hw
      exact wpAnyI_first hoi (Region.noSelect_spec hsel) (hz i (List.mem_cons_self ..)) _ listed a w hfree hr hJ (.inl ⟨by simpa using hw, rfl⟩) (order_two hsel hp t1 t2 ts hJ hs _ _ (fun i hi => hz i (List.mem_cons_of_mem _ hi)) ho h)

/-- The region: hs look, in this order; t1, t2 in either order; ts are the chain behind; z: the operation behind which J is not asked (it waits for all that look). -/
theorem wp_region_two {id : Nat} {a : Act} {w : World} {l : List Oper} (hs : List Nat) (t1 t2 : Nat) (ts : List Nat) (z : Nat) (J : World → Prop) (E : List PanicEntry → World → Prop) (hE : ∀ c a' w, a'.defers = a.defers → E c w → Q (.panic c) a' w)
    (hJ : ∀ w', RowKit.Below w.heap.size w w' → J w') (hm : P.follows .mixedOrders = true) (hB : lexQ .any l.toArray = true)
    (hO : twoO .any l.toArray t1 t2 ts hs (Array.replicate l.toArray.size false) = true) (hn : hs.length + (ts.length + 1 + 1) = l.toArray.size) (hz : (hs.all fun i => match l.toArray[z]? with | some oz => (aft .any oz).testBit i | none => true) = true)
    (h : ∀ wd : World, RowKit.Below w.heap.size w wd → wpH P l.toArray J (fun a => wpI P l.toArray J z Q E (t1 :: t2 :: ts) a wd ∧ wpI P l.toArray J z Q E (t2 :: t1 :: ts) a wd) hs a) : (Code.region id l.toArray true).wp P Q a w := by
  have hd : RowKit.Below w.heap.size w { w with drawn := w.drawn + 1 } := ⟨rfl, rfl, rfl, Nat.le_refl _, fun _ _ => rfl⟩
  unfold lexQ at hB
  rw [Bool.and_eq_true] at hB
  obtain ⟨h1, h2⟩ := hB
  obtain ⟨s1, s2⟩ := lexFromQ_spec _ _ h2
  have H := order_two (P := P) (md := .any) (ops := l.toArray) (Q := Q) (E := E) (J := J) (z := z) h1 (fun i j oi oj hij hi hj => by simpa using s2 i j oi oj hij (by simpa using hi) (by simpa using hj)) t1 t2 ts (hJ _ hd) hs _ a
    (fun i hi oz hoz => by
      have := List.all_eq_true.1 hz i hi
      rw [hoz] at this
      exact aft_of this) hO (h _ hd)
  refine wp_region_any hm ?_
  rw [hn] at H
  exact wpAny_of_I hE _ _ _ _ rfl H
end

open Go.Cul
section
variable {P : Program} {ops : Array Oper} {J : World → Prop} {z : Nat} {Q : Exit → Act → World → Prop} {E : List PanicEntry → World → Prop}
/-- A load out of a row, as a look. -/
theorem look_load {o : Oper} {a : Act} {w : World} (ty : TypeId) (x : Operand) (ho : o.op = .load ty x) (b off : Nat) (hx : a.eval x = .pointer (some ⟨b, off, none⟩)) (C : Array Value) (d : TypeDesc) (hc : w.rangeAt b off C.toList)
    (hu : P.underlying ty = some d) (hd : d.isRow = true) (hi : (P.info? ty).map (·.size) = some C.toList.length) : (execOp a.eval o).run P w = .ok (.value (.agg C)) w := by
  unfold execOp
  simp only [ho, hx, Sem.run_bind, run_loadAt_mid w b off ty C.toList d hc hu hd hi, Result.andThen_ok]
  rfl
/-- A store of a row into a known block, in a chain. -/
theorem wpI_put_row (ty : TypeId) {dst : Option Tmp} {x y : Operand} {tt : TypeId} {pos : String} {after : Array Edge} {t : Nat} {ts : List Nat} {a : Act} {w : World} (ho : ops[t]? = some { dst := dst, op := .store ty x y, type := tt, pos := pos, after := after, guard := none })
    (b : Nat) (c C : Array Value) (te : TypeId) (hx : a.eval x = .pointer (some ⟨b, 0, none⟩)) (hy : a.eval y = .agg C) (hk : w.heap[b]? = some (.cells c te))
    (hi : (P.info? ty).map (·.size) = some C.size) (hs : c.size = C.size) (h1 : C.all (·.oneCell') = true)
    (h : ∀ W : World, W.heap[b]? = some (.cells C te) → Mvs (fun k => k = b) w W → ∀ K : Act → World → Prop, (∀ a w, (t ≠ z → J w) → wpI P ops J z Q E ts a w → K a w) → K (a.put dst undef) W) : wpI P ops J z Q E (t :: ts) a w := by
  refine wpI_step ho rfl fun K hK => ?_
  unfold execOp
  simp only [hx, hy, Instr.storeAt, Instr.sureAddr, Sem.run_bind, Sem.run_pure, Result.andThen_ok, run_storeVar_row w b te ty c C hk hi hs h1]
  exact h _ (setRow_facts hk C).1 (setRow_facts hk C).2 K hK
/-- A store of one value into a known block, in a chain. -/
theorem wpI_set_cell (ty : TypeId) {dst : Option Tmp} {x y : Operand} {tt : TypeId} {pos : String} {after : Array Edge} {t : Nat} {ts : List Nat} {a : Act} {w : World} (ho : ops[t]? = some { dst := dst, op := .store ty x y, type := tt, pos := pos, after := after, guard := none })
    (b i : Nat) (c : Array Value) (te : TypeId) (v : Value) (hx : a.eval x = .pointer (some ⟨b, i, none⟩)) (hy : a.eval y = v) (hk : w.heap[b]? = some (.cells c te))
    (hi : (P.info? ty).map (·.size) = some 1) (hs : i < c.size) (h1 : v.oneCell' = true) (hv : v.cells = #[v])
    (h : ∀ K : Act → World → Prop, (∀ a w, (t ≠ z → J w) → wpI P ops J z Q E ts a w → K a w) → K (a.put dst undef) (w.setCell ⟨b, i, none⟩ v)) : wpI P ops J z Q E (t :: ts) a w := by
  refine wpI_step ho rfl fun K hK => ?_
  unfold execOp
  simp only [hx, hy, Instr.storeAt, Instr.sureAddr, Sem.run_bind, Sem.run_pure, Result.andThen_ok, run_put_cell ty b i c te v hk hi hs h1 hv]
  exact h K hK
end
end Go.Order
