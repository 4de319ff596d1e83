/-
  Proved here, over any program: a region that draws its order, in which some operations only look (one value in all worlds that keep J) and the others are a chain,
  may be walked once: the looking ones first, then the chain, exactly. (As XFirst, the looking ones anywhere.)
-/
import Derived.Test.YtjaffcbadgpolaaFirst
namespace Go.Order
open Go Go.Loose Go.First
set_option linter.unusedVariables false

section
variable (P : Program) (md : Region.Mode) (ops : Array Oper) (J : World → Prop) (z : Nat) (Q : Exit → Act → World → Prop) (E : List PanicEntry → World → Prop)

/-- The looking operations are ready one behind the other; behind them just one is ready at a time. -/
def chainO : List Nat → Array Bool → Bool
  | [], listed => (Region.ready md ops listed).isEmpty
  | t :: ts, listed => decide (Region.ready md ops listed = [t]) && chainO ts (listed.setIfInBounds t true)
def orderO (ts : List Nat) : List Nat → Array Bool → Bool
  | [], listed => chainO md ops ts listed
  | i :: hs, listed => decide (i ∈ Region.ready md ops listed) && orderO ts hs (listed.setIfInBounds i true)

def wpI : List Nat → Act → World → Prop
  | [], a, w => Q .normal a w
  | t :: ts, a, w => match ops[t]? with
    | none => False
    | some o => if Region.wanted o (yielded ops a.tmps) then pUpon P E o a (fun a w => (t ≠ z → J w) ∧ wpI ts a w) ((execOp a.eval o).run P w) else (t ≠ z → J w) ∧ wpI ts (a.put o.dst undef) w
def wpH (K : Act → Prop) : List Nat → Act → Prop
  | [], a => K a
  | i :: hs, a => match ops[i]? with
    | none => False
    | some o => if Region.wanted o (yielded ops a.tmps) then ∃ c, (∀ w, J w → (execOp a.eval o).run P w = .ok (.value c) w) ∧ wpH K hs (a.put o.dst c) else wpH K hs (a.put o.dst undef)
end

section
variable {P : Program} {md : Region.Mode} {ops : Array Oper} {J : World → Prop} {z : Nat} {Q : Exit → Act → World → Prop} {E : List PanicEntry → World → Prop}

theorem apart_symm {x y : Oper} (h : x.apart ops y = true) : y.apart ops x = true := by
  unfold Oper.apart at *
  cases hx : x.dst <;> cases hy : y.dst <;> simp only [hx, hy] at h ⊢ <;> simp at h ⊢ <;> simp_all
  exact fun e => h.1.2 e.symm

theorem chain_of : ∀ (ts : List Nat) (listed : Array Bool) (a : Act) (w : World), chainO md ops ts listed = true → wpI P ops J z Q E ts a w → wpAnyI P md ops J z Q E ts.length listed a w
  | [], listed, a, w, hc, h => ⟨by simpa [chainO] using hc, h⟩
  | t :: ts, listed, a, w, hc, h => by
    unfold chainO at hc
    rw [Bool.and_eq_true, decide_eq_true_eq] at hc
    refine ⟨fun h1 => (by rw [hc.1] at h1; cases h1), fun i hi => ?_⟩
    rw [hc.1] at hi
    obtain rfl : i = t := by simpa using hi
    have ih := fun a w => chain_of ts (listed.setIfInBounds i true) a w hc.2
    unfold wpI at h
    unfold pOp
    cases ho : ops[i]? with
    | none => rw [ho] at h; exact h.elim
    | some o =>
      rw [ho] at h
      simp only at h ⊢
      split
      · rename_i hw; rw [if_pos hw] at h; exact h.mono fun a w h => ⟨h.1, ih _ _ h.2⟩
      · rename_i hw; rw [if_neg hw] at h; exact ⟨h.1, ih _ _ h.2⟩

theorem order_of (hsel : Region.noSelect ops = true) (hp : ∀ i j oi oj, i < j → ops[i]? = some oi → ops[j]? = some oj → pairB md ops i oi oj = true) (ts : List Nat) {w : World} (hJ : J w) :
    ∀ (hs : List Nat) (listed : Array Bool) (a : Act), (∀ i ∈ hs, ∀ oz, ops[z]? = some oz → ∃ e ∈ oz.after, Region.binds md e = true ∧ e.on = i) → orderO md ops ts hs listed = true →
      wpH P ops J (fun a => wpI P ops J z Q E ts a w) hs a → wpAnyI P md ops J z Q E (hs.length + ts.length) listed a w
  | [], listed, a, _, ho, h => by
    rw [List.length_nil, Nat.zero_add]
    exact chain_of ts listed a w ho h
  | i :: hs, listed, a, hz, ho, h => by
    unfold orderO at ho
    rw [Bool.and_eq_true, decide_eq_true_eq] at ho
    obtain ⟨hr, ho⟩ := ho
    obtain ⟨hun, oi, hoi, halli⟩ := mem_ready.1 hr
    have hfree : ∀ j oj, ops[j]? = some oj → j ≠ i → listed.getD j true = false → (∀ e ∈ oj.after, Region.binds md e = true → e.on ≠ i) → oi.apart ops oj = true := fun j oj hoj hji hjun hno => by
      rcases Nat.lt_or_ge i j with h | h
      · exact pairB_apart (hp i j oi oj h hoi hoj) hno
      · have hji' : j < i := by omega
        have hnoti : ∀ e ∈ oi.after, Region.binds md e = true → e.on ≠ j := fun e he hb heq => by
          have h1 := halli e he hb
          rw [heq] at h1
          rcases Nat.lt_or_ge j listed.size with h' | h'
          · simp [h'] at hjun h1; rw [hjun] at h1; cases h1
          · simp [Array.getElem?_eq_none h'] at h1
        have := pairB_apart (hp j i oj oi hji' hoj hoi) hnoti
        exact apart_symm this
    rw [List.length_cons, show hs.length + 1 + ts.length = (hs.length + ts.length) + 1 by omega]
    unfold wpH at h
    rw [hoi] at h
    simp only at h
    split at h
    · rename_i hw
      obtain ⟨c, h1, h2⟩ := h
      exact wpAnyI_first hoi (Region.noSelect_spec hsel) (hz i (List.mem_cons_self ..)) _ listed a w hfree hr hJ (.inr ⟨hw, h1⟩) (order_of hsel hp ts hJ hs _ _ (fun i hi => hz i (List.mem_cons_of_mem _ hi)) ho h2)
    · rename_i hw
      exact wpAnyI_first hoi (Region.noSelect_spec hsel) (hz i (List.mem_cons_self ..)) _ listed a w hfree hr hJ (.inl ⟨by simpa using hw, rfl⟩) (order_of hsel hp ts hJ hs _ _ (fun i hi => hz i (List.mem_cons_of_mem _ hi)) ho h)

/-- The region: hs look, in this order; ts are the chain; z: the operation behind which J is not asked (it waits for all that look). -/
theorem wp_region_order {id : Nat} {a : Act} {w : World} {l : List Oper} (hs ts : List Nat) (z : Nat) (J : World → Prop) (E : List PanicEntry → World → Prop) (hE : ∀ c a' w, a'.defers = a.defers → E c w → Q (.panic c) a' w)
    (hJ : ∀ w', RowKit.Below w.heap.size w w' → J w') (hm : P.follows .mixedOrders = true) (hB : lexQ .any l.toArray = true)
    (hO : orderO .any l.toArray ts hs (Array.replicate l.toArray.size false) = true) (hn : hs.length + ts.length = l.toArray.size) (hz : (hs.all fun i => match l.toArray[z]? with | some oz => (aft .any oz).testBit i | none => true) = true)
    (h : ∀ wd : World, RowKit.Below w.heap.size w wd → wpH P l.toArray J (fun a => wpI P l.toArray J z Q E ts a wd) hs a) : (Code.region id l.toArray true).wp P Q a w := by
  have hd : RowKit.Below w.heap.size w { w with drawn := w.drawn + 1 } := ⟨rfl, rfl, rfl, Nat.le_refl _, fun _ _ => rfl⟩
  unfold lexQ at hB
  rw [Bool.and_eq_true] at hB
  obtain ⟨h1, h2⟩ := hB
  obtain ⟨s1, s2⟩ := lexFromQ_spec _ _ h2
  have H := order_of (P := P) (md := .any) (ops := l.toArray) (Q := Q) (E := E) (J := J) (z := z) h1 (fun i j oi oj hij hi hj => by simpa using s2 i j oi oj hij (by simpa using hi) (by simpa using hj)) ts (hJ _ hd) hs _ a
    (fun i hi oz hoz => by
      have := List.all_eq_true.1 hz i hi
      rw [hoz] at this
      exact aft_of this) hO (h _ hd)
  refine wp_region_any hm ?_
  rw [hn] at H
  exact wpAny_of_I hE _ _ _ _ rfl H

theorem wpH_some {K : Act → Prop} {i : Nat} {hs : List Nat} {o : Oper} {a : Act} {c : Value} (ho : ops[i]? = some o) (hw : Region.wanted o (yielded ops a.tmps) = true) (hrun : ∀ w, J w → (execOp a.eval o).run P w = .ok (.value c) w)
    (h : ∀ K' : Act → Prop, (∀ a, wpH P ops J K hs a → K' a) → K' (a.put o.dst c)) : wpH P ops J K (i :: hs) a := by
  unfold wpH
  rw [ho]
  simp only
  rw [if_pos hw]
  exact ⟨c, hrun, h _ (fun _ h => h)⟩
theorem wpH_skip {K : Act → Prop} {i : Nat} {hs : List Nat} {o : Oper} {a : Act} (ho : ops[i]? = some o) (hw : Region.wanted o (yielded ops a.tmps) = false)
    (h : ∀ K' : Act → Prop, (∀ a, wpH P ops J K hs a → K' a) → K' (a.put o.dst undef)) : wpH P ops J K (i :: hs) a := by
  unfold wpH
  rw [ho]
  simp only
  rw [if_neg (by simp [hw])]
  exact h _ (fun _ h => h)
theorem wpH_nil {K : Act → Prop} {a : Act} (h : K a) : wpH P ops J K [] a := h
theorem wpI_step {t : Nat} {ts : List Nat} {o : Oper} {a : Act} {w : World} (ho : ops[t]? = some o) (hw : Region.wanted o (yielded ops a.tmps) = true) (h : ∀ K : Act → World → Prop, (∀ a w, (t ≠ z → J w) → wpI P ops J z Q E ts a w → K a w) → pUpon P E o a K ((execOp a.eval o).run P w)) : wpI P ops J z Q E (t :: ts) a w := by
  unfold wpI
  rw [ho]
  simp only
  rw [if_pos hw]
  exact h _ (fun _ _ h1 h2 => ⟨h1, h2⟩)
theorem wpI_skip {t : Nat} {ts : List Nat} {o : Oper} {a : Act} {w : World} (ho : ops[t]? = some o) (hw : Region.wanted o (yielded ops a.tmps) = false) (hj : t ≠ z → J w) (h : ∀ K : Act → World → Prop, (∀ a w, wpI P ops J z Q E ts a w → K a w) → K (a.put o.dst undef) w) : wpI P ops J z Q E (t :: ts) a w := by
  unfold wpI
  rw [ho]
  simp only
  rw [if_neg (by simp [hw])]
  exact ⟨hj, h _ (fun _ _ h => h)⟩
theorem wpI_nil {a : Act} {w : World} (h : Q .normal a w) : wpI P ops J z Q E [] a w := h
end
end Go.Order
