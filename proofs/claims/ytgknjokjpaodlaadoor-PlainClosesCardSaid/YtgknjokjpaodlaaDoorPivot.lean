/-
  Proved here, over any program: a region that draws its order, with one operation (the pivot) that waits for all ahead of it and for which all behind it wait:
  the head over worlds that grow, the pivot exactly, the rest over worlds that grow from there.
-/
import Derived.Test.YtgknjokjpaodlaaDoorTail
import Derived.Test.YtgknjokjpaodlaaDoorBase
import Derived.Deep.MidRow
namespace Go.Loose
open Go
set_option linter.unusedVariables false

section
variable {P : Program} {md : Region.Mode} {ops : Array Oper} {R : World → World → Prop} {w0 : World} {S : Nat → Option (Value → World → Prop)} {Q : Exit → Act → World → Prop}

theorem wpL_mono {Q Q' : Act → Facts → Prop} (h : ∀ a D, Q a D → Q' a D) : ∀ (k : Nat) (l : List Oper) (a : Act) (D : Facts), wpL P md ops R w0 S Q k l a D → wpL P md ops R w0 S Q' k l a D
  | k, [], a, D, hh => h _ _ hh
  | k, o :: l, a, D, hh => by
    unfold wpL at hh ⊢
    split
    · rename_i hw
      rw [if_pos hw] at hh
      exact hh.mono fun a D h' => wpL_mono h (k + 1) l a D h'
    · rename_i hw
      rw [if_neg hw] at hh
      exact wpL_mono h (k + 1) l _ _ hh

theorem vOp_of_lOp {i : Nat} {a : Act} {D : Facts} {K : Act → Facts → Prop} {K' : Act → World → Prop} {w : World}
    (hR : ∀ a b c, R a b → R b c → R a c) (hS : Lasts R S) (hDl : LastsD R D) (hw : R w0 w) (hD : ∀ j, D j w)
    (h : ∀ a D' w', R w0 w' → LastsD R D' → (∀ j, D' j w') → K a D' → K' a w') (hh : lOp P md ops R w0 S i K a D) : vOp P ops i K' a w := by
  unfold lOp at hh
  unfold vOp
  split
  · rename_i ho; simp only [ho] at hh; exact h _ _ _ hw hDl hD hh
  · rename_i o ho
    simp only [ho] at hh
    split
    · rename_i hwt
      simp only [hwt, if_true] at hh
      unfold One at hh
      split at hh
      · obtain ⟨c, h1, h2⟩ := hh
        have h3 := h1 w hw (fun e _ _ => hD _)
        generalize (execOp a.eval o).run P w = r at h3
        cases r with
        | ok n w' =>
          cases n <;> simp only [Still] at h3
          · obtain ⟨rfl, rfl⟩ := h3; simp only [vUpon]; exact h _ _ _ hw hDl hD h2
          · obtain ⟨rfl, rfl⟩ := h3; simp only [vUpon]; exact h _ _ _ hw hDl hD h2
        | halt x w' => simp only [Still] at h3
      · rename_i s hs
        obtain ⟨h1, h2⟩ := hh
        have h3 := h1 w hw (fun e _ _ => hD _)
        generalize (execOp a.eval o).run P w = r at h3
        cases r with
        | ok n w' =>
          cases n <;> simp only [Upon] at h3
          · obtain ⟨h4, h5⟩ := h3
            simp only [vUpon]
            have hw' := hR _ _ _ hw h4
            have hD' : ∀ j, D j w' := fun j => hDl j _ _ h4 (hD j)
            exact h _ _ _ hw' (hDl.upd hS hs _) (upd_all hD' h5) (h2 _ _ hw' hD' h5)
          · obtain ⟨h4, hc⟩ := h3
            simp only [vUpon]
            refine hc.mono fun e w'' ⟨u, he, h6, h5⟩ => ?_
            subst he
            have hw' := hR _ _ _ hw (hR _ _ _ h4 h6)
            have hD' : ∀ j, D j w'' := fun j => hDl j _ _ (hR _ _ _ h4 h6) (hD j)
            exact ⟨u, rfl, h _ _ _ hw' (hDl.upd hS hs _) (upd_all hD' h5) (h2 _ _ hw' hD' h5)⟩
        | halt x w' => simp only [Upon] at h3
    · rename_i hwt; simp only [hwt] at hh; exact h _ _ _ hw hDl hD hh

theorem wpAnyV_of_T {n : Nat} (hR : ∀ a b c, R a b → R b c → R a c) (hS : Lasts R S) : ∀ (fuel : Nat) (listed : Array Bool) (a : Act) (D : Facts) (w : World), R w0 w → LastsD R D → (∀ j, D j w) →
    wpAnyT P md ops R w0 S Q n fuel listed a D → wpAnyV P md ops Q fuel listed a w
  | 0, _, _, _, _, hw, _, hD, h => h _ hw hD
  | fuel + 1, listed, a, D, w, hw, hl, hD, h => by
    by_cases ht : ∃ j ∈ Region.ready md ops listed, n ≤ j
    · exact h.2.1 ht w hw hD
    · refine ⟨fun h0 => absurd h0 h.1, fun i hi => ?_⟩
      have hin : i < n := by
        rcases Nat.lt_or_ge i n with h' | h'
        · exact h'
        · exact absurd ⟨i, hi, h'⟩ ht
      exact vOp_of_lOp hR hS hl hw hD (fun a' D' w' hw' hl' hD' => wpAnyV_of_T hR hS fuel _ a' D' w' hw' hl' hD') (h.2.2 i hi hin)

theorem not_ready {n i : Nat} {listed : Array Bool} (hf : FirstK ops.size n listed) (hin : i < n) (hi : i ∈ Region.ready md ops listed) : False := by
  obtain ⟨h0, oj, hoj, _⟩ := mem_ready.1 hi
  have hlt : i < ops.size := (Array.getElem?_eq_some_iff.1 hoj).1
  have h1 := hf.2 i hlt
  simp [Array.getD_eq_getD_getElem?, h1, hin] at h0

theorem wpAnyT_lexE {n : Nat} (hR : ∀ a b c, R a b → R b c → R a c) (hS : Lasts R S) (hsel : Region.noSelect ops = true)
    (hs : ∀ j o, ops[j]? = some o → ∀ e ∈ o.after, Region.binds md e = true → e.on < j) (hp : ∀ i j oi oj, i < j → ops[i]? = some oi → ops[j]? = some oj → pairB md ops i oi oj = true)
    (hn : n ≤ ops.size)
    (hlate : ∀ i oi j oj, i < n → ops[i]? = some oi → n ≤ j → ops[j]? = some oj → lateB oi = true ∨ (reachM md ops 8 (aft md oj)).testBit i = true) :
    ∀ (l : List Oper) (k : Nat) (listed : Array Bool) (a : Act) (D : Facts), (∀ j, j < l.length → l[j]? = ops[k + j]?) → k + l.length = n → FirstK ops.size k listed →
      (∀ k w, listed.getD k true = false → D k w) → LastsD R D → (∃ w, R w0 w ∧ ∀ j, D j w) →
      wpL P md ops R w0 S (fun a' D' => ∀ w, R w0 w → (∀ j, D' j w) → ∀ listed, FirstK ops.size n listed → wpAnyV P md ops Q (ops.size - n) listed a' w) k l a D → wpAnyT P md ops R w0 S Q n (l.length + (ops.size - n)) listed a D
  | [], k, listed, a, D, _, hk, hf, hun, hla, hex, h => by
    obtain rfl : k = n := by simpa using hk
    rw [List.length_nil, Nat.zero_add]
    have main : ∀ w, R w0 w → (∀ j, D j w) → wpAnyV P md ops Q (ops.size - k) listed a w := fun w hw hD => h w hw hD listed hf
    generalize hm : ops.size - k = m at main ⊢
    cases m with
    | zero => exact main
    | succ t =>
      refine ⟨fun h1 => ?_, fun _ => main, fun i hi hin => (not_ready hf hin hi).elim⟩
      have := ready_first (md := md) (show k < ops.size by omega) hf hs
      rw [h1] at this
      cases this
  | o :: l, k, listed, a, D, hl, hk, hf, hun, hla, hex, h => by
    have h0 : ops[k]? = some o := by simpa using (hl 0 (by simp)).symm
    have hkn : k < n := by simp only [List.length_cons] at hk; omega
    have hr : k ∈ Region.ready md ops listed := ready_first (by omega) hf hs
    have hst : lOp P md ops R w0 S k (wpL P md ops R w0 S (fun a' D' => ∀ w, R w0 w → (∀ j, D' j w) → ∀ listed, FirstK ops.size n listed → wpAnyV P md ops Q (ops.size - n) listed a' w) (k + 1) l) a D := by unfold lOp; simp only [h0]; exact h
    obtain ⟨w, hw, hD⟩ := hex
    obtain ⟨hy, hK⟩ := of_lOp h0 hw hD hst
    have hlt : k < listed.size := by rw [hf.1]; omega
    have hl' : ∀ j, j < l.length → l[j]? = ops[k + 1 + j]? := fun j hj => by have := hl (j + 1) (by simp; omega); simpa [Nat.add_assoc, Nat.add_comm 1 j] using this
    have hunk : ∀ D' : Facts, (∀ j, j ≠ k → D' j = D j) → ∀ j w, (listed.setIfInBounds k true).getD j true = false → D' j w := fun D' hD' j w hj => by
      have hjk : k ≠ j := fun e => by subst e; simp [hlt] at hj
      rw [hD' j (Ne.symm hjk)]
      rw [getD_set_ne true hjk] at hj
      exact hun j w hj
    have hfree : ∀ j oj, ops[j]? = some oj → j ≠ k → listed.getD j true = false → (∀ e ∈ oj.after, Region.binds md e = true → e.on ≠ k) → o.apart ops oj = true := fun j oj hoj hjk hun' hno => by
      have hjl : j < ops.size := (Array.getElem?_eq_some_iff.1 hoj).1
      have h1 := hf.2 j hjl
      have hkj : k < j := by
        rcases Nat.lt_or_ge k j with h | h
        · exact h
        · simp [Array.getD_eq_getD_getElem?, h1, show j < k by omega] at hun'
      exact pairB_apart (hp k j o oj hkj h0 hoj) hno
    have hk' : k + 1 + l.length = n := by simp only [List.length_cons] at hk; omega
    rw [List.length_cons, show l.length + 1 + (ops.size - n) = (l.length + (ops.size - n)) + 1 by omega]
    refine wpAnyT_first hR hS h0 hkn (Region.noSelect_spec hsel) (fun j oj => hlate k o j oj hkn h0) (l.length + (ops.size - n)) listed a D (closed_first hf hs) hfree hun hr hla ⟨w, hw, hD⟩ hy ⟨?_, ?_, ?_⟩
    · exact fun h => wpAnyT_lexE hR hS hsel hs hp hn hlate l (k + 1) _ _ _ hl' hk' (hf.next (by omega)) (hunk D fun _ _ => rfl) hla ⟨w, hw, hD⟩ (hK.1 h)
    · exact fun h hs' c hc' => wpAnyT_lexE hR hS hsel hs hp hn hlate l (k + 1) _ _ _ hl' hk' (hf.next (by omega)) (hunk D fun _ _ => rfl) hla ⟨w, hw, hD⟩ (hK.2.1 h hs' c hc')
    · exact fun h s hs' v w' hw' hD' hv => wpAnyT_lexE hR hS hsel hs hp hn hlate l (k + 1) _ _ _ hl' hk' (hf.next (by omega)) (hunk _ fun j hj => by funext w; exact upd_ne hj) (hla.upd hS hs' v) ⟨w', hw', upd_all hD' hv⟩ (hK.2.2 h s hs' v w' hw' hD' hv)

/-- All behind the pivot wait for it, it and they for all ahead of it (but moves). -/
def pivB (md : Region.Mode) (ops : Array Oper) (n : Nat) : Bool :=
  decide (n < ops.size) && (List.range ops.size).all fun j => decide (j < n) || match ops[j]? with
    | some oj => (decide (j = n) || (reachM md ops 8 (aft md oj)).testBit n) && (List.range n).all fun i => (match ops[i]? with | some oi => lateB oi | none => true) || (reachM md ops 8 (aft md oj)).testBit i
    | none => true

/-- The pivot's step. -/
def wpPiv (P : Program) (ops : Array Oper) (o : Oper) (K : Act → World → Prop) (a : Act) (w : World) : Prop := Region.wanted o (yielded ops a.tmps) = true ∧ vUpon P o a K ((execOp a.eval o).run P w)

theorem wpPiv_call {o : Oper} {K : Act → World → Prop} {a : Act} {w : World} (hw : Region.wanted o (yielded ops a.tmps) = true) (h : ∀ K' : Act → World → Prop, (∀ a w, K a w → K' a w) → vUpon P o a K' ((execOp a.eval o).run P w)) : wpPiv P ops o K a w :=
  ⟨hw, h _ fun _ _ h => h⟩

/-- A region with a pivot. -/
theorem wp_region_pivot {id : Nat} {Q : Exit → Act → World → Prop} {a : Act} {w : World} {l : List Oper} (n : Nat) (L L2 : List (Nat × (Value → World → Prop))) (o : Oper) (ho : l[n]? = some o)
    (hS : Lasts (fun w w' : World => RowKit.Below w.heap.size w w') (lk L)) (hS2 : Lasts (fun w w' : World => RowKit.Below w.heap.size w w') (lk L2))
    (hm : P.follows .mixedOrders = true) (hB : lexQ .any l.toArray = true) (hT : pivB .any l.toArray n = true)
    (h : wpL P .any l.toArray (fun w w' : World => RowKit.Below w.heap.size w w') w (lk L) (fun a' D' => ∀ w' : World, RowKit.Below w.heap.size w w' → (∀ j, D' j w') →
      wpPiv P l.toArray o (fun a2 w2 => wpL P .any l.toArray (fun w w' : World => RowKit.Below w.heap.size w w') w2 (lk L2) (fun a3 D3 => ∀ w3, RowKit.Below w2.heap.size w2 w3 → (∀ j, D3 j w3) → Q .normal a3 w3) (n + 1) (l.drop (n + 1)) a2 (fun _ _ => True)) a' w') 0 (l.take n) a (fun _ _ => True)) :
    (Code.region id l.toArray true).wp P Q a w := by
  unfold lexQ at hB
  rw [Bool.and_eq_true] at hB
  obtain ⟨h1, h2⟩ := hB
  obtain ⟨s1, s2⟩ := lexFromQ_spec _ _ h2
  unfold pivB at hT
  rw [Bool.and_eq_true, decide_eq_true_eq] at hT
  obtain ⟨hn, hall⟩ := hT
  have hR : ∀ a b c : World, RowKit.Below a.heap.size a b → RowKit.Below b.heap.size b c → RowKit.Below a.heap.size a c := fun _ _ _ h k => RowKit.Below.trans h (k.mono h.size)
  have htail : ∀ j oj, n ≤ j → l.toArray[j]? = some oj → (j = n ∨ (reachM .any l.toArray 8 (aft .any oj)).testBit n = true) ∧ ∀ i oi, i < n → l.toArray[i]? = some oi → lateB oi = true ∨ (reachM .any l.toArray 8 (aft .any oj)).testBit i = true := by
    intro j oj hj hoj
    have hlt : j < l.toArray.size := (Array.getElem?_eq_some_iff.1 hoj).1
    have h3 := List.all_eq_true.1 hall j (List.mem_range.2 hlt)
    simp only [hoj, Bool.or_eq_true, Bool.and_eq_true, decide_eq_true_eq] at h3
    rcases h3 with h3 | ⟨h3, h4⟩
    · omega
    · refine ⟨h3, fun i oi hi hoi => ?_⟩
      have h5 := List.all_eq_true.1 h4 i (List.mem_range.2 hi)
      simp only [hoi, Bool.or_eq_true] at h5
      exact h5
  have hs : ∀ j o, l.toArray[j]? = some o → ∀ e ∈ o.after, Region.binds .any e = true → e.on < j := fun j o ho e he hb => by simpa using s1 j o (by simpa using ho) e he hb
  have hpr : ∀ i j oi oj, i < j → l.toArray[i]? = some oi → l.toArray[j]? = some oj → pairB .any l.toArray i oi oj = true := fun i j oi oj hij hi hj => by simpa using s2 i j oi oj hij (by simpa using hi) (by simpa using hj)
  have hnl : n < l.length := by simpa using hn
  have htk : (l.take n).length = n := by rw [List.length_take]; omega
  have piv : ∀ (a' : Act) (w' : World), wpPiv P l.toArray o (fun a2 w2 => wpL P .any l.toArray (fun w w' : World => RowKit.Below w.heap.size w w') w2 (lk L2) (fun a3 D3 => ∀ w3, RowKit.Below w2.heap.size w2 w3 → (∀ j, D3 j w3) → Q .normal a3 w3) (n + 1) (l.drop (n + 1)) a2 (fun _ _ => True)) a' w' →
      ∀ listed, FirstK l.toArray.size n listed → wpAnyV P .any l.toArray Q (l.toArray.size - n) listed a' w' := by
    intro a' w' ⟨hw, hv⟩ listed hf
    rw [show l.toArray.size - n = (l.toArray.size - (n + 1)) + 1 by omega]
    refine ⟨fun h0 => ?_, fun i hi => ?_⟩
    · have := ready_first (md := .any) hn hf hs
      rw [h0] at this
      cases this
    · have hin : i = n := by
        rcases Nat.lt_trichotomy i n with hlt | he | hgt
        · exact (not_ready hf hlt hi).elim
        · exact he
        · obtain ⟨h0, oj, hoj, hal⟩ := mem_ready.1 hi
          rcases (htail i oj (by omega) hoj).1 with h' | h'
          · omega
          · have h3 := reach_listed (closed_first hf hs) 8 _ (fun m hm => by obtain ⟨e, he, hb, rfl⟩ := aft_of hm; exact hal e he hb) n h'
            have h4 := hf.2 n hn
            simp [Array.getD_eq_getD_getElem?, h4] at h3
      subst hin
      unfold vOp
      rw [show l.toArray[i]? = some o by simpa using ho]
      simp only [hw, if_true]
      refine hv.mono fun a2 w2 hK => ?_
      have hdl : i + 1 + (l.drop (i + 1)).length = l.toArray.size := by simp; omega
      have H := wpAnyT_lexE (P := P) (md := .any) (ops := l.toArray) (Q := Q) (n := l.toArray.size) (S := lk L2) (w0 := w2) hR hS2 h1 hs hpr (Nat.le_refl _)
        (fun i oi j oj hi hoi hj hoj => by have := (Array.getElem?_eq_some_iff.1 hoj).1; omega)
        (l.drop (i + 1)) (i + 1) (listed.setIfInBounds i true) a2 (fun _ _ => True) (fun j hj => by simp [List.getElem?_drop]) hdl (hf.next hn)
        (fun _ _ _ => trivial) (fun _ _ _ _ h => h) ⟨w2, RowKit.Below.refl _ _, fun _ => trivial⟩
        (wpL_mono (fun a3 D3 h3 w3 hw3 hD3 listed3 hf3 => by
          rw [Nat.sub_self]
          refine ⟨?_, h3 w3 hw3 hD3⟩
          apply List.eq_nil_iff_forall_not_mem.2
          intro j hj
          obtain ⟨_, oj, hoj, _⟩ := mem_ready.1 hj
          exact not_ready hf3 (Array.getElem?_eq_some_iff.1 hoj).1 hj) _ _ _ _ hK)
      rw [Nat.sub_self, Nat.add_zero, show (l.drop (i + 1)).length = l.toArray.size - (i + 1) by omega] at H
      exact wpAnyV_of_T (w0 := w2) hR hS2 _ _ _ (fun _ _ => True) _ (RowKit.Below.refl _ _) (fun _ _ _ _ h => h) (fun _ => trivial) H
  have H := wpAnyT_lexE (P := P) (md := .any) (ops := l.toArray) (Q := Q) (n := n) (S := lk L) (w0 := w) hR hS h1 hs hpr (Nat.le_of_lt hn)
    (fun i oi j oj hi hoi hj hoj => (htail j oj hj hoj).2 i oi hi hoi)
    (l.take n) 0 (Array.replicate l.toArray.size false) a (fun _ _ => True) (fun j hj => by rw [htk] at hj; simp [hj]) (by omega) ⟨by simp, fun j hj => by simp at hj ⊢; simp [hj]⟩
    (fun _ _ _ => trivial) (fun _ _ _ _ h => h) ⟨w, RowKit.Below.refl _ _, fun _ => trivial⟩
    (wpL_mono (fun a' D' h3 w' hw' hD' => piv a' w' (h3 w' hw' hD')) _ _ _ _ h)
  refine wp_region_any hm ?_
  rw [htk, show n + (l.toArray.size - n) = l.toArray.size by omega] at H
  exact wpAny_of_T (w0 := w) hR hS _ _ _ (fun _ _ => True) _ ⟨rfl, rfl, rfl, Nat.le_refl _, fun _ _ => rfl⟩ (fun _ _ _ _ h => h) (fun _ => trivial) H

/-- A struct is loaded out of the middle of a block. -/
theorem still_load {o : Oper} {a : Act} {w : World} (ty : TypeId) (x : Operand) (ho : o.op = .load ty x) (b off : Nat) (hx : a.eval x = .pointer (some ⟨b, off, none⟩)) (C : Array Value) (d : TypeDesc) (hc : w.rangeAt b off C.toList)
    (hu : P.underlying ty = some d) (hd : d.isRow = true) (hi : (P.info? ty).map (·.size) = some C.toList.length) : Still (.agg C) w ((execOp a.eval o).run P w) := by
  unfold execOp
  simp only [ho, hx, Sem.run_bind, run_loadAt_mid w b off ty C.toList d hc hu hd hi, Result.andThen_ok]
  exact ⟨rfl, rfl⟩
end
end Go.Loose
namespace Go.Cul
theorem range_ext {w w' : World} {b off : Nat} {cs : List Value} (h : w.rangeAt b off cs) (hx : Ext w w') : w'.rangeAt b off cs := fun j v hv => hx.cell (h j v hv)
end Go.Cul
