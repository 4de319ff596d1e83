/-
  Proved here, over any program: a region that draws its order whose head only looks (each operation of it yields one value in all worlds that keep J) and whose
  tail is a chain may be walked once, in the order of the text; the tail exactly. J is to be kept by each of the tail's operations but the last, which waits for the head. A call may panic, to a post that does not hang on the frame.
-/
import Derived.Test.YtckdcjheflgmdaaTail
namespace Go.First
open Go Go.Loose
set_option linter.unusedVariables false

section
variable (P : Program) (md : Region.Mode) (ops : Array Oper) (J : World → Prop) (z : Nat) (Q : Exit → Act → World → Prop) (E : List PanicEntry → World → Prop)

/-- Operations that yield a value or nothing, or call; the call may panic. -/
def pUpon (o : Oper) (a : Act) (next : Act → World → Prop) : Result Next → Prop
  | .ok (.value v) w' => next (a.put o.dst v) w'
  | .ok .skip w' => next (a.put o.dst undef) w'
  | .ok (.enter f args) w' => Calls P f args w' (fun e w'' => (∃ u, e = .returned u ∧ next (a.put o.dst u) w'') ∨ ∃ c, e = .panicked c ∧ E c w'')
  | _ => False
def pOp (i : Nat) (K : Act → World → Prop) (a : Act) (w : World) : Prop :=
  match ops[i]? with
  | none => K a w
  | some o => if Region.wanted o (yielded ops a.tmps) then pUpon P E o a K ((execOp a.eval o).run P w) else K (a.put o.dst undef) w
def wpAnyI : Nat → Array Bool → Act → World → Prop
  | 0, listed, a, w => Region.ready md ops listed = [] ∧ Q .normal a w
  | fuel + 1, listed, a, w => (Region.ready md ops listed = [] → Q .normal a w) ∧ ∀ i ∈ Region.ready md ops listed, pOp P ops E i (fun a w => (i ≠ z → J w) ∧ wpAnyI fuel (listed.setIfInBounds i true) a w) a w
/-- The tail, in the order of the text. -/
def wpI : Nat → List Oper → Act → World → Prop
  | _, [], a, w => Q .normal a w
  | k, o :: rest, a, w => if Region.wanted o (yielded ops a.tmps) then pUpon P E o a (fun a w => (k ≠ z → J w) ∧ wpI (k + 1) rest a w) ((execOp a.eval o).run P w) else (k ≠ z → J w) ∧ wpI (k + 1) rest (a.put o.dst undef) w
/-- The head, in the order of the text. -/
def wpH (K : Act → Prop) : List Oper → Act → Prop
  | [], a => K a
  | o :: rest, a => if Region.wanted o (yielded ops a.tmps) then ∃ c, (∀ w, J w → (execOp a.eval o).run P w = .ok (.value c) w) ∧ wpH K rest (a.put o.dst c) else wpH K rest (a.put o.dst undef)
end

section
variable {P : Program} {md : Region.Mode} {ops : Array Oper} {J : World → Prop} {z : Nat} {Q : Exit → Act → World → Prop} {E : List PanicEntry → World → Prop}

theorem pUpon.mono {o : Oper} {a : Act} {K K' : Act → World → Prop} {r : Result Next} (h : ∀ a w, K a w → K' a w) (hh : pUpon P E o a K r) : pUpon P E o a K' r := by
  unfold pUpon at *
  split at hh <;> first | exact h _ _ hh | exact hh.mono fun e w hx => hx.imp (fun ⟨u, h1, h2⟩ => ⟨u, h1, h _ _ h2⟩) id | exact hh

theorem put_defers (a : Act) (d : Option Nat) (v : Value) : (a.put d v).defers = a.defers := by
  cases d <;> rfl

theorem pOp.wp {i : Nat} {K K' : Act → World → Prop} {a : Act} {w : World} (hE : ∀ c w, E c w → Q (.panic c) a w) (h : ∀ a' w, a'.defers = a.defers → K a' w → K' a' w) (hh : pOp P ops E i K a w) : wpOp P ops Q i K' a w := by
  unfold pOp at hh
  unfold wpOp
  split
  · rename_i ho; simp only [ho] at hh; exact h _ _ rfl hh
  · rename_i o ho
    simp only [ho] at hh
    split
    · rename_i hw
      rw [if_pos hw] at hh
      left
      unfold Oper.wp
      generalize (execOp a.eval o).run P w = r at *
      unfold pUpon at hh
      split at hh
      · exact h _ _ (put_defers _ _ _) hh
      · exact h _ _ (put_defers _ _ _) hh
      · refine hh.mono fun e w hx => ?_
        rcases hx with ⟨u, h1, h2⟩ | ⟨c, h1, h2⟩
        · subst h1; exact h _ _ (put_defers _ _ _) h2
        · subst h1; exact hE _ _ h2
      · exact hh.elim
    · rename_i hw; rw [if_neg hw] at hh; exact h _ _ (put_defers _ _ _) hh
theorem wpAny_of_I {d : List Deferred} (hE : ∀ c a w, a.defers = d → E c w → Q (.panic c) a w) : ∀ (fuel : Nat) (listed : Array Bool) (a : Act) (w : World), a.defers = d → wpAnyI P md ops J z Q E fuel listed a w → wpAny P md ops Q fuel listed a w
  | 0, _, _, _, _, h => h
  | fuel + 1, listed, a, w, hd, h => ⟨h.1, fun i hi => (h.2 i hi).wp (fun c w => hE c a w hd) (fun a' w he h => wpAny_of_I hE fuel _ a' w (he.trans hd) h.2)⟩

/-- An operation that only looks may be taken first. -/
theorem wpAnyI_first {i : Nat} {oi : Oper} {c : Value} (hi : ops[i]? = some oi) (hsel : ∀ (j : Nat) (o : Oper) cs b, ops[j]? = some o → o.op ≠ .select cs b) (hz : ∀ oz, ops[z]? = some oz → ∃ e ∈ oz.after, Region.binds md e = true ∧ e.on = i) :
    ∀ (fuel : Nat) (listed : Array Bool) (a : Act) (w : World),
      (∀ j oj, ops[j]? = some oj → j ≠ i → listed.getD j true = false → (∀ e ∈ oj.after, Region.binds md e = true → e.on ≠ i) → oi.apart ops oj = true) →
      i ∈ Region.ready md ops listed → J w →
      ((Region.wanted oi (yielded ops a.tmps) = false ∧ c = undef) ∨ (Region.wanted oi (yielded ops a.tmps) = true ∧ ∀ w, J w → (execOp a.eval oi).run P w = .ok (.value c) w)) →
      wpAnyI P md ops J z Q E fuel (listed.setIfInBounds i true) (a.put oi.dst c) w → wpAnyI P md ops J z Q E (fuel + 1) listed a w := by
  intro fuel
  induction fuel with
  | zero =>
    intro listed a w hfree hr hJ hy H
    refine ⟨fun h => (by rw [h] at hr; cases hr), fun j hj => ?_⟩
    by_cases hji : j = i
    · subst hji
      unfold pOp
      simp only [hi]
      rcases hy with ⟨h1, rfl⟩ | ⟨h1, h2⟩
      · simp only [h1, Bool.false_eq_true, if_false]; exact ⟨fun _ => hJ, H⟩
      · simp only [h1, if_true, h2 w hJ, pUpon]; exact ⟨fun _ => hJ, H⟩
    · have h1 := ready_mono hj hji
      rw [H.1] at h1
      cases h1
  | succ fuel ih =>
    intro listed a w hfree hr hJ hy H
    refine ⟨fun h => (by rw [h] at hr; cases hr), fun j hj => ?_⟩
    by_cases hji : j = i
    · subst hji
      unfold pOp
      simp only [hi]
      rcases hy with ⟨h1, rfl⟩ | ⟨h1, h2⟩
      · simp only [h1, Bool.false_eq_true, if_false]; exact ⟨fun _ => hJ, H⟩
      · simp only [h1, if_true, h2 w hJ, pUpon]; exact ⟨fun _ => hJ, H⟩
    have hij : i ≠ j := Ne.symm hji
    obtain ⟨hjun, oj, hoj, hall⟩ := mem_ready.1 hj
    have hnot : ∀ e ∈ oj.after, Region.binds md e = true → e.on ≠ i := fun e he hb heq => by
      have h1 := hall e he hb
      have h0 := (mem_ready.1 hr).1
      rw [heq] at h1
      rcases Nat.lt_or_ge i listed.size with h' | h'
      · simp [h'] at h0 h1; rw [h0] at h1; cases h1
      · simp [Array.getElem?_eq_none h'] at h1
    have hjz : j ≠ z := fun e => by
      subst e
      obtain ⟨e, he, hb, hon⟩ := hz oj hoj
      exact hnot e he hb hon
    obtain ⟨ap1, ap2, ap3⟩ := Oper.apart_spec (hfree j oj hoj hji hjun hnot)
    have hsi := fun cs b => hsel i oi cs b hi
    have hsj := fun cs b => hsel j oj cs b hoj
    have hfree' : ∀ k ok, ops[k]? = some ok → k ≠ i → (listed.setIfInBounds j true).getD k true = false →
        (∀ e ∈ ok.after, Region.binds md e = true → e.on ≠ i) → oi.apart ops ok = true := fun k ok hk hki hun hno => by
      refine hfree k ok hk hki ?_ hno
      by_cases hjk : j = k
      · subst hjk; exact hjun
      · rw [getD_set_ne true hjk] at hun; exact hun
    have hcomm : (listed.setIfInBounds i true).setIfInBounds j true = (listed.setIfInBounds j true).setIfInBounds i true := Array.setIfInBounds_comm _ _ hij
    have H2 := H.2 j (ready_mono hj hji)
    have hri : i ∈ Region.ready md ops (listed.setIfInBounds j true) := ready_mono hr hij
    have step : ∀ u w', (j ≠ z → J w') ∧ wpAnyI P md ops J z Q E fuel ((listed.setIfInBounds i true).setIfInBounds j true) ((a.put oi.dst c).put oj.dst u) w' → (j ≠ z → J w') ∧ wpAnyI P md ops J z Q E (fuel + 1) (listed.setIfInBounds j true) (a.put oj.dst u) w' := fun u w' h => by
      refine ⟨h.1, ih _ _ _ hfree' hri (h.1 hjz) ?_ ?_⟩
      · rw [wanted_put oi a oj.dst u ap3, execOp_put oi hsi a oj.dst u ap3]; exact hy
      · rw [← hcomm, ← Act.put_comm a c u ap2]; exact h.2
    unfold pOp at H2 ⊢
    simp only [hoj] at H2 ⊢
    rw [wanted_put oj a oi.dst c ap1, execOp_put oj hsj a oi.dst c ap1] at H2
    by_cases hw : Region.wanted oj (yielded ops a.tmps) = true
    · rw [if_pos hw] at H2 ⊢
      generalize (execOp a.eval oj).run P w = r at *
      unfold pUpon at H2 ⊢
      split at H2
      · exact step _ _ H2
      · exact step _ _ H2
      · exact H2.mono fun e w hx => hx.imp (fun ⟨u, h1, h2⟩ => ⟨u, h1, step _ _ h2⟩) id
      · exact H2.elim
    · rw [if_neg hw] at H2 ⊢
      exact step _ _ H2

theorem wpAnyI_seq {n : Nat} (hs : ∀ j o, ops[j]? = some o → ∀ e ∈ o.after, Region.binds md e = true → e.on < j) (hc : ∀ j oj, n < j → ops[j]? = some oj → ∃ e ∈ oj.after, Region.binds md e = true ∧ e.on = j - 1) :
    ∀ (l : List Oper) (k : Nat) (listed : Array Bool) (a : Act) (w : World), (∀ j, l[j]? = ops[k + j]?) → k + l.length = ops.size → n ≤ k → FirstK ops.size k listed → wpI P ops J z Q E k l a w → wpAnyI P md ops J z Q E l.length listed a w
  | [], k, listed, a, w, hl, hk, hnk, hf, h => by
    refine ⟨?_, h⟩
    apply List.eq_nil_iff_forall_not_mem.2
    intro j hj
    have hjk := ready_tail hnk hf hc hj
    obtain ⟨_, oj, hoj, _⟩ := mem_ready.1 hj
    have hlt : j < ops.size := (Array.getElem?_eq_some_iff.1 hoj).1
    simp at hk
    omega
  | o :: l, k, listed, a, w, hl, hk, hnk, hf, h => by
    have h0 : ops[k]? = some o := by simpa using (hl 0).symm
    have hlt : k < ops.size := (Array.getElem?_eq_some_iff.1 h0).1
    refine ⟨fun h1 => ?_, fun i hi => ?_⟩
    · have := ready_first (md := md) hlt hf hs
      rw [h1] at this
      cases this
    · obtain rfl := ready_tail hnk hf hc hi
      unfold pOp
      simp only [h0]
      have ih := fun a' w' => wpAnyI_seq hs hc l (i + 1) (listed.setIfInBounds i true) a' w' (fun j => by have := hl (j + 1); simpa [Nat.add_assoc, Nat.add_comm 1 j] using this) (by simp only [List.length_cons] at hk; omega) (by omega) (hf.next hlt)
      unfold wpI at h
      split
      · rename_i hw; rw [if_pos hw] at h; exact h.mono fun a w h => ⟨h.1, ih _ _ h.2⟩
      · rename_i hw; rw [if_neg hw] at h; exact ⟨h.1, ih _ _ h.2⟩

theorem wpAnyI_head {n : Nat} (hsel : Region.noSelect ops = true)
    (hs : ∀ j o, ops[j]? = some o → ∀ e ∈ o.after, Region.binds md e = true → e.on < j) (hp : ∀ i j oi oj, i < j → ops[i]? = some oi → ops[j]? = some oj → pairB md ops i oi oj = true)
    (hc : ∀ j oj, n < j → ops[j]? = some oj → ∃ e ∈ oj.after, Region.binds md e = true ∧ e.on = j - 1) (hn : n < ops.size)
    (hz : ∀ i, i < n → ∀ oz, ops[z]? = some oz → ∃ e ∈ oz.after, Region.binds md e = true ∧ e.on = i) (tl : List Oper) (htl : ∀ j, tl[j]? = ops[n + j]?) {w : World} (hJ : J w) :
    ∀ (l : List Oper) (k : Nat) (listed : Array Bool) (a : Act), (∀ j, j < l.length → l[j]? = ops[k + j]?) → k + l.length = n → FirstK ops.size k listed →
      wpH P ops J (fun a => wpI P ops J z Q E n tl a w) l a → wpAnyI P md ops J z Q E (l.length + tl.length) listed a w
  | [], k, listed, a, _, hk, hf, h => by
    obtain rfl : k = n := by simpa using hk
    have hlen : tl.length = ops.size - k := by
      have h1 := htl (ops.size - k)
      rw [show k + (ops.size - k) = ops.size by omega, Array.getElem?_eq_none (Nat.le_refl _)] at h1
      have h2 : tl.length ≤ ops.size - k := by simpa using h1
      have h3 := htl (ops.size - k - 1)
      rw [show k + (ops.size - k - 1) = ops.size - 1 by omega, Array.getElem?_eq_getElem (by omega)] at h3
      have h4 : ops.size - k - 1 < tl.length := by
        rcases Nat.lt_or_ge (ops.size - k - 1) tl.length with h | h
        · exact h
        · rw [List.getElem?_eq_none h] at h3; cases h3
      omega
    rw [List.length_nil, Nat.zero_add]
    exact wpAnyI_seq hs hc tl k listed a w htl (by omega) (Nat.le_refl _) hf h
  | o :: l, k, listed, a, hl, hk, hf, h => by
    have h0 : ops[k]? = some o := by simpa using (hl 0 (by simp)).symm
    have hkn : k < n := by simp only [List.length_cons] at hk; omega
    have hr : k ∈ Region.ready md ops listed := ready_first (by omega) hf hs
    have hl' : ∀ j, j < l.length → l[j]? = ops[k + 1 + j]? := fun j hj => by have := hl (j + 1) (by simp; omega); simpa [Nat.add_assoc, Nat.add_comm 1 j] using this
    have hfree : ∀ j oj, ops[j]? = some oj → j ≠ k → listed.getD j true = false → (∀ e ∈ oj.after, Region.binds md e = true → e.on ≠ k) → o.apart ops oj = true := fun j oj hoj hjk hun' hno => by
      have hjl : j < ops.size := (Array.getElem?_eq_some_iff.1 hoj).1
      have h1 := hf.2 j hjl
      have hkj : k < j := by
        rcases Nat.lt_or_ge k j with h | h
        · exact h
        · simp [Array.getD_eq_getD_getElem?, h1, show j < k by omega] at hun'
      exact pairB_apart (hp k j o oj hkj h0 hoj) hno
    have hk' : k + 1 + l.length = n := by simp only [List.length_cons] at hk; omega
    rw [List.length_cons, show l.length + 1 + tl.length = (l.length + tl.length) + 1 by omega]
    unfold wpH at h
    split at h
    · rename_i hw
      obtain ⟨c, h1, h2⟩ := h
      exact wpAnyI_first h0 (Region.noSelect_spec hsel) (hz k hkn) _ listed a w hfree hr hJ (.inr ⟨hw, h1⟩) (wpAnyI_head hsel hs hp hc hn hz tl htl hJ l (k + 1) _ _ hl' hk' (hf.next (by omega)) h2)
    · rename_i hw
      exact wpAnyI_first h0 (Region.noSelect_spec hsel) (hz k hkn) _ listed a w hfree hr hJ (.inl ⟨by simpa using hw, rfl⟩) (wpAnyI_head hsel hs hp hc hn hz tl htl hJ l (k + 1) _ _ hl' hk' (hf.next (by omega)) h)

/-- The tail is a chain, and its last operation (number z) waits for the head. -/
def chainB (md : Region.Mode) (ops : Array Oper) (n z : Nat) : Bool :=
  decide (n < ops.size) && ((List.range ops.size).all fun j => decide (j ≤ n) || match ops[j]? with
    | some oj => (aft md oj).testBit (j - 1)
    | none => true) && match ops[z]? with
    | some oz => (List.range n).all fun i => (aft md oz).testBit i
    | none => true

theorem wp_region_first {id : Nat} {a : Act} {w : World} {l : List Oper} (n z : Nat) (J : World → Prop) (E : List PanicEntry → World → Prop) (hE : ∀ c a' w, a'.defers = a.defers → E c w → Q (.panic c) a' w)
    (hJ : J { w with drawn := w.drawn + 1 }) (hm : P.follows .mixedOrders = true) (hB : lexQ .any l.toArray = true) (hT : chainB .any l.toArray n z = true)
    (h : wpH P l.toArray J (fun a => wpI P l.toArray J z Q E n (l.drop n) a { w with drawn := w.drawn + 1 }) (l.take n) a) : (Code.region id l.toArray true).wp P Q a w := by
  unfold lexQ at hB
  rw [Bool.and_eq_true] at hB
  obtain ⟨h1, h2⟩ := hB
  obtain ⟨s1, s2⟩ := lexFromQ_spec _ _ h2
  unfold chainB at hT
  rw [Bool.and_eq_true, Bool.and_eq_true, decide_eq_true_eq] at hT
  obtain ⟨⟨hn, hall⟩, hzz⟩ := hT
  have htk : (l.take n).length = n := by rw [List.length_take]; simp at hn; omega
  have H := wpAnyI_head (P := P) (md := .any) (ops := l.toArray) (Q := Q) (E := E) (J := J) (z := z) (n := n) h1 (fun j o ho e he hb => by simpa using s1 j o (by simpa using ho) e he hb) (fun i j oi oj hij hi hj => by simpa using s2 i j oi oj hij (by simpa using hi) (by simpa using hj))
    (fun j oj hj hoj => by
      have hlt : j < l.toArray.size := (Array.getElem?_eq_some_iff.1 hoj).1
      have h3 := List.all_eq_true.1 hall j (List.mem_range.2 hlt)
      simp only [hoj, Bool.or_eq_true, decide_eq_true_eq] at h3
      rcases h3 with h3 | h3
      · omega
      · exact aft_of h3) hn
    (fun i hi oz hoz => by
      simp only [hoz] at hzz
      exact aft_of (List.all_eq_true.1 hzz i (List.mem_range.2 hi))) (l.drop n) (fun j => by simp [List.getElem?_drop]) hJ
    (l.take n) 0 (Array.replicate l.toArray.size false) a (fun j hj => by rw [htk] at hj; simp [hj]) (by omega) ⟨by simp, fun j hj => by simp at hj ⊢; simp [hj]⟩ h
  refine wp_region_any hm ?_
  have hlen : (l.take n).length + (l.drop n).length = l.toArray.size := by simp at hn ⊢; omega
  rw [hlen] at H
  exact wpAny_of_I hE _ _ _ _ rfl H

/-- The same, the draw behind a letter. -/
theorem wp_region_looks {id : Nat} {a : Act} {w : World} {l : List Oper} (n z : Nat) (J : World → Prop) (E : List PanicEntry → World → Prop) (hE : ∀ c a' w, a'.defers = a.defers → E c w → Q (.panic c) a' w)
    (hJ : ∀ w', RowKit.Below w.heap.size w w' → J w') (hm : P.follows .mixedOrders = true) (hB : lexQ .any l.toArray = true) (hT : chainB .any l.toArray n z = true)
    (h : ∀ wd : World, RowKit.Below w.heap.size w wd → wpH P l.toArray J (fun a => wpI P l.toArray J z Q E n (l.drop n) a wd) (l.take n) a) : (Code.region id l.toArray true).wp P Q a w :=
  have hd : RowKit.Below w.heap.size w { w with drawn := w.drawn + 1 } := ⟨rfl, rfl, rfl, Nat.le_refl _, fun _ _ => rfl⟩
  wp_region_first n z J E hE (hJ _ hd) hm hB hT (h _ hd)

theorem wpH_some {K : Act → Prop} {o : Oper} {rest : List Oper} {a : Act} {c : Value} (hw : Region.wanted o (yielded ops a.tmps) = true) (hrun : ∀ w, J w → (execOp a.eval o).run P w = .ok (.value c) w)
    (h : ∀ K' : Act → Prop, (∀ a, wpH P ops J K rest a → K' a) → K' (a.put o.dst c)) : wpH P ops J K (o :: rest) a := by
  unfold wpH
  rw [if_pos hw]
  exact ⟨c, hrun, h _ (fun _ h => h)⟩
theorem wpH_nil {K : Act → Prop} {a : Act} (h : K a) : wpH P ops J K [] a := h
theorem wpI_step {k : Nat} {o : Oper} {rest : List Oper} {a : Act} {w : World} (hw : Region.wanted o (yielded ops a.tmps) = true) (h : ∀ K : Act → World → Prop, (∀ a w, (k ≠ z → J w) → wpI P ops J z Q E (k + 1) rest a w → K a w) → pUpon P E o a K ((execOp a.eval o).run P w)) : wpI P ops J z Q E k (o :: rest) a w := by
  unfold wpI
  rw [if_pos hw]
  exact h _ (fun _ _ h1 h2 => ⟨h1, h2⟩)
theorem wpI_nil {k : Nat} {a : Act} {w : World} (h : Q .normal a w) : wpI P ops J z Q E k [] a w := h
end
end Go.First
