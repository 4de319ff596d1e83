/-
  Proved here, over any program: the law of XTail where each operation that turns the world has a relation of its own (an append in place may use up
  what another operation made): a fact need only last under the other operations' relations.
-/
import Derived.Test.YtckdcjheflgmdaaTail
namespace Go.LooseT
open Go Go.Loose
set_option linter.unusedVariables false

section
variable (P : Program) (md : Region.Mode) (ops : Array Oper) (R : World → World → Prop) (T : Nat → World → World → Prop) (w0 : World) (S : Nat → Option (Value → World → Prop))

def UponAt (k : Nat) (o : Oper) (a : Act) (D : Facts) (s : Value → World → Prop) : Prop := ∀ w, R w0 w → Needs md o D w → Upon P (T k) s w ((execOp a.eval o).run P w)

/-- Operation k in state (a, D), where it is wanted. -/
def One (k : Nat) (o : Oper) (a : Act) (D : Facts) (next : Act → Facts → Prop) : Prop :=
  match S k with
  | none => ∃ c, StillAt P md R w0 o a D c ∧ next (a.put o.dst c) D
  | some s => UponAt P md R T w0 k o a D s ∧ ∀ v w, R w0 w → (∀ j, D j w) → s v w → next (a.put o.dst v) (upd D k (s v))

/-- The lexical walk. -/
def wpL (Q : Act → Facts → Prop) : Nat → List Oper → Act → Facts → Prop
  | _, [], a, D => Q a D
  | k, o :: rest, a, D =>
    if Region.wanted o (yielded ops a.tmps) then One P md R T w0 S k o a D (wpL Q (k + 1) rest) else wpL Q (k + 1) rest (a.put o.dst undef) D

def lOp (k : Nat) (K : Act → Facts → Prop) (a : Act) (D : Facts) : Prop :=
  match ops[k]? with
  | none => K a D
  | some o => if Region.wanted o (yielded ops a.tmps) then One P md R T w0 S k o a D K else K (a.put o.dst undef) D

end

section
variable {P : Program} {md : Region.Mode} {ops : Array Oper} {R : World → World → Prop} {T : Nat → World → World → Prop} {w0 : World} {S : Nat → Option (Value → World → Prop)}

theorem One.mono {k : Nat} {o : Oper} {a : Act} {D : Facts} {K K' : Act → Facts → Prop} (h : ∀ a D, K a D → K' a D) (hh : One P md R T w0 S k o a D K) : One P md R T w0 S k o a D K' := by
  unfold One at *
  split at hh
  · obtain ⟨c, h1, h2⟩ := hh; exact ⟨c, h1, h _ _ h2⟩
  · exact ⟨hh.1, fun v w hw hD hs => h _ _ (hh.2 v w hw hD hs)⟩

theorem lOp.mono {k : Nat} {a : Act} {D : Facts} {K K' : Act → Facts → Prop} (h : ∀ a D, K a D → K' a D) (hh : lOp P md ops R T w0 S k K a D) : lOp P md ops R T w0 S k K' a D := by
  unfold lOp at *
  split
  · exact h _ _ (by simpa [*] using hh)
  · rename_i o ho
    simp only [ho] at hh
    split
    · rename_i hw; simp only [hw, if_true] at hh; exact hh.mono h
    · rename_i hw; simp only [hw] at hh; exact h _ _ hh

/-- The facts last. -/
def Lasts (T : Nat → World → World → Prop) (S : Nat → Option (Value → World → Prop)) : Prop := ∀ k s, S k = some s → ∀ i v w w', i ≠ k → T i w w' → s v w → s v w'

/-- All facts of D last. -/
def LastsD (T : Nat → World → World → Prop) (D : Facts) : Prop := ∀ i j w w', i ≠ j → T i w w' → D j w → D j w'

theorem LastsD.upd {D : Facts} (h : LastsD T D) (hS : Lasts T S) {k : Nat} {s : Value → World → Prop} (hk : S k = some s) (v : Value) : LastsD T (upd D k (s v)) := by
  intro i j w w' hij ht hj
  unfold Loose.upd at *
  split
  · rename_i e; rw [if_pos e] at hj; exact hS k s hk i v w w' (by rw [← e]; exact hij) ht hj
  · rename_i e; rw [if_neg e] at hj; exact h i j w w' hij ht hj

theorem LastsD.all {D : Facts} (h : LastsD T D) {k : Nat} (hun : ∀ w, D k w) {w w' : World} (ht : T k w w') (hD : ∀ j, D j w) : ∀ j, D j w' := fun j => by
  by_cases e : j = k
  · subst e; exact hun w'
  · exact h k j w w' (Ne.symm e) ht (hD j)

/-- From the class to the machine. -/
theorem wpOp_of_lOp {i : Nat} {a : Act} {D : Facts} {K : Act → Facts → Prop} {K' : Act → World → Prop} {Q' : Exit → Act → World → Prop} {w : World}
    (hR : ∀ k a b c, R a b → T k b c → R a c) (hS : Lasts T S) (hDl : LastsD T D) (hun : ∀ w, D i w) (hw : R w0 w) (hD : ∀ j, D j w)
    (h : ∀ a D' w', R w0 w' → LastsD T D' → (∀ j, j ≠ i → D' j = D j) → (∀ j, D' j w') → K a D' → K' a w') (hh : lOp P md ops R T w0 S i K a D) : wpOp P ops Q' i K' a w := by
  unfold lOp at hh
  unfold wpOp
  split
  · rename_i ho; simp only [ho] at hh; exact h _ _ _ hw hDl (fun _ _ => rfl) hD hh
  · rename_i o ho
    simp only [ho] at hh
    split
    · rename_i hwt
      simp only [hwt, if_true] at hh
      refine .inl ?_
      unfold One at hh
      unfold Oper.wp
      split at hh
      · obtain ⟨c, h1, h2⟩ := hh
        have h3 := h1 w hw (fun e _ _ => hD _)
        generalize (execOp a.eval o).run P w = r at h3
        cases r with
        | ok n w' =>
          cases n <;> simp only [Still] at h3
          · obtain ⟨rfl, rfl⟩ := h3; simp only [Oper.upon]; exact h _ _ _ hw hDl (fun _ _ => rfl) hD h2
          · obtain ⟨rfl, rfl⟩ := h3; simp only [Oper.upon]; exact h _ _ _ hw hDl (fun _ _ => rfl) hD h2
        | halt x w' => simp only [Still] at h3
      · rename_i s hs
        obtain ⟨h1, h2⟩ := hh
        have h3 := h1 w hw (fun e _ _ => hD _)
        generalize (execOp a.eval o).run P w = r at h3
        cases r with
        | ok n w' =>
          cases n <;> simp only [Upon] at h3
          · obtain ⟨h4, h5⟩ := h3
            simp only [Oper.upon]
            have hw' := hR _ _ _ _ hw h4
            have hD' : ∀ j, D j w' := hDl.all hun h4 hD
            exact h _ _ _ hw' (hDl.upd hS hs _) (fun j hj => by funext w; exact upd_ne hj) (upd_all hD' h5) (h2 _ _ hw' hD' h5)
          · obtain ⟨h4, hc⟩ := h3
            simp only [Oper.upon]
            refine hc.mono fun e w'' ⟨u, he, h6, h5⟩ => ?_
            subst he
            have hw' := hR _ _ _ _ (hR _ _ _ _ hw h4) h6
            have hD' : ∀ j, D j w'' := hDl.all hun h6 (hDl.all hun h4 hD)
            exact h _ _ _ hw' (hDl.upd hS hs _) (fun j hj => by funext w; exact upd_ne hj) (upd_all hD' h5) (h2 _ _ hw' hD' h5)
        | halt x w' => simp only [Upon] at h3
    · rename_i hwt; simp only [hwt] at hh; exact h _ _ _ hw hDl (fun _ _ => rfl) hD hh

/-- What operation 'oi' (number i) is, in state (a, D): told apart from what follows. -/
inductive Is (P : Program) (md : Region.Mode) (ops : Array Oper) (R : World → World → Prop) (T : Nat → World → World → Prop) (w0 : World) (S : Nat → Option (Value → World → Prop)) (i : Nat) (oi : Oper) (a : Act) (D : Facts) : Prop
  | not (h : Region.wanted oi (yielded ops a.tmps) = false)
  | still (h : Region.wanted oi (yielded ops a.tmps) = true) (hs : S i = none) (c : Value) (hc : StillAt P md R w0 oi a D c)
  | upon (h : Region.wanted oi (yielded ops a.tmps) = true) (s : Value → World → Prop) (hs : S i = some s) (hc : UponAt P md R T w0 i oi a D s)

theorem UponAt.of {k : Nat} {o : Oper} {a a' : Act} {D D' : Facts} {s : Value → World → Prop} (he : execOp a'.eval o = execOp a.eval o) (hN : ∀ w, Needs md o D' w → Needs md o D w) (h : UponAt P md R T w0 k o a D s) : UponAt P md R T w0 k o a' D' s := by
  intro w hw hn; rw [he]; exact h w hw (hN w hn)

/-- A world in which an operation's fact holds. -/
theorem UponAt.gives {k : Nat} {o : Oper} {a : Act} {D : Facts} {s : Value → World → Prop} (hR : ∀ k a b c, R a b → T k b c → R a c) (hl : LastsD T D) (hun : ∀ w, D k w) {w : World} (hw : R w0 w) (hD : ∀ j, D j w)
    (h : UponAt P md R T w0 k o a D s) : ∃ v w', R w0 w' ∧ (∀ j, D j w') ∧ s v w' := by
  have h3 := h w hw (fun e _ _ => hD _)
  generalize (execOp a.eval o).run P w = r at h3
  cases r with
  | ok n w' =>
    cases n <;> simp only [Upon] at h3
    · exact ⟨_, w', hR _ _ _ _ hw h3.1, hl.all hun h3.1 hD, h3.2⟩
    · obtain ⟨h4, hc⟩ := h3
      obtain ⟨e, w'', fr, ⟨u, _, h5, h6⟩, _⟩ := hc []
      exact ⟨u, w'', hR _ _ _ _ (hR _ _ _ _ hw h4) h5, hl.all hun h5 (hl.all hun h4 hD), h6⟩
  | halt x w' => simp only [Upon] at h3

/-- What follows operation i. -/
def Then (P : Program) (md : Region.Mode) (ops : Array Oper) (R : World → World → Prop) (T : Nat → World → World → Prop) (w0 : World) (S : Nat → Option (Value → World → Prop)) (i : Nat) (oi : Oper) (a : Act) (D : Facts) (K : Act → Facts → Prop) : Prop :=
  (Region.wanted oi (yielded ops a.tmps) = false → K (a.put oi.dst undef) D) ∧
  (Region.wanted oi (yielded ops a.tmps) = true → S i = none → ∀ c, StillAt P md R w0 oi a D c → K (a.put oi.dst c) D) ∧
  (Region.wanted oi (yielded ops a.tmps) = true → ∀ s, S i = some s → ∀ v w, R w0 w → (∀ j, D j w) → s v w → K (a.put oi.dst v) (upd D i (s v)))

theorem lOp_of {i : Nat} {oi : Oper} {a : Act} {D : Facts} {K : Act → Facts → Prop} (hi : ops[i]? = some oi) (h : Is P md ops R T w0 S i oi a D) (hk : Then P md ops R T w0 S i oi a D K) : lOp P md ops R T w0 S i K a D := by
  unfold lOp
  simp only [hi]
  cases h with
  | not h => simp only [h, Bool.false_eq_true, if_false]; exact hk.1 h
  | still h hs c hc => simp only [h, if_true, One, hs]; exact ⟨c, hc, hk.2.1 h hs c hc⟩
  | upon h s hs hc => simp only [h, if_true, One, hs]; exact ⟨hc, hk.2.2 h s hs⟩

theorem of_lOp {i : Nat} {oi : Oper} {a : Act} {D : Facts} {K : Act → Facts → Prop} (hi : ops[i]? = some oi) {w : World} (hw : R w0 w) (hD : ∀ j, D j w) (h : lOp P md ops R T w0 S i K a D) :
    Is P md ops R T w0 S i oi a D ∧ Then P md ops R T w0 S i oi a D K := by
  unfold lOp at h
  simp only [hi] at h
  by_cases hwt : Region.wanted oi (yielded ops a.tmps) = true
  · simp only [hwt, if_true, One] at h
    split at h
    · rename_i hs
      obtain ⟨c, h1, h2⟩ := h
      exact ⟨.still hwt hs c h1, fun h => by (rw [hwt] at h; cases h), fun _ _ c' h' => by rw [StillAt.unique hw hD h' h1]; exact h2, fun _ s hs' => by (rw [hs] at hs'; cases hs')⟩
    · rename_i s hs
      exact ⟨.upon hwt s hs h.1, fun h => by (rw [hwt] at h; cases h), fun _ hs' => by (rw [hs] at hs'; cases hs'), fun _ s' hs' => by rw [hs] at hs'; cases hs'; exact h.2⟩
  · simp only [hwt] at h
    have hwf : Region.wanted oi (yielded ops a.tmps) = false := by simpa using hwt
    exact ⟨.not hwf, fun _ => h, fun h => absurd h hwt, fun h => absurd h hwt⟩

theorem Is.of {i : Nat} {oi : Oper} {a a' : Act} {D D' : Facts} (hwt : Region.wanted oi (yielded ops a'.tmps) = Region.wanted oi (yielded ops a.tmps)) (he : execOp a'.eval oi = execOp a.eval oi)
    (hN : ∀ w, Needs md oi D' w → Needs md oi D w) (h : Is P md ops R T w0 S i oi a D) : Is P md ops R T w0 S i oi a' D' := by
  cases h with
  | not h => exact .not (hwt.trans h)
  | still h hs c hc => exact .still (hwt.trans h) hs c (hc.of he hN)
  | upon h s hs hc => exact .upon (hwt.trans h) s hs (hc.of he hN)

end

section
variable (P : Program) (md : Region.Mode) (ops : Array Oper) (R : World → World → Prop) (T : Nat → World → World → Prop) (w0 : World) (S : Nat → Option (Value → World → Prop)) (Q : Exit → Act → World → Prop)

/-- The head over a class of worlds; the tail exactly. -/
def wpAnyT (n : Nat) : Nat → Array Bool → Act → Facts → Prop
  | 0, listed, a, D => ∀ w, R w0 w → (∀ j, D j w) → wpAnyV P md ops Q 0 listed a w
  | f + 1, listed, a, D => Region.ready md ops listed ≠ [] ∧ ((∃ j ∈ Region.ready md ops listed, n ≤ j) → ∀ w, R w0 w → (∀ j, D j w) → wpAnyV P md ops Q (f + 1) listed a w) ∧
    ∀ i ∈ Region.ready md ops listed, i < n → lOp P md ops R T w0 S i (wpAnyT n f (listed.setIfInBounds i true)) a D
end

section
variable {P : Program} {md : Region.Mode} {ops : Array Oper} {R : World → World → Prop} {T : Nat → World → World → Prop} {w0 : World} {S : Nat → Option (Value → World → Prop)} {Q : Exit → Act → World → Prop}

theorem wpAny_of_T {n : Nat} (hR : ∀ k a b c, R a b → T k b c → R a c) (hS : Lasts T S) : ∀ (fuel : Nat) (listed : Array Bool) (a : Act) (D : Facts) (w : World), R w0 w → LastsD T D → (∀ k w, listed.getD k true = false → D k w) → (∀ j, D j w) →
    wpAnyT P md ops R T w0 S Q n fuel listed a D → wpAny P md ops Q fuel listed a w
  | 0, _, _, _, _, hw, _, _, hD, h => wpAny_of_V _ _ _ _ (h _ hw hD)
  | fuel + 1, listed, a, D, w, hw, hl, hun, hD, h => by
    by_cases ht : ∃ j ∈ Region.ready md ops listed, n ≤ j
    · exact wpAny_of_V _ _ _ _ (h.2.1 ht w hw hD)
    · refine ⟨fun h0 => absurd h0 h.1, fun i hi => ?_⟩
      have hin : i < n := by
        rcases Nat.lt_or_ge i n with h' | h'
        · exact h'
        · exact absurd ⟨i, hi, h'⟩ ht
      have hiu := (mem_ready.1 hi).1
      refine wpOp_of_lOp hR hS hl (fun w => hun i w hiu) hw hD (fun a' D' w' hw' hl' he hD' => wpAny_of_T hR hS fuel _ a' D' w' hw' hl' (fun k w hk => ?_) hD') (h.2.2 i hi hin)
      have hik : i ≠ k := fun e => by
        subst e
        have hlt : i < listed.size := by
          rcases Nat.lt_or_ge i listed.size with h' | h'
          · exact h'
          · simp [Array.getElem?_eq_none h'] at hiu
        simp [hlt] at hk
      rw [he k (Ne.symm hik)]
      rw [getD_set_ne true hik] at hk
      exact hun k w hk

/-- A head's operation may be taken first. -/
theorem wpAnyT_first {n : Nat} (hR : ∀ k a b c, R a b → T k b c → R a c) (hS : Lasts T S) {i : Nat} {oi : Oper} (hi : ops[i]? = some oi) (hin : i < n) (hsel : ∀ (j : Nat) (o : Oper) cs b, ops[j]? = some o → o.op ≠ .select cs b)
    (hlate : ∀ j oj, n ≤ j → ops[j]? = some oj → lateB oi = true ∨ (reachM md ops 8 (aft md oj)).testBit i = true) :
    ∀ (fuel : Nat) (listed : Array Bool) (a : Act) (D : Facts),
      Closed md ops listed →
      (∀ j oj, ops[j]? = some oj → j ≠ i → listed.getD j true = false → (∀ e ∈ oj.after, Region.binds md e = true → e.on ≠ i) → oi.apart ops oj = true) →
      (∀ k w, listed.getD k true = false → D k w) →
      i ∈ Region.ready md ops listed → LastsD T D → (∃ w, R w0 w ∧ ∀ j, D j w) → Is P md ops R T w0 S i oi a D →
      Then P md ops R T w0 S i oi a D (wpAnyT P md ops R T w0 S Q n fuel (listed.setIfInBounds i true)) → wpAnyT P md ops R T w0 S Q n (fuel + 1) listed a D := by
  intro fuel
  -- a tail's operation ready now: the head's operation is a move
  have hV : ∀ (fuel : Nat) (listed : Array Bool) (a : Act) (D : Facts),
      Closed md ops listed →
      (∀ j oj, ops[j]? = some oj → j ≠ i → listed.getD j true = false → (∀ e ∈ oj.after, Region.binds md e = true → e.on ≠ i) → oi.apart ops oj = true) →
      i ∈ Region.ready md ops listed → LastsD T D → Is P md ops R T w0 S i oi a D →
      Then P md ops R T w0 S i oi a D (wpAnyT P md ops R T w0 S Q n fuel (listed.setIfInBounds i true)) →
      (∃ j ∈ Region.ready md ops listed, n ≤ j) → ∀ w, R w0 w → (∀ j, D j w) → wpAnyV P md ops Q (fuel + 1) listed a w := by
    intro fuel listed a D hcl hfree hr hl hy H ⟨j, hj, hnj⟩ w hw hD
    have hji : j ≠ i := by omega
    have hrj := ready_mono hj hji
    obtain ⟨_, oj, hoj, hall⟩ := mem_ready.1 hj
    have hun := (mem_ready.1 hr).1
    have hla : lateB oi = true := by
      rcases hlate j oj hnj hoj with h | h
      · exact h
      · have h1 := reach_listed hcl 8 _ (fun m hm => by obtain ⟨e, he, hb, rfl⟩ := aft_of hm; exact hall e he hb) i h
        rw [getD_both hun] at h1
        cases h1
    have fin : ∀ (c : Value) (D' : Facts), (∀ j, D' j w) → wpAnyT P md ops R T w0 S Q n fuel (listed.setIfInBounds i true) (a.put oi.dst c) D' → wpAnyV P md ops Q fuel (listed.setIfInBounds i true) (a.put oi.dst c) w := by
      intro c D' hD' h
      cases fuel with
      | zero => exact h w hw hD'
      | succ f => exact h.2.1 ⟨j, hrj, hnj⟩ w hw hD'
    cases hy with
    | not h => exact wpAnyV_first hi hsel _ _ _ _ hfree hr (.inl ⟨h, rfl⟩) (fin _ _ hD (H.1 h))
    | still h hs c hc =>
      have h3 := hc w hw (fun e _ _ => hD _)
      cases hrun : (execOp a.eval oi).run P w with
      | ok nx w' =>
        obtain ⟨rfl, hall', v, rfl⟩ := (fun w2 => late_run (w2 := w2) hla a.eval hrun) w
        rw [hrun] at h3
        simp only [Still] at h3
        obtain ⟨_, rfl⟩ := h3
        exact wpAnyV_first hi hsel _ _ _ _ hfree hr (.inr ⟨h, fun w2 => (late_run (w2 := w2) hla a.eval hrun).2.1⟩) (fin _ _ hD (H.2.1 h hs _ hc))
      | halt x w' => rw [hrun] at h3; simp only [Still] at h3
    | upon h s hs hc =>
      have h3 := hc w hw (fun e _ _ => hD _)
      cases hrun : (execOp a.eval oi).run P w with
      | ok nx w' =>
        obtain ⟨rfl, hall', v, rfl⟩ := (fun w2 => late_run (w2 := w2) hla a.eval hrun) w
        rw [hrun] at h3
        simp only [Upon] at h3
        exact wpAnyV_first hi hsel _ _ _ _ hfree hr (.inr ⟨h, fun w2 => (late_run (w2 := w2) hla a.eval hrun).2.1⟩) (fin _ _ (upd_all hD h3.2) (H.2.2 h s hs v _ hw hD h3.2))
      | halt x w' => rw [hrun] at h3; simp only [Upon] at h3
  induction fuel with
  | zero =>
    intro listed a D hcl hfree hunl hr hl hex hy H
    refine ⟨fun h => (by rw [h] at hr; cases hr), hV 0 listed a D hcl hfree hr hl hy H, fun j hj hjn => ?_⟩
    by_cases hji : j = i
    · subst hji; exact lOp_of hi hy H
    · have h1 := ready_mono hj hji
      obtain ⟨w, hw, hD⟩ := hex
      exfalso
      have h2 : Region.ready md ops (listed.setIfInBounds i true) = [] := by
        cases hy with
        | not h => exact (H.1 h w hw hD).1
        | still h hs c hc => exact (H.2.1 h hs c hc w hw hD).1
        | upon h s hs hc =>
          obtain ⟨v, w', hw', hD', hv⟩ := hc.gives hR hl (fun w => hunl i w (mem_ready.1 hr).1) hw hD
          exact (H.2.2 h s hs v w' hw' hD' hv w' hw' (upd_all hD' hv)).1
      rw [h2] at h1
      cases h1
  | succ fuel ih =>
    intro listed a D hcl hfree hunl hr hl hex hy H
    refine ⟨fun h => (by rw [h] at hr; cases hr), hV (fuel + 1) listed a D hcl hfree hr hl hy H, fun j hj hjn => ?_⟩
    by_cases hji : j = i
    · subst hji; exact lOp_of hi hy H
    have hij : i ≠ j := Ne.symm hji
    obtain ⟨hjun, oj, hoj, hall⟩ := mem_ready.1 hj
    have hnot : ∀ e ∈ oj.after, Region.binds md e = true → e.on ≠ i := fun e he hb heq => by
      have h1 := hall e he hb
      have h0 := (mem_ready.1 hr).1
      rw [heq] at h1
      rcases Nat.lt_or_ge i listed.size with h' | h'
      · simp [h'] at h0 h1; rw [h0] at h1; cases h1
      · simp [Array.getElem?_eq_none h'] at h1
    have hnoti : ∀ e ∈ oi.after, Region.binds md e = true → e.on ≠ j := fun e he hb heq => by
      obtain ⟨_, oi', hoi', halli⟩ := mem_ready.1 hr
      rw [hi] at hoi'
      cases hoi'
      have h1 := halli e he hb
      rw [heq] at h1
      rcases Nat.lt_or_ge j listed.size with h' | h'
      · simp [h'] at hjun h1; rw [hjun] at h1; cases h1
      · simp [Array.getElem?_eq_none h'] at h1
    obtain ⟨ap1, ap2, ap3⟩ := Oper.apart_spec (hfree j oj hoj hji hjun hnot)
    have hsi := fun cs b => hsel i oi cs b hi
    have hsj := fun cs b => hsel j oj cs b hoj
    have hfree' : ∀ k ok, ops[k]? = some ok → k ≠ i → (listed.setIfInBounds j true).getD k true = false →
        (∀ e ∈ ok.after, Region.binds md e = true → e.on ≠ i) → oi.apart ops ok = true := fun k ok hk hki hun hno => by
      refine hfree k ok hk hki ?_ hno
      by_cases hjk : j = k
      · subst hjk; exact hjun
      · rw [getD_set_ne true hjk] at hun; exact hun
    have hcomm : (listed.setIfInBounds i true).setIfInBounds j true = (listed.setIfInBounds j true).setIfInBounds i true := Array.setIfInBounds_comm _ _ hij
    have keepI : ∀ u D', (∀ w, Needs md oi D' w → Needs md oi D w) → Is P md ops R T w0 S i oi (a.put oj.dst u) D' := fun u D' hN =>
      hy.of (wanted_put oi a oj.dst u ap3) (execOp_put oi hsi a oj.dst u ap3) hN
    have backJ : ∀ v D', (∀ w, Needs md oj D w → Needs md oj D' w) → Is P md ops R T w0 S j oj (a.put oi.dst v) D' → Is P md ops R T w0 S j oj a D := fun v D' hN h =>
      h.of (wanted_put oj a oi.dst v ap1).symm (execOp_put oj hsj a oi.dst v ap1).symm hN
    obtain ⟨w, hw, hD⟩ := hex
    have hrj := ready_mono hj hji
    have hri : i ∈ Region.ready md ops (listed.setIfInBounds j true) := ready_mono hr hij
    have wj : ∀ v, Region.wanted oj (yielded ops (a.put oi.dst v).tmps) = Region.wanted oj (yielded ops a.tmps) := fun v => wanted_put oj a oi.dst v ap1
    have ej : ∀ v, execOp (a.put oi.dst v).eval oj = execOp a.eval oj := fun v => execOp_put oj hsj a oi.dst v ap1
    have ei : ∀ u, execOp (a.put oj.dst u).eval oi = execOp a.eval oi := fun u => execOp_put oi hsi a oj.dst u ap3
    have wi : ∀ u, Region.wanted oi (yielded ops (a.put oj.dst u).tmps) = Region.wanted oi (yielded ops a.tmps) := fun u => wanted_put oi a oj.dst u ap3
    have pc : ∀ v u, (a.put oi.dst v).put oj.dst u = (a.put oj.dst u).put oi.dst v := fun v u => Act.put_comm a v u ap2
    have isJ : Is P md ops R T w0 S j oj a D := by
      cases hy with
      | not h => exact backJ undef D (fun _ h => h) (of_lOp hoj hw hD ((H.1 h).2.2 j hrj hjn)).1
      | still h hs c hc => exact backJ c D (fun _ h => h) (of_lOp hoj hw hD ((H.2.1 h hs c hc).2.2 j hrj hjn)).1
      | upon h s hs hc =>
        obtain ⟨v, w', hw', hD', hv⟩ := hc.gives hR hl (fun w => hunl i w (mem_ready.1 hr).1) hw hD
        exact backJ v _ (fun _ h => (Needs.of hnot).2 h) (of_lOp hoj hw' (upd_all hD' hv) ((H.2.2 h s hs v w' hw' hD' hv).2.2 j hrj hjn)).1
    refine lOp_of hoj isJ ?_
    have main : ∀ u D', (∀ k w, (listed.setIfInBounds j true).getD k true = false → D' k w) → LastsD T D' → (∃ w, R w0 w ∧ ∀ j, D' j w) → (∀ w, Needs md oi D' w → Needs md oi D w) → (∀ w, Needs md oi D w → Needs md oi D' w) →
        (Region.wanted oi (yielded ops a.tmps) = false → wpAnyT P md ops R T w0 S Q n fuel ((listed.setIfInBounds i true).setIfInBounds j true) ((a.put oi.dst undef).put oj.dst u) D') →
        (Region.wanted oi (yielded ops a.tmps) = true → S i = none → ∀ c, StillAt P md R w0 oi a D c → wpAnyT P md ops R T w0 S Q n fuel ((listed.setIfInBounds i true).setIfInBounds j true) ((a.put oi.dst c).put oj.dst u) D') →
        (Region.wanted oi (yielded ops a.tmps) = true → ∀ s, S i = some s → ∀ v w, R w0 w → (∀ j, D' j w) → s v w → wpAnyT P md ops R T w0 S Q n fuel ((listed.setIfInBounds i true).setIfInBounds j true) ((a.put oi.dst v).put oj.dst u) (upd D' i (s v))) →
        wpAnyT P md ops R T w0 S Q n (fuel + 1) (listed.setIfInBounds j true) (a.put oj.dst u) D' := by
      intro u D' hunl' hl' hex' hN hN' h1 h2 h3
      refine ih (listed.setIfInBounds j true) (a.put oj.dst u) D' (hcl.set hj) hfree' hunl' hri hl' hex' (keepI u D' hN) ⟨?_, ?_, ?_⟩
      · intro h; rw [wi u] at h; have := h1 h; rw [hcomm, pc] at this; exact this
      · intro h hs c hc
        rw [wi u] at h
        have := h2 h hs c (hc.of (ei u).symm hN')
        rw [hcomm, pc] at this; exact this
      · intro h s hs v w hw hD hv
        rw [wi u] at h
        have := h3 h s hs v w hw hD hv
        rw [hcomm, pc] at this; exact this
    have hunlD : ∀ k w, (listed.setIfInBounds j true).getD k true = false → D k w := fun k w hk => by
      by_cases hjk : j = k
      · subst hjk; exact hunl _ _ hjun
      · rw [getD_set_ne true hjk] at hk; exact hunl k w hk
    refine ⟨?_, ?_, ?_⟩
    · intro hjw
      refine main undef D hunlD hl ⟨w, hw, hD⟩ (fun _ h => h) (fun _ h => h) ?_ ?_ ?_
      · intro h; exact (of_lOp hoj hw hD ((H.1 h).2.2 j hrj hjn)).2.1 (by rw [wj]; exact hjw)
      · intro h hs c hc; exact (of_lOp hoj hw hD ((H.2.1 h hs c hc).2.2 j hrj hjn)).2.1 (by rw [wj]; exact hjw)
      · intro h s hs v w' hw' hD' hv
        exact (of_lOp hoj hw' (upd_all hD' hv) ((H.2.2 h s hs v w' hw' hD' hv).2.2 j hrj hjn)).2.1 (by rw [wj]; exact hjw)
    · intro hjw hjs c hc
      refine main c D hunlD hl ⟨w, hw, hD⟩ (fun _ h => h) (fun _ h => h) ?_ ?_ ?_
      · intro h; exact (of_lOp hoj hw hD ((H.1 h).2.2 j hrj hjn)).2.2.1 (by rw [wj]; exact hjw) hjs c (hc.of (ej _) (fun _ h => h))
      · intro h hs c' hc'; exact (of_lOp hoj hw hD ((H.2.1 h hs c' hc').2.2 j hrj hjn)).2.2.1 (by rw [wj]; exact hjw) hjs c (hc.of (ej _) (fun _ h => h))
      · intro h s hs v w' hw' hD' hv
        exact (of_lOp hoj hw' (upd_all hD' hv) ((H.2.2 h s hs v w' hw' hD' hv).2.2 j hrj hjn)).2.2.1 (by rw [wj]; exact hjw) hjs c (hc.of (ej _) (fun _ h => (Needs.of hnot).1 h))
    · intro hjw s hjs u w1 hw1 hD1 hu
      have hunlU : ∀ k w, (listed.setIfInBounds j true).getD k true = false → upd D j (s u) k w := fun k w hk => by
        have hjk : j ≠ k := fun e => by
          subst e
          have hlt : j < listed.size := by
            rcases Nat.lt_or_ge j listed.size with h' | h'
            · exact h'
            · simp [Array.getElem?_eq_none h'] at hjun
          simp [hlt] at hk
        rw [upd_ne (Ne.symm hjk)]
        exact hunlD k w hk
      refine main u (upd D j (s u)) hunlU (hl.upd hS hjs u) ⟨w1, hw1, upd_all hD1 hu⟩ (fun _ h => (Needs.of hnoti).1 h) (fun _ h => (Needs.of hnoti).2 h) ?_ ?_ ?_
      · intro h; exact (of_lOp hoj hw hD ((H.1 h).2.2 j hrj hjn)).2.2.2 (by rw [wj]; exact hjw) s hjs u w1 hw1 hD1 hu
      · intro h hs c' hc'; exact (of_lOp hoj hw hD ((H.2.1 h hs c' hc').2.2 j hrj hjn)).2.2.2 (by rw [wj]; exact hjw) s hjs u w1 hw1 hD1 hu
      · intro h s' hs' v w' hw' hD' hv
        have hD0 : ∀ k, k ≠ j → D k w' := fun k hk => by have := hD' k; rwa [upd_ne hk] at this
        have huw : s u w' := by have := hD' j; simpa [upd] using this
        have hDw' : ∀ k, D k w' := fun k => by
          by_cases hk : k = j
          · subst hk; exact hunl _ _ hjun
          · exact hD0 k hk
        have := (of_lOp hoj hw' (upd_all hDw' hv) ((H.2.2 h s' hs' v w' hw' hDw' hv).2.2 j hrj hjn)).2.2.2 (by rw [wj]; exact hjw) s hjs u w' hw' (upd_all hDw' hv) huw
        rw [upd_comm hij] at this
        exact this

theorem wpAnyT_lex {n : Nat} (hR : ∀ k a b c, R a b → T k b c → R a c) (hS : Lasts T S) (hsel : Region.noSelect ops = true)
    (hs : ∀ j o, ops[j]? = some o → ∀ e ∈ o.after, Region.binds md e = true → e.on < j) (hp : ∀ i j oi oj, i < j → ops[i]? = some oi → ops[j]? = some oj → pairB md ops i oi oj = true)
    (hc : ∀ j oj, n < j → ops[j]? = some oj → ∃ e ∈ oj.after, Region.binds md e = true ∧ e.on = j - 1) (hn : n < ops.size)
    (hlate : ∀ i oi j oj, i < n → ops[i]? = some oi → n ≤ j → ops[j]? = some oj → lateB oi = true ∨ (reachM md ops 8 (aft md oj)).testBit i = true) (tl : List Oper) (htl : ∀ j, tl[j]? = ops[n + j]?) :
    ∀ (l : List Oper) (k : Nat) (listed : Array Bool) (a : Act) (D : Facts), (∀ j, j < l.length → l[j]? = ops[k + j]?) → k + l.length = n → FirstK ops.size k listed →
      (∀ k w, listed.getD k true = false → D k w) → LastsD T D → (∃ w, R w0 w ∧ ∀ j, D j w) →
      wpL P md ops R T w0 S (fun a' D' => ∀ w, R w0 w → (∀ j, D' j w) → wpVL P ops Q tl a' w) k l a D → wpAnyT P md ops R T w0 S Q n (l.length + tl.length) listed a D
  | [], k, listed, a, D, _, hk, hf, hun, hla, hex, h => by
    obtain rfl : k = n := by simpa using hk
    have hlen : tl.length = ops.size - k := by
      have h1 := htl (ops.size - k)
      rw [show k + (ops.size - k) = ops.size by omega, Array.getElem?_eq_none (Nat.le_refl _)] at h1
      have h2 : tl.length ≤ ops.size - k := by simpa using h1
      have h3 := htl (ops.size - k - 1)
      rw [show k + (ops.size - k - 1) = ops.size - 1 by omega, Array.getElem?_eq_getElem (by omega)] at h3
      have h4 : ops.size - k - 1 < tl.length := by
        rcases Nat.lt_or_ge (ops.size - k - 1) tl.length with h | h
        · exact h
        · rw [List.getElem?_eq_none h] at h3; cases h3
      omega
    have main : ∀ w, R w0 w → (∀ j, D j w) → wpAnyV P md ops Q tl.length listed a w := fun w hw hD => wpAnyV_seq hs hc tl k listed a w htl (by omega) (Nat.le_refl _) hf (h w hw hD)
    obtain ⟨t, ht⟩ : ∃ t, tl.length = t + 1 := ⟨tl.length - 1, by omega⟩
    rw [List.length_nil, Nat.zero_add, ht]
    rw [ht] at main
    refine ⟨fun h1 => ?_, fun _ => main, fun i hi hin => ?_⟩
    · have := ready_first (md := md) hn hf hs
      rw [h1] at this
      cases this
    · have := ready_tail (Nat.le_refl _) hf hc hi
      omega
  | o :: l, k, listed, a, D, hl, hk, hf, hun, hla, hex, h => by
    have h0 : ops[k]? = some o := by simpa using (hl 0 (by simp)).symm
    have hkn : k < n := by simp only [List.length_cons] at hk; omega
    have hr : k ∈ Region.ready md ops listed := ready_first (by omega) hf hs
    have hst : lOp P md ops R T w0 S k (wpL P md ops R T w0 S (fun a' D' => ∀ w, R w0 w → (∀ j, D' j w) → wpVL P ops Q tl a' w) (k + 1) l) a D := by unfold lOp; simp only [h0]; exact h
    obtain ⟨w, hw, hD⟩ := hex
    obtain ⟨hy, hK⟩ := of_lOp h0 hw hD hst
    have hlt : k < listed.size := by rw [hf.1]; omega
    have hl' : ∀ j, j < l.length → l[j]? = ops[k + 1 + j]? := fun j hj => by have := hl (j + 1) (by simp; omega); simpa [Nat.add_assoc, Nat.add_comm 1 j] using this
    have hunk : ∀ D' : Facts, (∀ j, j ≠ k → D' j = D j) → ∀ j w, (listed.setIfInBounds k true).getD j true = false → D' j w := fun D' hD' j w hj => by
      have hjk : k ≠ j := fun e => by subst e; simp [hlt] at hj
      rw [hD' j (Ne.symm hjk)]
      rw [getD_set_ne true hjk] at hj
      exact hun j w hj
    have hfree : ∀ j oj, ops[j]? = some oj → j ≠ k → listed.getD j true = false → (∀ e ∈ oj.after, Region.binds md e = true → e.on ≠ k) → o.apart ops oj = true := fun j oj hoj hjk hun' hno => by
      have hjl : j < ops.size := (Array.getElem?_eq_some_iff.1 hoj).1
      have h1 := hf.2 j hjl
      have hkj : k < j := by
        rcases Nat.lt_or_ge k j with h | h
        · exact h
        · simp [Array.getD_eq_getD_getElem?, h1, show j < k by omega] at hun'
      exact pairB_apart (hp k j o oj hkj h0 hoj) hno
    have hk' : k + 1 + l.length = n := by simp only [List.length_cons] at hk; omega
    rw [List.length_cons, show l.length + 1 + tl.length = (l.length + tl.length) + 1 by omega]
    refine wpAnyT_first hR hS h0 hkn (Region.noSelect_spec hsel) (fun j oj => hlate k o j oj hkn h0) (l.length + tl.length) listed a D (closed_first hf hs) hfree hun hr hla ⟨w, hw, hD⟩ hy ⟨?_, ?_, ?_⟩
    · exact fun h => wpAnyT_lex hR hS hsel hs hp hc hn hlate tl htl l (k + 1) _ _ _ hl' hk' (hf.next (by omega)) (hunk D fun _ _ => rfl) hla ⟨w, hw, hD⟩ (hK.1 h)
    · exact fun h hs' c hc' => wpAnyT_lex hR hS hsel hs hp hc hn hlate tl htl l (k + 1) _ _ _ hl' hk' (hf.next (by omega)) (hunk D fun _ _ => rfl) hla ⟨w, hw, hD⟩ (hK.2.1 h hs' c hc')
    · exact fun h s hs' v w' hw' hD' hv => wpAnyT_lex hR hS hsel hs hp hc hn hlate tl htl l (k + 1) _ _ _ hl' hk' (hf.next (by omega)) (hunk _ fun j hj => by funext w; exact upd_ne hj) (hla.upd hS hs' v) ⟨w', hw', upd_all hD' hv⟩ (hK.2.2 h s hs' v w' hw' hD' hv)

/-- The operations' relations: growth, but for those listed. -/
def tk : List (Nat × (World → World → Prop)) → Nat → World → World → Prop
  | [], _ => fun w w' => RowKit.Below w.heap.size w w'
  | (i, A) :: L, k => if k = i then A else tk L k

theorem lastsT_nil {X : List (Nat × (World → World → Prop))} : Lasts (tk X) (lk []) := fun k s h => by cases h
theorem lastsT_cons {X : List (Nat × (World → World → Prop))} {i : Nat} {s : Value → World → Prop} {L : List (Nat × (Value → World → Prop))} (h : ∀ j v w w', j ≠ i → tk X j w w' → s v w → s v w') (hL : Lasts (tk X) (lk L)) : Lasts (tk X) (lk ((i, s) :: L)) := by
  intro k t hk
  simp only [lk] at hk
  split at hk
  · rename_i e; cases hk; intro j v w w' hj; exact h j v w w' (by rw [← e]; exact hj)
  · exact hL k t hk
theorem lastsT_free {X : List (Nat × (World → World → Prop))} {i : Nat} {s : Value → World → Prop} {L : List (Nat × (Value → World → Prop))} (h : ∀ v w w', s v w → s v w') (hL : Lasts (tk X) (lk L)) : Lasts (tk X) (lk ((i, s) :: L)) := lastsT_cons (fun _ v w w' _ _ hs => h v w w' hs) hL

/-- A region whose stores come last, over worlds that grow, but for what the listed operations do. -/
theorem wp_region_tailT {id : Nat} {Q : Exit → Act → World → Prop} {a : Act} {w : World} {l : List Oper} (n : Nat) (X : List (Nat × (World → World → Prop))) (L : List (Nat × (Value → World → Prop)))
    (hX : ∀ k b c, w.heap.size ≤ b.heap.size → tk X k b c → RowKit.Below w.heap.size b c)
    (hS : Lasts (tk X) (lk L)) (hm : P.follows .mixedOrders = true) (hB : lexQ .any l.toArray = true) (hT : tailB .any l.toArray n = true)
    (h : wpL P .any l.toArray (fun a b : World => RowKit.Below w.heap.size a b ∧ w.heap.size ≤ b.heap.size) (tk X) w (lk L) (fun a' D' => ∀ w' : World, (RowKit.Below w.heap.size w w' ∧ w.heap.size ≤ w'.heap.size) → (∀ j, D' j w') → wpVL P l.toArray Q (l.drop n) a' w') 0 (l.take n) a (fun _ _ => True)) :
    (Code.region id l.toArray true).wp P Q a w := by
  unfold lexQ at hB
  rw [Bool.and_eq_true] at hB
  obtain ⟨h1, h2⟩ := hB
  obtain ⟨s1, s2⟩ := lexFromQ_spec _ _ h2
  unfold tailB at hT
  rw [Bool.and_eq_true, decide_eq_true_eq] at hT
  obtain ⟨hn, hall⟩ := hT
  have htail : ∀ j oj, n ≤ j → l.toArray[j]? = some oj → (j = n ∨ (aft .any oj).testBit (j - 1) = true) ∧ ∀ i oi, i < n → l.toArray[i]? = some oi → lateB oi = true ∨ (reachM .any l.toArray 8 (aft .any oj)).testBit i = true := by
    intro j oj hj hoj
    have hlt : j < l.toArray.size := (Array.getElem?_eq_some_iff.1 hoj).1
    have h3 := List.all_eq_true.1 hall j (List.mem_range.2 hlt)
    simp only [hoj, Bool.or_eq_true, Bool.and_eq_true, decide_eq_true_eq] at h3
    rcases h3 with h3 | ⟨h3, h4⟩
    · omega
    · refine ⟨h3, fun i oi hi hoi => ?_⟩
      have h5 := List.all_eq_true.1 h4 i (List.mem_range.2 hi)
      simp only [hoi, Bool.or_eq_true] at h5
      exact h5
  have hR : ∀ k a b c, (RowKit.Below w.heap.size a b ∧ w.heap.size ≤ b.heap.size) → tk X k b c → (RowKit.Below w.heap.size a c ∧ w.heap.size ≤ c.heap.size) := fun k a b c h1 h2 => by
    have h3 := hX k b c h1.2 h2
    exact ⟨RowKit.Below.trans h1.1 h3, Nat.le_trans h1.2 h3.size⟩
  have htk : (l.take n).length = n := by rw [List.length_take]; simp at hn; omega
  have H := wpAnyT_lex (P := P) (md := .any) (ops := l.toArray) (Q := Q) (n := n) (S := lk L) (w0 := w) (T := tk X) (R := fun a b : World => RowKit.Below w.heap.size a b ∧ w.heap.size ≤ b.heap.size) hR hS h1 (fun j o ho e he hb => by simpa using s1 j o (by simpa using ho) e he hb) (fun i j oi oj hij hi hj => by simpa using s2 i j oi oj hij (by simpa using hi) (by simpa using hj))
    (fun j oj hj hoj => by
      rcases (htail j oj (by omega) hoj).1 with h | h
      · omega
      · exact aft_of h) hn
    (fun i oi j oj hi hoi hj hoj => by
      exact (htail j oj hj hoj).2 i oi hi hoi) (l.drop n) (fun j => by simp [List.getElem?_drop])
    (l.take n) 0 (Array.replicate l.toArray.size false) a (fun _ _ => True) (fun j hj => by rw [htk] at hj; simp [hj]) (by omega) ⟨by simp, fun j hj => by simp at hj ⊢; simp [hj]⟩
    (fun _ _ _ => trivial) (fun _ _ _ _ _ _ h => h) ⟨w, ⟨RowKit.Below.refl _ _, Nat.le_refl _⟩, fun _ => trivial⟩ h
  refine wp_region_any hm ?_
  have hlen : (l.take n).length + (l.drop n).length = l.toArray.size := by simp at hn ⊢; omega
  rw [hlen] at H
  exact wpAny_of_T (w0 := w) hR hS _ _ _ (fun _ _ => True) _ ⟨⟨rfl, rfl, rfl, Nat.le_refl _, fun _ _ => rfl⟩, Nat.le_refl _⟩ (fun _ _ _ _ _ _ h => h) (fun _ _ _ => trivial) (fun _ => trivial) H

/-- The same over any class of worlds. -/
theorem wp_region_tailR {id : Nat} {Q : Exit → Act → World → Prop} {a : Act} {w : World} {l : List Oper} (n : Nat) (R : World → World → Prop) (T : Nat → World → World → Prop) (L : List (Nat × (Value → World → Prop)))
    (hR0 : R w w) (hRd : R w { w with drawn := w.drawn + 1 }) (hR : ∀ k a b c, R a b → T k b c → R a c)
    (hS : Lasts T (lk L)) (hm : P.follows .mixedOrders = true) (hB : lexQ .any l.toArray = true) (hT : tailB .any l.toArray n = true)
    (h : wpL P .any l.toArray R T w (lk L) (fun a' D' => ∀ w' : World, R w w' → (∀ j, D' j w') → wpVL P l.toArray Q (l.drop n) a' w') 0 (l.take n) a (fun _ _ => True)) :
    (Code.region id l.toArray true).wp P Q a w := by
  unfold lexQ at hB
  rw [Bool.and_eq_true] at hB
  obtain ⟨h1, h2⟩ := hB
  obtain ⟨s1, s2⟩ := lexFromQ_spec _ _ h2
  unfold tailB at hT
  rw [Bool.and_eq_true, decide_eq_true_eq] at hT
  obtain ⟨hn, hall⟩ := hT
  have htail : ∀ j oj, n ≤ j → l.toArray[j]? = some oj → (j = n ∨ (aft .any oj).testBit (j - 1) = true) ∧ ∀ i oi, i < n → l.toArray[i]? = some oi → lateB oi = true ∨ (reachM .any l.toArray 8 (aft .any oj)).testBit i = true := by
    intro j oj hj hoj
    have hlt : j < l.toArray.size := (Array.getElem?_eq_some_iff.1 hoj).1
    have h3 := List.all_eq_true.1 hall j (List.mem_range.2 hlt)
    simp only [hoj, Bool.or_eq_true, Bool.and_eq_true, decide_eq_true_eq] at h3
    rcases h3 with h3 | ⟨h3, h4⟩
    · omega
    · refine ⟨h3, fun i oi hi hoi => ?_⟩
      have h5 := List.all_eq_true.1 h4 i (List.mem_range.2 hi)
      simp only [hoi, Bool.or_eq_true] at h5
      exact h5
  have htk : (l.take n).length = n := by rw [List.length_take]; simp at hn; omega
  have H := wpAnyT_lex (P := P) (md := .any) (ops := l.toArray) (Q := Q) (n := n) (S := lk L) (w0 := w) (T := T) (R := R) hR hS h1 (fun j o ho e he hb => by simpa using s1 j o (by simpa using ho) e he hb) (fun i j oi oj hij hi hj => by simpa using s2 i j oi oj hij (by simpa using hi) (by simpa using hj))
    (fun j oj hj hoj => by
      rcases (htail j oj (by omega) hoj).1 with h | h
      · omega
      · exact aft_of h) hn
    (fun i oi j oj hi hoi hj hoj => by
      exact (htail j oj hj hoj).2 i oi hi hoi) (l.drop n) (fun j => by simp [List.getElem?_drop])
    (l.take n) 0 (Array.replicate l.toArray.size false) a (fun _ _ => True) (fun j hj => by rw [htk] at hj; simp [hj]) (by omega) ⟨by simp, fun j hj => by simp at hj ⊢; simp [hj]⟩
    (fun _ _ _ => trivial) (fun _ _ _ _ _ _ h => h) ⟨w, hR0, fun _ => trivial⟩ h
  refine wp_region_any hm ?_
  have hlen : (l.take n).length + (l.drop n).length = l.toArray.size := by simp at hn ⊢; omega
  rw [hlen] at H
  exact wpAny_of_T (w0 := w) hR hS _ _ _ (fun _ _ => True) _ hRd (fun _ _ _ _ _ _ h => h) (fun _ _ _ => trivial) (fun _ => trivial) H

theorem wpL_none {Q : Act → Facts → Prop} {k : Nat} {o : Oper} {rest : List Oper} {a : Act} {D : Facts} {c : Value} (hS : S k = none) (hw : Region.wanted o (yielded ops a.tmps) = true) (hrun : StillAt P md R w0 o a D c)
    (h : ∀ K : Act → Facts → Prop, (∀ a D, wpL P md ops R T w0 S Q (k + 1) rest a D → K a D) → K (a.put o.dst c) D) : wpL P md ops R T w0 S Q k (o :: rest) a D := by
  simp only [wpL, hw, if_true, One, hS]
  exact ⟨c, hrun, h _ (fun _ _ h => h)⟩
theorem wpL_skip {Q : Act → Facts → Prop} {k : Nat} {o : Oper} {rest : List Oper} {a : Act} {D : Facts} (hw : Region.wanted o (yielded ops a.tmps) = false)
    (h : ∀ K : Act → Facts → Prop, (∀ a D, wpL P md ops R T w0 S Q (k + 1) rest a D → K a D) → K (a.put o.dst undef) D) : wpL P md ops R T w0 S Q k (o :: rest) a D := by
  simp only [wpL, hw, Bool.false_eq_true, if_false]
  exact h _ (fun _ _ h => h)
theorem wpL_some {Q : Act → Facts → Prop} {k : Nat} {o : Oper} {rest : List Oper} {a : Act} {D : Facts} {s : Value → World → Prop} (hS : S k = some s) (hw : Region.wanted o (yielded ops a.tmps) = true) (hrun : UponAt P md R T w0 k o a D s)
    (h : ∀ v w, R w0 w → (∀ j, D j w) → s v w → ∀ K : Act → Facts → Prop, (∀ a D, wpL P md ops R T w0 S Q (k + 1) rest a D → K a D) → K (a.put o.dst v) (upd D k (s v))) : wpL P md ops R T w0 S Q k (o :: rest) a D := by
  simp only [wpL, hw, if_true, One, hS]
  exact ⟨hrun, fun v w h1 h2 h3 => h v w h1 h2 h3 _ (fun _ _ h => h)⟩
theorem wpL_nil {Q : Act → Facts → Prop} {k : Nat} {a : Act} {D : Facts} (h : Q a D) : wpL P md ops R T w0 S Q k [] a D := h
end
end Go.LooseT
