/-
  Proved here, over any program: a region that draws its order may be walked once, in the order of the text, if every operation either yields one value in every world of a class and leaves the world alone, or (a call, an allocation) yields a value of which a lasting fact holds and leaves a world that stands in the relation R to the one before. Conditions: R is a preorder, the facts last under R, the lexical order is free.
  Proved here, over any program: a region that draws its order and whose stores come last may be walked once: its head in the order of the text over worlds that grow, then its tail exactly. Conditions: the head's order is free, each operation of the tail waits for the head (but for moves) and for the one before.
  Proved here, over any program: the law of XTail where each operation that turns the world has a relation of its own (an append in place may use up what another operation made): a fact need only last under the other operations' relations.
  Proved here, over any program: a region that draws its order whose head only looks (each operation of it yields one value in all worlds that keep J) and whose tail is a chain may be walked once, in the order of the text; the tail exactly. J is to be kept by each of the tail's operations but the last, which waits for the head. A call may panic, to a post that does not hang on the frame.
  Proved here, over any program: a region that draws its order, in which some operations only look (one value in all worlds that keep J) and the others are a chain, may be walked once: the looking ones first, then the chain, exactly. (As XFirst, the looking ones anywhere.)
  Proved here, over any program: a region that draws its order, with one operation (the pivot) that waits for all ahead of it and for which all behind it wait: the head over worlds that grow, the pivot exactly, the rest over worlds that grow from there.
-/
import Derived.Still
import Derived.Deep.Draws
import Derived.Below
import Derived.KernelRfl
import Derived.Test.YtbaidlkjbdeceaaGreatCore
import Derived.Deep.MidRow
namespace Go.Loose
open Go

abbrev Facts := Nat → World → Prop

def upd (D : Facts) (k : Nat) (f : World → Prop) : Facts := fun j w => if j = k then f w else D j w

section
variable (P : Program) (md : Region.Mode) (ops : Array Oper) (R : World → World → Prop) (w0 : World) (S : Nat → Option (Value → World → Prop))

/-- The facts on what an operation waits for. -/
def Needs (o : Oper) (D : Facts) (w : World) : Prop := ∀ e ∈ o.after, Region.binds md e = true → D e.on w

/-- What is asked of an operation of which a fact is told. -/
def Upon (s : Value → World → Prop) (w : World) : Result Next → Prop
  | .ok (.value u) w' => R w w' ∧ s u w'
  | .ok .skip w' => R w w' ∧ s undef w'
  | .ok (.enter f args) w' => R w w' ∧ Calls P f args w' (fun e w'' => ∃ u, e = .returned u ∧ R w' w'' ∧ s u w'')
  | _ => False

/-- One value, in every world of the class; the world as it was. -/
def Still (c : Value) (w : World) : Result Next → Prop
  | .ok (.value u) w' => w' = w ∧ u = c
  | .ok .skip w' => w' = w ∧ c = undef
  | _ => False

def StillAt (o : Oper) (a : Act) (D : Facts) (c : Value) : Prop := ∀ w, R w0 w → Needs md o D w → Still c w ((execOp a.eval o).run P w)
def UponAt (o : Oper) (a : Act) (D : Facts) (s : Value → World → Prop) : Prop := ∀ w, R w0 w → Needs md o D w → Upon P R s w ((execOp a.eval o).run P w)

/-- Operation k in state (a, D), where it is wanted. -/
def One (k : Nat) (o : Oper) (a : Act) (D : Facts) (next : Act → Facts → Prop) : Prop :=
  match S k with
  | none => ∃ c, StillAt P md R w0 o a D c ∧ next (a.put o.dst c) D
  | some s => UponAt P md R w0 o a D s ∧ ∀ v w, R w0 w → (∀ j, D j w) → s v w → next (a.put o.dst v) (upd D k (s v))

/-- The lexical walk. -/
def wpL (Q : Act → Facts → Prop) : Nat → List Oper → Act → Facts → Prop
  | _, [], a, D => Q a D
  | k, o :: rest, a, D =>
    if Region.wanted o (yielded ops a.tmps) then One P md R w0 S k o a D (wpL Q (k + 1) rest) else wpL Q (k + 1) rest (a.put o.dst undef) D

def lOp (k : Nat) (K : Act → Facts → Prop) (a : Act) (D : Facts) : Prop :=
  match ops[k]? with
  | none => K a D
  | some o => if Region.wanted o (yielded ops a.tmps) then One P md R w0 S k o a D K else K (a.put o.dst undef) D

def wpAnyL (Q : Act → Facts → Prop) : Nat → Array Bool → Act → Facts → Prop
  | 0, listed, a, D => Region.ready md ops listed = [] ∧ Q a D
  | fuel + 1, listed, a, D =>
    (Region.ready md ops listed = [] → Q a D) ∧
    ∀ i ∈ Region.ready md ops listed, lOp P md ops R w0 S i (wpAnyL Q fuel (listed.setIfInBounds i true)) a D
end

section
variable {P : Program} {md : Region.Mode} {ops : Array Oper} {R : World → World → Prop} {w0 : World} {S : Nat → Option (Value → World → Prop)}

theorem One.mono {k : Nat} {o : Oper} {a : Act} {D : Facts} {K K' : Act → Facts → Prop} (h : ∀ a D, K a D → K' a D) (hh : One P md R w0 S k o a D K) : One P md R w0 S k o a D K' := by
  unfold One at *
  split at hh
  · obtain ⟨c, h1, h2⟩ := hh; exact ⟨c, h1, h _ _ h2⟩
  · exact ⟨hh.1, fun v w hw hD hs => h _ _ (hh.2 v w hw hD hs)⟩

theorem lOp.mono {k : Nat} {a : Act} {D : Facts} {K K' : Act → Facts → Prop} (h : ∀ a D, K a D → K' a D) (hh : lOp P md ops R w0 S k K a D) : lOp P md ops R w0 S k K' a D := by
  unfold lOp at *
  split
  · exact h _ _ (by simpa [*] using hh)
  · rename_i o ho
    simp only [ho] at hh
    split
    · rename_i hw; simp only [hw, if_true] at hh; exact hh.mono h
    · rename_i hw; simp only [hw] at hh; exact h _ _ hh

/-- The facts last. -/
def Lasts (R : World → World → Prop) (S : Nat → Option (Value → World → Prop)) : Prop := ∀ k s, S k = some s → ∀ v w w', R w w' → s v w → s v w'

/-- All facts of D last. -/
def LastsD (R : World → World → Prop) (D : Facts) : Prop := ∀ j w w', R w w' → D j w → D j w'

theorem LastsD.upd {D : Facts} (h : LastsD R D) (hS : Lasts R S) {k : Nat} {s : Value → World → Prop} (hk : S k = some s) (v : Value) : LastsD R (upd D k (s v)) := by
  intro j w w' hw hj
  unfold Loose.upd at *
  split
  · rename_i e; simp only [e, if_true] at hj; exact hS k s hk v w w' hw hj
  · rename_i e; simp only [e, if_false] at hj; exact h j w w' hw hj

theorem upd_all {D : Facts} {k : Nat} {f : World → Prop} {w : World} (h : ∀ j, D j w) (hf : f w) : ∀ j, upd D k f j w := by
  intro j; unfold upd; split
  · exact hf
  · exact h j

theorem upd_ne {D : Facts} {k j : Nat} {f : World → Prop} {w : World} (h : j ≠ k) : upd D k f j w = D j w := by simp [upd, h]

/-- From the class to the machine. -/
theorem wpOp_of_lOp {i : Nat} {a : Act} {D : Facts} {K : Act → Facts → Prop} {K' : Act → World → Prop} {Q' : Exit → Act → World → Prop} {w : World}
    (hR : ∀ a b c, R a b → R b c → R a c) (hS : Lasts R S) (hDl : LastsD R D) (hw : R w0 w) (hD : ∀ j, D j w)
    (h : ∀ a D' w', R w0 w' → LastsD R D' → (∀ j, D' j w') → K a D' → K' a w') (hh : lOp P md ops R w0 S i K a D) : wpOp P ops Q' i K' a w := by
  unfold lOp at hh
  unfold wpOp
  split
  · rename_i ho; simp only [ho] at hh; exact h _ _ _ hw hDl hD hh
  · rename_i o ho
    simp only [ho] at hh
    split
    · rename_i hwt
      simp only [hwt, if_true] at hh
      refine .inl ?_
      unfold One at hh
      unfold Oper.wp
      split at hh
      · obtain ⟨c, h1, h2⟩ := hh
        have h3 := h1 w hw (fun e _ _ => hD _)
        generalize (execOp a.eval o).run P w = r at h3
        cases r with
        | ok n w' =>
          cases n <;> simp only [Still] at h3
          · obtain ⟨rfl, rfl⟩ := h3; simp only [Oper.upon]; exact h _ _ _ hw hDl hD h2
          · obtain ⟨rfl, rfl⟩ := h3; simp only [Oper.upon]; exact h _ _ _ hw hDl hD h2
        | halt x w' => simp only [Still] at h3
      · rename_i s hs
        obtain ⟨h1, h2⟩ := hh
        have h3 := h1 w hw (fun e _ _ => hD _)
        generalize (execOp a.eval o).run P w = r at h3
        cases r with
        | ok n w' =>
          cases n <;> simp only [Upon] at h3
          · obtain ⟨h4, h5⟩ := h3
            simp only [Oper.upon]
            have hw' := hR _ _ _ hw h4
            have hD' : ∀ j, D j w' := fun j => hDl j _ _ h4 (hD j)
            exact h _ _ _ hw' (hDl.upd hS hs _) (upd_all hD' h5) (h2 _ _ hw' hD' h5)
          · obtain ⟨h4, h5⟩ := h3
            simp only [Oper.upon]
            have hw' := hR _ _ _ hw h4
            have hD' : ∀ j, D j w' := fun j => hDl j _ _ h4 (hD j)
            exact h _ _ _ hw' (hDl.upd hS hs _) (upd_all hD' h5) (h2 _ _ hw' hD' h5)
          · obtain ⟨h4, hc⟩ := h3
            simp only [Oper.upon]
            refine hc.mono fun e w'' ⟨u, he, h6, h5⟩ => ?_
            subst he
            have hw' := hR _ _ _ hw (hR _ _ _ h4 h6)
            have hD' : ∀ j, D j w'' := fun j => hDl j _ _ (hR _ _ _ h4 h6) (hD j)
            exact h _ _ _ hw' (hDl.upd hS hs _) (upd_all hD' h5) (h2 _ _ hw' hD' h5)
        | halt x w' => simp only [Upon] at h3
    · rename_i hwt; simp only [hwt] at hh; exact h _ _ _ hw hDl hD hh

theorem wpAny_of_wpAnyL {Q : Act → Facts → Prop} {Q' : Exit → Act → World → Prop} (hR : ∀ a b c, R a b → R b c → R a c) (hS : Lasts R S)
    (hQ : ∀ a D w, R w0 w → (∀ j, D j w) → Q a D → Q' .normal a w) : ∀ (fuel : Nat) (listed : Array Bool) (a : Act) (D : Facts) (w : World), R w0 w → LastsD R D → (∀ j, D j w) →
    wpAnyL P md ops R w0 S Q fuel listed a D → wpAny P md ops Q' fuel listed a w
  | 0, _, _, _, _, hw, _, hD, h => ⟨h.1, hQ _ _ _ hw hD h.2⟩
  | fuel + 1, _, _, _, _, hw, hl, hD, h => ⟨fun h0 => hQ _ _ _ hw hD (h.1 h0), fun i hi =>
      wpOp_of_lOp hR hS hl hw hD (fun a' D' w' hw' hl' hD' => wpAny_of_wpAnyL hR hS hQ fuel _ a' D' w' hw' hl' hD') (h.2 i hi)⟩

/-- What operation 'oi' (number i) is, in state (a, D): told apart from what follows. -/
inductive Is (P : Program) (md : Region.Mode) (ops : Array Oper) (R : World → World → Prop) (w0 : World) (S : Nat → Option (Value → World → Prop)) (i : Nat) (oi : Oper) (a : Act) (D : Facts) : Prop
  | not (h : Region.wanted oi (yielded ops a.tmps) = false)
  | still (h : Region.wanted oi (yielded ops a.tmps) = true) (hs : S i = none) (c : Value) (hc : StillAt P md R w0 oi a D c)
  | upon (h : Region.wanted oi (yielded ops a.tmps) = true) (s : Value → World → Prop) (hs : S i = some s) (hc : UponAt P md R w0 oi a D s)

theorem Needs.of {o : Oper} {D : Facts} {k : Nat} {f : World → Prop} {w : World} (hno : ∀ e ∈ o.after, Region.binds md e = true → e.on ≠ k) : Needs md o (upd D k f) w ↔ Needs md o D w := by
  unfold Needs
  constructor
  · intro h e he hb; have := h e he hb; rwa [upd_ne (hno e he hb)] at this
  · intro h e he hb; rw [upd_ne (hno e he hb)]; exact h e he hb

theorem StillAt.of {o : Oper} {a a' : Act} {D D' : Facts} {c : Value} (he : execOp a'.eval o = execOp a.eval o) (hN : ∀ w, Needs md o D' w → Needs md o D w) (h : StillAt P md R w0 o a D c) : StillAt P md R w0 o a' D' c := by
  intro w hw hn; rw [he]; exact h w hw (hN w hn)

theorem UponAt.of {o : Oper} {a a' : Act} {D D' : Facts} {s : Value → World → Prop} (he : execOp a'.eval o = execOp a.eval o) (hN : ∀ w, Needs md o D' w → Needs md o D w) (h : UponAt P md R w0 o a D s) : UponAt P md R w0 o a' D' s := by
  intro w hw hn; rw [he]; exact h w hw (hN w hn)

/-- A world in which an operation's fact holds. -/
theorem UponAt.gives {o : Oper} {a : Act} {D : Facts} {s : Value → World → Prop} (hR : ∀ a b c, R a b → R b c → R a c) (hl : LastsD R D) {w : World} (hw : R w0 w) (hD : ∀ j, D j w)
    (h : UponAt P md R w0 o a D s) : ∃ v w', R w0 w' ∧ (∀ j, D j w') ∧ s v w' := by
  have h3 := h w hw (fun e _ _ => hD _)
  generalize (execOp a.eval o).run P w = r at h3
  cases r with
  | ok n w' =>
    cases n <;> simp only [Upon] at h3
    · exact ⟨_, w', hR _ _ _ hw h3.1, fun j => hl j _ _ h3.1 (hD j), h3.2⟩
    · exact ⟨_, w', hR _ _ _ hw h3.1, fun j => hl j _ _ h3.1 (hD j), h3.2⟩
    · obtain ⟨h4, hc⟩ := h3
      obtain ⟨e, w'', fr, ⟨u, _, h5, h6⟩, _⟩ := hc []
      exact ⟨u, w'', hR _ _ _ hw (hR _ _ _ h4 h5), fun j => hl j _ _ (hR _ _ _ h4 h5) (hD j), h6⟩
  | halt x w' => simp only [Upon] at h3

/-- Still operations yield one value alone. -/
theorem StillAt.unique {o : Oper} {a : Act} {D : Facts} {c c' : Value} {w : World} (hw : R w0 w) (hD : ∀ j, D j w) (h : StillAt P md R w0 o a D c) (h' : StillAt P md R w0 o a D c') : c = c' := by
  have h1 := h w hw (fun e _ _ => hD _)
  have h2 := h' w hw (fun e _ _ => hD _)
  generalize (execOp a.eval o).run P w = r at h1 h2
  cases r with
  | ok n w' => cases n <;> simp only [Still] at h1 h2 <;> (try exact h1.2.symm.trans h2.2) <;> exact h1.2.trans h2.2.symm
  | halt x w' => simp only [Still] at h1

/-- What follows operation i. -/
def Then (P : Program) (md : Region.Mode) (ops : Array Oper) (R : World → World → Prop) (w0 : World) (S : Nat → Option (Value → World → Prop)) (i : Nat) (oi : Oper) (a : Act) (D : Facts) (K : Act → Facts → Prop) : Prop :=
  (Region.wanted oi (yielded ops a.tmps) = false → K (a.put oi.dst undef) D) ∧
  (Region.wanted oi (yielded ops a.tmps) = true → S i = none → ∀ c, StillAt P md R w0 oi a D c → K (a.put oi.dst c) D) ∧
  (Region.wanted oi (yielded ops a.tmps) = true → ∀ s, S i = some s → ∀ v w, R w0 w → (∀ j, D j w) → s v w → K (a.put oi.dst v) (upd D i (s v)))

theorem lOp_of {i : Nat} {oi : Oper} {a : Act} {D : Facts} {K : Act → Facts → Prop} (hi : ops[i]? = some oi) (h : Is P md ops R w0 S i oi a D) (hk : Then P md ops R w0 S i oi a D K) : lOp P md ops R w0 S i K a D := by
  unfold lOp
  simp only [hi]
  cases h with
  | not h => simp only [h, Bool.false_eq_true, if_false]; exact hk.1 h
  | still h hs c hc => simp only [h, if_true, One, hs]; exact ⟨c, hc, hk.2.1 h hs c hc⟩
  | upon h s hs hc => simp only [h, if_true, One, hs]; exact ⟨hc, hk.2.2 h s hs⟩

theorem of_lOp {i : Nat} {oi : Oper} {a : Act} {D : Facts} {K : Act → Facts → Prop} (hi : ops[i]? = some oi) {w : World} (hw : R w0 w) (hD : ∀ j, D j w) (h : lOp P md ops R w0 S i K a D) :
    Is P md ops R w0 S i oi a D ∧ Then P md ops R w0 S i oi a D K := by
  unfold lOp at h
  simp only [hi] at h
  by_cases hwt : Region.wanted oi (yielded ops a.tmps) = true
  · simp only [hwt, if_true, One] at h
    split at h
    · rename_i hs
      obtain ⟨c, h1, h2⟩ := h
      exact ⟨.still hwt hs c h1, fun h => by (rw [hwt] at h; cases h), fun _ _ c' h' => by rw [StillAt.unique hw hD h' h1]; exact h2, fun _ s hs' => by (rw [hs] at hs'; cases hs')⟩
    · rename_i s hs
      exact ⟨.upon hwt s hs h.1, fun h => by (rw [hwt] at h; cases h), fun _ hs' => by (rw [hs] at hs'; cases hs'), fun _ s' hs' => by rw [hs] at hs'; cases hs'; exact h.2⟩
  · simp only [hwt] at h
    have hwf : Region.wanted oi (yielded ops a.tmps) = false := by simpa using hwt
    exact ⟨.not hwf, fun _ => h, fun h => absurd h hwt, fun h => absurd h hwt⟩

theorem Is.of {i : Nat} {oi : Oper} {a a' : Act} {D D' : Facts} (hwt : Region.wanted oi (yielded ops a'.tmps) = Region.wanted oi (yielded ops a.tmps)) (he : execOp a'.eval oi = execOp a.eval oi)
    (hN : ∀ w, Needs md oi D' w → Needs md oi D w) (h : Is P md ops R w0 S i oi a D) : Is P md ops R w0 S i oi a' D' := by
  cases h with
  | not h => exact .not (hwt.trans h)
  | still h hs c hc => exact .still (hwt.trans h) hs c (hc.of he hN)
  | upon h s hs hc => exact .upon (hwt.trans h) s hs (hc.of he hN)

theorem upd_comm {D : Facts} {i j : Nat} {f g : World → Prop} (h : i ≠ j) : upd (upd D i f) j g = upd (upd D j g) i f := by
  funext k w
  unfold upd
  by_cases h1 : k = j
  · subst h1; simp [Ne.symm h]
  · simp [h1]

/-- **An operation that may come up now may be taken first.** -/
theorem wpAnyL_first {Q : Act → Facts → Prop} (hR : ∀ a b c, R a b → R b c → R a c) (hS : Lasts R S) {i : Nat} {oi : Oper} (hi : ops[i]? = some oi) (hsel : ∀ (j : Nat) (o : Oper) cs b, ops[j]? = some o → o.op ≠ .select cs b) :
    ∀ (fuel : Nat) (listed : Array Bool) (a : Act) (D : Facts),
      (∀ j oj, ops[j]? = some oj → j ≠ i → listed.getD j true = false → (∀ e ∈ oj.after, Region.binds md e = true → e.on ≠ i) → oi.apart ops oj = true) →
      (∀ k w, listed.getD k true = false → D k w) →
      i ∈ Region.ready md ops listed → LastsD R D → (∃ w, R w0 w ∧ ∀ j, D j w) → Is P md ops R w0 S i oi a D →
      Then P md ops R w0 S i oi a D (wpAnyL P md ops R w0 S Q fuel (listed.setIfInBounds i true)) → wpAnyL P md ops R w0 S Q (fuel + 1) listed a D := by
  intro fuel
  induction fuel with
  | zero =>
    intro listed a D _ _ hr hl hex hy H
    refine ⟨fun h => (by rw [h] at hr; cases hr), fun j hj => ?_⟩
    by_cases hji : j = i
    · subst hji; exact lOp_of hi hy H
    · have h1 := ready_mono hj hji
      obtain ⟨w, hw, hD⟩ := hex
      exfalso
      have h2 : Region.ready md ops (listed.setIfInBounds i true) = [] := by
        cases hy with
        | not h => exact (H.1 h).1
        | still h hs c hc => exact (H.2.1 h hs c hc).1
        | upon h s hs hc =>
          obtain ⟨v, w', hw', hD', hv⟩ := hc.gives hR hl hw hD
          exact (H.2.2 h s hs v w' hw' hD' hv).1
      rw [h2] at h1
      cases h1
  | succ fuel ih =>
    intro listed a D hfree hunl hr hl hex hy H
    refine ⟨fun h => (by rw [h] at hr; cases hr), fun j hj => ?_⟩
    by_cases hji : j = i
    · subst hji; exact lOp_of hi hy H
    have hij : i ≠ j := Ne.symm hji
    obtain ⟨hjun, oj, hoj, hall⟩ := mem_ready.1 hj
    have hnot : ∀ e ∈ oj.after, Region.binds md e = true → e.on ≠ i := fun e he hb heq => by
      have h1 := hall e he hb
      have h0 := (mem_ready.1 hr).1
      rw [heq] at h1
      rcases Nat.lt_or_ge i listed.size with h' | h'
      · simp [h'] at h0 h1; rw [h0] at h1; cases h1
      · simp [Array.getElem?_eq_none h'] at h1
    have hnoti : ∀ e ∈ oi.after, Region.binds md e = true → e.on ≠ j := fun e he hb heq => by
      obtain ⟨_, oi', hoi', halli⟩ := mem_ready.1 hr
      rw [hi] at hoi'
      cases hoi'
      have h1 := halli e he hb
      rw [heq] at h1
      rcases Nat.lt_or_ge j listed.size with h' | h'
      · simp [h'] at hjun h1; rw [hjun] at h1; cases h1
      · simp [Array.getElem?_eq_none h'] at h1
    obtain ⟨ap1, ap2, ap3⟩ := Oper.apart_spec (hfree j oj hoj hji hjun hnot)
    have hsi := fun cs b => hsel i oi cs b hi
    have hsj := fun cs b => hsel j oj cs b hoj
    have hfree' : ∀ k ok, ops[k]? = some ok → k ≠ i → (listed.setIfInBounds j true).getD k true = false →
        (∀ e ∈ ok.after, Region.binds md e = true → e.on ≠ i) → oi.apart ops ok = true := fun k ok hk hki hun hno => by
      refine hfree k ok hk hki ?_ hno
      by_cases hjk : j = k
      · subst hjk; exact hjun
      · rw [getD_set_ne true hjk] at hun; exact hun
    have hcomm : (listed.setIfInBounds i true).setIfInBounds j true = (listed.setIfInBounds j true).setIfInBounds i true := Array.setIfInBounds_comm _ _ hij
    -- operation i, behind operation j
    have keepI : ∀ u D', (∀ w, Needs md oi D' w → Needs md oi D w) → Is P md ops R w0 S i oi (a.put oj.dst u) D' := fun u D' hN =>
      hy.of (wanted_put oi a oj.dst u ap3) (execOp_put oi hsi a oj.dst u ap3) hN
    -- operation j, ahead of operation i
    have backJ : ∀ v D', (∀ w, Needs md oj D w → Needs md oj D' w) → Is P md ops R w0 S j oj (a.put oi.dst v) D' → Is P md ops R w0 S j oj a D := fun v D' hN h =>
      h.of (wanted_put oj a oi.dst v ap1).symm (execOp_put oj hsj a oi.dst v ap1).symm hN
    obtain ⟨w, hw, hD⟩ := hex
    have hrj := ready_mono hj hji
    have hri : i ∈ Region.ready md ops (listed.setIfInBounds j true) := ready_mono hr hij
    -- what follows j, behind any value of i
    have wj : ∀ v, Region.wanted oj (yielded ops (a.put oi.dst v).tmps) = Region.wanted oj (yielded ops a.tmps) := fun v => wanted_put oj a oi.dst v ap1
    have ej : ∀ v, execOp (a.put oi.dst v).eval oj = execOp a.eval oj := fun v => execOp_put oj hsj a oi.dst v ap1
    have ei : ∀ u, execOp (a.put oj.dst u).eval oi = execOp a.eval oi := fun u => execOp_put oi hsi a oj.dst u ap3
    have wi : ∀ u, Region.wanted oi (yielded ops (a.put oj.dst u).tmps) = Region.wanted oi (yielded ops a.tmps) := fun u => wanted_put oi a oj.dst u ap3
    have pc : ∀ v u, (a.put oi.dst v).put oj.dst u = (a.put oj.dst u).put oi.dst v := fun v u => Act.put_comm a v u ap2
    -- Is j at (a, D)
    have isJ : Is P md ops R w0 S j oj a D := by
      cases hy with
      | not h => exact backJ undef D (fun _ h => h) (of_lOp hoj hw hD ((H.1 h).2 j hrj)).1
      | still h hs c hc => exact backJ c D (fun _ h => h) (of_lOp hoj hw hD ((H.2.1 h hs c hc).2 j hrj)).1
      | upon h s hs hc =>
        obtain ⟨v, w', hw', hD', hv⟩ := hc.gives hR hl hw hD
        exact backJ v _ (fun _ h => (Needs.of hnot).2 h) (of_lOp hoj hw' (upd_all hD' hv) ((H.2.2 h s hs v w' hw' hD' hv).2 j hrj)).1
    refine lOp_of hoj isJ ?_
    -- what follows j at (a, D): by the induction, i first
    have main : ∀ u D', (∀ k w, (listed.setIfInBounds j true).getD k true = false → D' k w) → LastsD R D' → (∃ w, R w0 w ∧ ∀ j, D' j w) → (∀ w, Needs md oi D' w → Needs md oi D w) → (∀ w, Needs md oi D w → Needs md oi D' w) →
        (Region.wanted oi (yielded ops a.tmps) = false → wpAnyL P md ops R w0 S Q fuel ((listed.setIfInBounds i true).setIfInBounds j true) ((a.put oi.dst undef).put oj.dst u) D') →
        (Region.wanted oi (yielded ops a.tmps) = true → S i = none → ∀ c, StillAt P md R w0 oi a D c → wpAnyL P md ops R w0 S Q fuel ((listed.setIfInBounds i true).setIfInBounds j true) ((a.put oi.dst c).put oj.dst u) D') →
        (Region.wanted oi (yielded ops a.tmps) = true → ∀ s, S i = some s → ∀ v w, R w0 w → (∀ j, D' j w) → s v w → wpAnyL P md ops R w0 S Q fuel ((listed.setIfInBounds i true).setIfInBounds j true) ((a.put oi.dst v).put oj.dst u) (upd D' i (s v))) →
        wpAnyL P md ops R w0 S Q (fuel + 1) (listed.setIfInBounds j true) (a.put oj.dst u) D' := by
      intro u D' hunl' hl' hex' hN hN' h1 h2 h3
      refine ih (listed.setIfInBounds j true) (a.put oj.dst u) D' hfree' hunl' hri hl' hex' (keepI u D' hN) ⟨?_, ?_, ?_⟩
      · intro h; rw [wi u] at h; have := h1 h; rw [hcomm, pc] at this; exact this
      · intro h hs c hc
        rw [wi u] at h
        have := h2 h hs c (hc.of (ei u).symm hN')
        rw [hcomm, pc] at this; exact this
      · intro h s hs v w hw hD hv
        rw [wi u] at h
        have := h3 h s hs v w hw hD hv
        rw [hcomm, pc] at this; exact this
    have hunlD : ∀ k w, (listed.setIfInBounds j true).getD k true = false → D k w := fun k w hk => by
      by_cases hjk : j = k
      · subst hjk; exact hunl _ _ hjun
      · rw [getD_set_ne true hjk] at hk; exact hunl k w hk
    refine ⟨?_, ?_, ?_⟩
    · -- j is not wanted
      intro hjw
      refine main undef D hunlD hl ⟨w, hw, hD⟩ (fun _ h => h) (fun _ h => h) ?_ ?_ ?_
      · intro h; exact (of_lOp hoj hw hD ((H.1 h).2 j hrj)).2.1 (by rw [wj]; exact hjw)
      · intro h hs c hc; exact (of_lOp hoj hw hD ((H.2.1 h hs c hc).2 j hrj)).2.1 (by rw [wj]; exact hjw)
      · intro h s hs v w' hw' hD' hv
        exact (of_lOp hoj hw' (upd_all hD' hv) ((H.2.2 h s hs v w' hw' hD' hv).2 j hrj)).2.1 (by rw [wj]; exact hjw)
    · intro hjw hjs c hc
      refine main c D hunlD hl ⟨w, hw, hD⟩ (fun _ h => h) (fun _ h => h) ?_ ?_ ?_
      · intro h; exact (of_lOp hoj hw hD ((H.1 h).2 j hrj)).2.2.1 (by rw [wj]; exact hjw) hjs c (hc.of (ej _) (fun _ h => h))
      · intro h hs c' hc'; exact (of_lOp hoj hw hD ((H.2.1 h hs c' hc').2 j hrj)).2.2.1 (by rw [wj]; exact hjw) hjs c (hc.of (ej _) (fun _ h => h))
      · intro h s hs v w' hw' hD' hv
        exact (of_lOp hoj hw' (upd_all hD' hv) ((H.2.2 h s hs v w' hw' hD' hv).2 j hrj)).2.2.1 (by rw [wj]; exact hjw) hjs c (hc.of (ej _) (fun _ h => (Needs.of hnot).1 h))
    · intro hjw s hjs u w1 hw1 hD1 hu
      have hunlU : ∀ k w, (listed.setIfInBounds j true).getD k true = false → upd D j (s u) k w := fun k w hk => by
        have hjk : j ≠ k := fun e => by
          subst e
          have hlt : j < listed.size := by
            rcases Nat.lt_or_ge j listed.size with h' | h'
            · exact h'
            · simp [Array.getElem?_eq_none h'] at hjun
          simp [hlt] at hk
        rw [upd_ne (Ne.symm hjk)]
        exact hunlD k w hk
      refine main u (upd D j (s u)) hunlU (hl.upd hS hjs u) ⟨w1, hw1, upd_all hD1 hu⟩ (fun _ h => (Needs.of hnoti).1 h) (fun _ h => (Needs.of hnoti).2 h) ?_ ?_ ?_
      · intro h; exact (of_lOp hoj hw hD ((H.1 h).2 j hrj)).2.2.2 (by rw [wj]; exact hjw) s hjs u w1 hw1 hD1 hu
      · intro h hs c' hc'; exact (of_lOp hoj hw hD ((H.2.1 h hs c' hc').2 j hrj)).2.2.2 (by rw [wj]; exact hjw) s hjs u w1 hw1 hD1 hu
      · intro h s' hs v w' hw' hD' hv
        have hD0 : ∀ k, k ≠ j → D k w' := fun k hk => by have := hD' k; rwa [upd_ne hk] at this
        have huw : s u w' := by have := hD' j; simpa [upd] using this
        have hDw' : ∀ k, D k w' := fun k => by
          by_cases hk : k = j
          · subst hk; exact hunl _ _ hjun
          · exact hD0 k hk
        have := (of_lOp hoj hw' (upd_all hDw' hv) ((H.2.2 h s' hs v w' hw' hDw' hv).2 j hrj)).2.2.2 (by rw [wj]; exact hjw) s hjs u w' hw' (upd_all hDw' hv) huw
        rw [upd_comm hij] at this
        exact this

theorem wpAnyL_lex {Q : Act → Facts → Prop} (hR : ∀ a b c, R a b → R b c → R a c) (hS : Lasts R S) (hs : Region.noSelect ops = true) :
    ∀ (l : List Oper) (k : Nat) (listed : Array Bool) (a : Act) (D : Facts), (∀ j, l[j]? = ops[k + j]?) →
    Region.lexFrom md ops l.length k listed = true → (∀ k w, listed.getD k true = false → D k w) → LastsD R D → (∃ w, R w0 w ∧ ∀ j, D j w) → wpL P md ops R w0 S Q k l a D → wpAnyL P md ops R w0 S Q l.length listed a D
  | [], _, _, _, _, _, hB, _, _, _, h => ⟨by simpa [Region.lexFrom] using hB, h⟩
  | o :: l, k, listed, a, D, hl, hB, hun, hla, hex, h => by
    have h0 : ops[k]? = some o := by simpa using (hl 0).symm
    simp only [List.length_cons, Region.lexFrom, Bool.and_eq_true] at hB
    obtain ⟨⟨hr, hf⟩, hB'⟩ := hB
    have hr' : k ∈ Region.ready md ops listed := by simpa using hr
    have hst : lOp P md ops R w0 S k (wpL P md ops R w0 S Q (k + 1) l) a D := by unfold lOp; simp only [h0]; exact h
    obtain ⟨w, hw, hD⟩ := hex
    obtain ⟨hy, hK⟩ := of_lOp h0 hw hD hst
    have hkl : listed.getD k true = false := (mem_ready.1 hr').1
    have hlt : k < listed.size := by
      rcases Nat.lt_or_ge k listed.size with h' | h'
      · exact h'
      · simp [Array.getElem?_eq_none h'] at hkl
    have hl' : ∀ j, l[j]? = ops[k + 1 + j]? := fun j => by have := hl (j + 1); simpa [Nat.add_assoc, Nat.add_comm 1 j] using this
    have hunk : ∀ D' : Facts, (∀ j, j ≠ k → D' j = D j) → ∀ j w, (listed.setIfInBounds k true).getD j true = false → D' j w := fun D' hD' j w hj => by
      have hjk : k ≠ j := fun e => by subst e; simp [hlt] at hj
      rw [hD' j (Ne.symm hjk)]
      rw [getD_set_ne true hjk] at hj
      exact hun j w hj
    refine wpAnyL_first hR hS h0 (Region.noSelect_spec hs) l.length listed a D (Region.free_spec h0 hf) hun hr' hla ⟨w, hw, hD⟩ hy ⟨?_, ?_, ?_⟩
    · exact fun h => wpAnyL_lex hR hS hs l (k + 1) _ _ _ hl' hB' (hunk D fun _ _ => rfl) hla ⟨w, hw, hD⟩ (hK.1 h)
    · exact fun h hs' c hc => wpAnyL_lex hR hS hs l (k + 1) _ _ _ hl' hB' (hunk D fun _ _ => rfl) hla ⟨w, hw, hD⟩ (hK.2.1 h hs' c hc)
    · exact fun h s hs' v w' hw' hD' hv => wpAnyL_lex hR hS hs l (k + 1) _ _ _ hl' hB' (hunk _ fun j hj => by funext w; exact upd_ne hj) (hla.upd hS hs' v) ⟨w', hw', upd_all hD' hv⟩ (hK.2.2 h s hs' v w' hw' hD' hv)

/-- **ONE WALK OF THE LEXICAL ORDER SERVES EVERY ORDER**, up to R. -/
theorem wp_region_loose {id : Nat} {Q : Exit → Act → World → Prop} {a : Act} {w : World} (hR : ∀ a b c, R a b → R b c → R a c) (hS : Lasts R S) (hm : P.follows .mixedOrders = true)
    (hB : Region.lexB .any ops = true) (hr : R w { w with drawn := w.drawn + 1 })
    (h : wpL P .any ops R w S (fun a' D' => ∀ w', R w w' → (∀ j, D' j w') → Q .normal a' w') 0 ops.toList a (fun _ _ => True)) : (Code.region id ops true).wp P Q a w := by
  simp only [Region.lexB, Bool.and_eq_true] at hB
  refine wp_region_any hm (wpAny_of_wpAnyL (Q := fun a' D' => ∀ w', R w w' → (∀ j, D' j w') → Q .normal a' w') hR hS (fun _ _ w' hw' hD h => h w' hw' hD) _ _ _ (fun _ _ => True) _ hr (fun _ _ _ _ h => h) (fun _ => trivial) ?_)
  have := wpAnyL_lex (P := P) (md := .any) hR hS hB.1 ops.toList 0 (Array.replicate ops.size false) a (fun _ _ => True) (by simp) (by simpa using hB.2) (fun _ _ _ => trivial) (fun _ _ _ _ h => h) ⟨_, hr, fun _ => trivial⟩ h
  simpa using this

/-! ### A cheap test that the lexical order is free -/

def bitOf : Option Tmp → Nat
  | some d => 2 ^ d
  | none => 0
def maskOf (l : List Nat) : Nat := l.foldl (fun m t => m ||| 2 ^ t) 0
def aft (md : Region.Mode) (o : Oper) : Nat := maskOf ((o.after.toList.filter (Region.binds md)).map (·.on))

theorem maskOf_acc (l : List Nat) : ∀ m t, (l.foldl (fun m t => m ||| 2 ^ t) m).testBit t = (m.testBit t || decide (t ∈ l)) := by
  induction l with
  | nil => intro m t; simp
  | cons x l ih =>
    intro m t
    rw [List.foldl_cons, ih, Nat.testBit_or, Nat.testBit_two_pow]
    by_cases h : x = t
    · subst h; simp
    · simp [h, Ne.symm h]
theorem maskOf_mem (l : List Nat) (t : Nat) : (maskOf l).testBit t = decide (t ∈ l) := by
  unfold maskOf; rw [maskOf_acc]; simp

theorem and_bit {m d : Nat} (h : (m &&& 2 ^ d == 0) = true) : m.testBit d = false := by
  have h0 : m &&& 2 ^ d = 0 := by simpa using h
  have : (m &&& 2 ^ d).testBit d = false := by rw [h0]; simp
  rw [Nat.testBit_and, Nat.testBit_two_pow_self, Bool.and_true] at this
  exact this

def pairB (md : Region.Mode) (ops : Array Oper) (i : Nat) (oi oj : Oper) : Bool :=
  (aft md oj).testBit i || ((maskOf (oj.looksAt ops) &&& bitOf oi.dst == 0) && (bitOf oj.dst &&& bitOf oi.dst == 0) && (maskOf (oi.looksAt ops) &&& bitOf oj.dst == 0))

def lexFromQ (md : Region.Mode) (ops : Array Oper) : Nat → List Oper → Bool
  | _, [] => true
  | i, o :: rest => decide (aft md o < 2 ^ i) && rest.all (pairB md ops i o) && lexFromQ md ops (i + 1) rest

def lexQ (md : Region.Mode) (ops : Array Oper) : Bool := Region.noSelect ops && lexFromQ md ops 0 ops.toList

theorem aft_mem {o : Oper} {e : Edge} (he : e ∈ o.after) (hb : Region.binds md e = true) : (aft md o).testBit e.on = true := by
  unfold aft
  rw [maskOf_mem, decide_eq_true_eq, List.mem_map]
  exact ⟨e, List.mem_filter.2 ⟨by simpa using he, hb⟩, rfl⟩
theorem aft_of {o : Oper} {i : Nat} (h : (aft md o).testBit i = true) : ∃ e ∈ o.after, Region.binds md e = true ∧ e.on = i := by
  unfold aft at h
  rw [maskOf_mem, decide_eq_true_eq, List.mem_map] at h
  obtain ⟨e, he, rfl⟩ := h
  obtain ⟨h1, h2⟩ := List.mem_filter.1 he
  exact ⟨e, by simpa using h1, h2, rfl⟩

theorem pairB_apart {i : Nat} {oi oj : Oper} (h : pairB md ops i oi oj = true) (hno : ∀ e ∈ oj.after, Region.binds md e = true → e.on ≠ i) : oi.apart ops oj = true := by
  unfold pairB at h
  rw [Bool.or_eq_true] at h
  rcases h with h | h
  · obtain ⟨e, he, hb, hi⟩ := aft_of h
    exact absurd hi (hno e he hb)
  · simp only [Bool.and_eq_true] at h
    obtain ⟨⟨h1, h2⟩, h3⟩ := h
    unfold Oper.apart
    rw [Bool.and_eq_true]
    refine ⟨?_, ?_⟩
    · cases hd : oi.dst with
      | none => rfl
      | some d =>
        rw [hd] at h1 h2
        have e1 := and_bit h1
        have e2 := and_bit h2
        rw [maskOf_mem, decide_eq_false_iff_not] at e1
        simp only [Bool.and_eq_true, Bool.not_eq_true', bne_iff_ne, ne_eq]
        refine ⟨by simpa using e1, fun he => ?_⟩
        rw [he] at e2
        simp [bitOf, Nat.testBit_two_pow_self] at e2
    · cases hd : oj.dst with
      | none => rfl
      | some d =>
        rw [hd] at h3
        have e3 := and_bit h3
        rw [maskOf_mem, decide_eq_false_iff_not] at e3
        simpa using e3

/-- The listed ones are the first k. -/
def FirstK (n k : Nat) (listed : Array Bool) : Prop := listed.size = n ∧ ∀ j, j < n → listed[j]? = some (decide (j < k))

theorem FirstK.next {n k : Nat} {listed : Array Bool} (h : FirstK n k listed) (hk : k < n) : FirstK n (k + 1) (listed.setIfInBounds k true) := by
  refine ⟨by simpa using h.1, fun j hj => ?_⟩
  by_cases hjk : k = j
  · subst hjk
    rw [Array.getElem?_setIfInBounds_self, if_pos (by have := h.1; omega)]
    simp
  · rw [Array.getElem?_setIfInBounds_ne hjk, h.2 j hj]
    congr 1
    rw [decide_eq_decide]
    omega

theorem lexFrom_of (hs : ∀ j o, ops[j]? = some o → ∀ e ∈ o.after, Region.binds md e = true → e.on < j) (hp : ∀ i j oi oj, i < j → ops[i]? = some oi → ops[j]? = some oj → pairB md ops i oi oj = true) :
    ∀ (fuel k : Nat) (listed : Array Bool), k + fuel = ops.size → FirstK ops.size k listed → Region.lexFrom md ops fuel k listed = true
  | 0, k, listed, hk, hf => by
    simp only [Region.lexFrom]
    rw [List.isEmpty_iff]
    apply List.eq_nil_iff_forall_not_mem.2
    intro j hj
    obtain ⟨h0, o, ho, _⟩ := mem_ready.1 hj
    have hlt : j < ops.size := (Array.getElem?_eq_some_iff.1 ho).1
    have h1 := hf.2 j hlt
    simp [Array.getD_eq_getD_getElem?, h1] at h0
    omega
  | fuel + 1, k, listed, hk, hf => by
    have hlt : k < ops.size := by omega
    obtain ⟨o, ho⟩ : ∃ o, ops[k]? = some o := ⟨ops[k], by simp [hlt]⟩
    simp only [Region.lexFrom, Bool.and_eq_true]
    refine ⟨⟨?_, ?_⟩, lexFrom_of hs hp fuel (k + 1) _ (by omega) (hf.next hlt)⟩
    · simp only [List.contains_iff_mem]
      refine mem_ready.2 ⟨?_, o, ho, fun e he hb => ?_⟩
      · simp [Array.getD_eq_getD_getElem?, hf.2 k hlt]
      · have := hs k o ho e he hb
        simp [Array.getD_eq_getD_getElem?, hf.2 e.on (by omega), this]
    · unfold Region.free
      simp only [ho, List.all_eq_true, List.mem_range]
      intro j hj
      obtain ⟨oj, hoj⟩ : ∃ o, ops[j]? = some o := ⟨ops[j], by simp [hj]⟩
      simp only [hoj, Bool.or_eq_true, beq_iff_eq]
      rcases Nat.lt_trichotomy j k with h | h | h
      · left; right; simp [Array.getD_eq_getD_getElem?, hf.2 j hj, h]
      · left; left; exact h
      · right
        have h1 := hp k j o oj h ho hoj
        by_cases hno : ∀ e ∈ oj.after, Region.binds md e = true → e.on ≠ k
        · right; exact pairB_apart h1 hno
        · left
          simp only [Classical.not_forall] at hno
          obtain ⟨e, he, hb, hk'⟩ := hno
          rw [Array.any_eq_true']
          refine ⟨e, he, ?_⟩
          simp only [Bool.and_eq_true, beq_iff_eq]
          exact ⟨hb, Classical.not_not.1 hk'⟩

theorem lexFromQ_spec : ∀ (l : List Oper) (i : Nat), lexFromQ md ops i l = true →
    (∀ j o, l[j]? = some o → ∀ e ∈ o.after, Region.binds md e = true → e.on < i + j) ∧ (∀ a b oa ob, a < b → l[a]? = some oa → l[b]? = some ob → pairB md ops (i + a) oa ob = true)
  | [], i, _ => ⟨fun j o h => by simp at h, fun a b oa ob _ h => by simp at h⟩
  | o :: rest, i, h => by
    simp only [lexFromQ, Bool.and_eq_true, decide_eq_true_eq] at h
    obtain ⟨⟨h1, h2⟩, h3⟩ := h
    obtain ⟨r1, r2⟩ := lexFromQ_spec rest (i + 1) h3
    refine ⟨fun j oj hj e he hb => ?_, fun a b oa ob hab ha hb => ?_⟩
    · cases j with
      | zero =>
        simp at hj
        subst hj
        have h4 := aft_mem (md := md) he hb
        rcases Nat.lt_or_ge e.on i with h5 | h5
        · omega
        · have := Nat.testBit_lt_two_pow (Nat.lt_of_lt_of_le h1 (Nat.pow_le_pow_right (by decide) h5))
          rw [this] at h4
          cases h4
      | succ j =>
        have := r1 j oj (by simpa using hj) e he hb
        omega
    · cases b with
      | zero => omega
      | succ b =>
        cases a with
        | zero =>
          simp at ha
          subst ha
          have hb' : rest[b]? = some ob := by simpa using hb
          exact (List.all_eq_true.1 h2) ob (List.mem_of_getElem? hb')
        | succ a =>
          have := r2 a b oa ob (by omega) (by simpa using ha) (by simpa using hb)
          rw [show i + (a + 1) = i + 1 + a from by omega]
          exact this

theorem lexB_of_lexQ (h : lexQ md ops = true) : Region.lexB md ops = true := by
  unfold lexQ at h
  rw [Bool.and_eq_true] at h
  obtain ⟨h1, h2⟩ := h
  obtain ⟨s1, s2⟩ := lexFromQ_spec _ _ h2
  unfold Region.lexB
  rw [Bool.and_eq_true]
  refine ⟨h1, lexFrom_of (fun j o ho e he hb => by simpa using s1 j o (by simpa using ho) e he hb) (fun i j oi oj hij hi hj => by simpa using s2 i j oi oj hij (by simpa using hi) (by simpa using hj)) _ 0 _ (by simp) ⟨by simp, fun j hj => by simp [hj]⟩⟩

theorem wpL_none {Q : Act → Facts → Prop} {k : Nat} {o : Oper} {rest : List Oper} {a : Act} {D : Facts} {c : Value} (hS : S k = none) (hw : Region.wanted o (yielded ops a.tmps) = true) (hrun : StillAt P md R w0 o a D c)
    (h : ∀ K : Act → Facts → Prop, (∀ a D, wpL P md ops R w0 S Q (k + 1) rest a D → K a D) → K (a.put o.dst c) D) : wpL P md ops R w0 S Q k (o :: rest) a D := by
  simp only [wpL, hw, if_true, One, hS]
  exact ⟨c, hrun, h _ (fun _ _ h => h)⟩
theorem wpL_skip {Q : Act → Facts → Prop} {k : Nat} {o : Oper} {rest : List Oper} {a : Act} {D : Facts} (hw : Region.wanted o (yielded ops a.tmps) = false)
    (h : ∀ K : Act → Facts → Prop, (∀ a D, wpL P md ops R w0 S Q (k + 1) rest a D → K a D) → K (a.put o.dst undef) D) : wpL P md ops R w0 S Q k (o :: rest) a D := by
  simp only [wpL, hw, Bool.false_eq_true, if_false]
  exact h _ (fun _ _ h => h)
theorem wpL_some {Q : Act → Facts → Prop} {k : Nat} {o : Oper} {rest : List Oper} {a : Act} {D : Facts} {s : Value → World → Prop} (hS : S k = some s) (hw : Region.wanted o (yielded ops a.tmps) = true) (hrun : UponAt P md R w0 o a D s)
    (h : ∀ v w, R w0 w → (∀ j, D j w) → s v w → ∀ K : Act → Facts → Prop, (∀ a D, wpL P md ops R w0 S Q (k + 1) rest a D → K a D) → K (a.put o.dst v) (upd D k (s v))) : wpL P md ops R w0 S Q k (o :: rest) a D := by
  simp only [wpL, hw, if_true, One, hS]
  exact ⟨hrun, fun v w h1 h2 h3 => h v w h1 h2 h3 _ (fun _ _ h => h)⟩
theorem wpL_nil {Q : Act → Facts → Prop} {k : Nat} {a : Act} {D : Facts} (h : Q a D) : wpL P md ops R w0 S Q k [] a D := h

/-- The facts, as a list. -/
def lk : List (Nat × (Value → World → Prop)) → Nat → Option (Value → World → Prop)
  | [], _ => none
  | (i, s) :: L, k => if k = i then some s else lk L k
theorem lasts_nil : Lasts R (lk []) := fun k s h => by cases h
theorem lasts_cons {i : Nat} {s : Value → World → Prop} {L : List (Nat × (Value → World → Prop))} (h : ∀ v w w', R w w' → s v w → s v w') (hL : Lasts R (lk L)) : Lasts R (lk ((i, s) :: L)) := by
  intro k t hk
  simp only [lk] at hk
  split at hk
  · cases hk; exact h
  · exact hL k t hk
/-- One value. -/
def is (c : Value) : Value → World → Prop := fun v _ => v = c
theorem lasts_is {i : Nat} {c : Value} {L : List (Nat × (Value → World → Prop))} (hL : Lasts R (lk L)) : Lasts R (lk ((i, is c) :: L)) := lasts_cons (fun _ _ _ _ h => h) hL

/-- The same at the relation 'the world has grown'. -/
theorem wp_region_grow {id : Nat} {Q : Exit → Act → World → Prop} {a : Act} {w : World} {l : List Oper} (L : List (Nat × (Value → World → Prop)))
    (hS : Lasts (fun w w' : World => RowKit.Below w.heap.size w w') (lk L)) (hm : P.follows .mixedOrders = true) (hB : lexQ .any l.toArray = true)
    (h : wpL P .any l.toArray (fun w w' : World => RowKit.Below w.heap.size w w') w (lk L) (fun a' D' => ∀ w' : World, RowKit.Below w.heap.size w w' → (∀ j, D' j w') → Q .normal a' w') 0 l a (fun _ _ => True)) :
    (Code.region id l.toArray true).wp P Q a w :=
  wp_region_loose (R := fun w w' : World => RowKit.Below w.heap.size w w') (fun _ _ _ h k => RowKit.Below.trans h (k.mono h.size)) hS hm (lexB_of_lexQ hB) ⟨rfl, rfl, rfl, Nat.le_refl _, fun _ _ => rfl⟩ (by simpa using h)
end
end Go.Loose
namespace Go.Loose
open Go
set_option linter.unusedVariables false

/-- A move, or a component of a tuple: no world in it. -/
def lateB (o : Oper) : Bool := match o.op with | .move _ => true | .assign _ => true | .extract _ _ => true | _ => false

theorem late_run {P : Program} {o : Oper} (h : lateB o = true) (ev : Operand → Value) {w w1 w2 : World} {n : Next} (hr : (execOp ev o).run P w = .ok n w1) : w1 = w ∧ (execOp ev o).run P w2 = .ok n w2 ∧ ∃ v, n = .value v := by
  unfold lateB at h
  unfold execOp at hr ⊢
  split at h
  · rename_i x hx; simp only [hx] at hr ⊢; cases hr; exact ⟨rfl, rfl, _, rfl⟩
  · rename_i x hx; simp only [hx] at hr ⊢; cases hr; exact ⟨rfl, rfl, _, rfl⟩
  · rename_i t ix hx
    simp only [hx] at hr ⊢
    generalize ev t = u at *
    cases u <;> simp [Instr.extract] at hr ⊢
    rename_i vs
    cases hv : vs[ix]? <;> simp [hv] at hr ⊢
    exact ⟨hr.2.symm, hr.1, _, hr.1.symm⟩
  · cases h

theorem getD_both {listed : Array Bool} {i : Nat} (h : listed.getD i true = false) : listed.getD i false = false := by
  rcases Nat.lt_or_ge i listed.size with h' | h'
  · simp [h'] at h ⊢; exact h
  · simp [Array.getElem?_eq_none h'] at h

section
variable (P : Program) (md : Region.Mode) (ops : Array Oper) (R : World → World → Prop) (w0 : World) (S : Nat → Option (Value → World → Prop)) (Q : Exit → Act → World → Prop)

/-- Operations that yield a value or nothing, or call. -/
def vUpon (o : Oper) (a : Act) (next : Act → World → Prop) : Result Next → Prop
  | .ok (.value v) w' => next (a.put o.dst v) w'
  | .ok .skip w' => next (a.put o.dst undef) w'
  | .ok (.enter f args) w' => Calls P f args w' (fun e w'' => ∃ u, e = .returned u ∧ next (a.put o.dst u) w'')
  | _ => False
def vOp (i : Nat) (K : Act → World → Prop) (a : Act) (w : World) : Prop :=
  match ops[i]? with
  | none => K a w
  | some o => if Region.wanted o (yielded ops a.tmps) then vUpon P o a K ((execOp a.eval o).run P w) else K (a.put o.dst undef) w
def wpAnyV : Nat → Array Bool → Act → World → Prop
  | 0, listed, a, w => Region.ready md ops listed = [] ∧ Q .normal a w
  | fuel + 1, listed, a, w => (Region.ready md ops listed = [] → Q .normal a w) ∧ ∀ i ∈ Region.ready md ops listed, vOp P ops i (wpAnyV fuel (listed.setIfInBounds i true)) a w
def wpVL : List Oper → Act → World → Prop
  | [], a, w => Q .normal a w
  | o :: rest, a, w => if Region.wanted o (yielded ops a.tmps) then vUpon P o a (wpVL rest) ((execOp a.eval o).run P w) else wpVL rest (a.put o.dst undef) w

/-- The head over a class of worlds; the tail exactly. -/
def wpAnyT (n : Nat) : Nat → Array Bool → Act → Facts → Prop
  | 0, listed, a, D => ∀ w, R w0 w → (∀ j, D j w) → wpAnyV P md ops Q 0 listed a w
  | f + 1, listed, a, D => Region.ready md ops listed ≠ [] ∧ ((∃ j ∈ Region.ready md ops listed, n ≤ j) → ∀ w, R w0 w → (∀ j, D j w) → wpAnyV P md ops Q (f + 1) listed a w) ∧
    ∀ i ∈ Region.ready md ops listed, i < n → lOp P md ops R w0 S i (wpAnyT n f (listed.setIfInBounds i true)) a D
end

section
variable {P : Program} {md : Region.Mode} {ops : Array Oper} {R : World → World → Prop} {w0 : World} {S : Nat → Option (Value → World → Prop)} {Q : Exit → Act → World → Prop}

theorem vUpon.mono {o : Oper} {a : Act} {K K' : Act → World → Prop} {r : Result Next} (h : ∀ a w, K a w → K' a w) (hh : vUpon P o a K r) : vUpon P o a K' r := by
  unfold vUpon at *
  split at hh <;> first | exact h _ _ hh | exact hh.mono fun e w ⟨u, h1, h2⟩ => ⟨u, h1, h _ _ h2⟩ | exact hh
theorem vOp.wp {i : Nat} {K K' : Act → World → Prop} {a : Act} {w : World} (h : ∀ a w, K a w → K' a w) (hh : vOp P ops i K a w) : wpOp P ops Q i K' a w := by
  unfold vOp at hh
  unfold wpOp
  split
  · rename_i ho; simp only [ho] at hh; exact h _ _ hh
  · rename_i o ho
    simp only [ho] at hh
    split
    · rename_i hw
      rw [if_pos hw] at hh
      left
      unfold Oper.wp
      generalize (execOp a.eval o).run P w = r at *
      unfold vUpon at hh
      split at hh
      · exact h _ _ hh
      · exact h _ _ hh
      · exact hh.mono fun e w ⟨u, h1, h2⟩ => by subst h1; exact h _ _ h2
      · exact hh.elim
    · rename_i hw; rw [if_neg hw] at hh; exact h _ _ hh
theorem wpAny_of_V : ∀ (fuel : Nat) (listed : Array Bool) (a : Act) (w : World), wpAnyV P md ops Q fuel listed a w → wpAny P md ops Q fuel listed a w
  | 0, _, _, _, h => h
  | fuel + 1, listed, a, w, h => ⟨h.1, fun i hi => (h.2 i hi).wp (fun a w h => wpAny_of_V fuel _ a w h)⟩

/-- A move may be taken first. -/
theorem wpAnyV_first {i : Nat} {oi : Oper} {c : Value} (hi : ops[i]? = some oi) (hsel : ∀ (j : Nat) (o : Oper) cs b, ops[j]? = some o → o.op ≠ .select cs b) :
    ∀ (fuel : Nat) (listed : Array Bool) (a : Act) (w : World),
      (∀ j oj, ops[j]? = some oj → j ≠ i → listed.getD j true = false → (∀ e ∈ oj.after, Region.binds md e = true → e.on ≠ i) → oi.apart ops oj = true) →
      i ∈ Region.ready md ops listed →
      ((Region.wanted oi (yielded ops a.tmps) = false ∧ c = undef) ∨ (Region.wanted oi (yielded ops a.tmps) = true ∧ ∀ w, (execOp a.eval oi).run P w = .ok (.value c) w)) →
      wpAnyV P md ops Q fuel (listed.setIfInBounds i true) (a.put oi.dst c) w → wpAnyV P md ops Q (fuel + 1) listed a w := by
  intro fuel
  induction fuel with
  | zero =>
    intro listed a w hfree hr hy H
    refine ⟨fun h => (by rw [h] at hr; cases hr), fun j hj => ?_⟩
    by_cases hji : j = i
    · subst hji
      unfold vOp
      simp only [hi]
      rcases hy with ⟨h1, rfl⟩ | ⟨h1, h2⟩
      · simp only [h1, Bool.false_eq_true, if_false]; exact H
      · simp only [h1, if_true, h2 w, vUpon]; exact H
    · have h1 := ready_mono hj hji
      rw [H.1] at h1
      cases h1
  | succ fuel ih =>
    intro listed a w hfree hr hy H
    refine ⟨fun h => (by rw [h] at hr; cases hr), fun j hj => ?_⟩
    by_cases hji : j = i
    · subst hji
      unfold vOp
      simp only [hi]
      rcases hy with ⟨h1, rfl⟩ | ⟨h1, h2⟩
      · simp only [h1, Bool.false_eq_true, if_false]; exact H
      · simp only [h1, if_true, h2 w, vUpon]; exact H
    have hij : i ≠ j := Ne.symm hji
    obtain ⟨hjun, oj, hoj, hall⟩ := mem_ready.1 hj
    have hnot : ∀ e ∈ oj.after, Region.binds md e = true → e.on ≠ i := fun e he hb heq => by
      have h1 := hall e he hb
      have h0 := (mem_ready.1 hr).1
      rw [heq] at h1
      rcases Nat.lt_or_ge i listed.size with h' | h'
      · simp [h'] at h0 h1; rw [h0] at h1; cases h1
      · simp [Array.getElem?_eq_none h'] at h1
    obtain ⟨ap1, ap2, ap3⟩ := Oper.apart_spec (hfree j oj hoj hji hjun hnot)
    have hsi := fun cs b => hsel i oi cs b hi
    have hsj := fun cs b => hsel j oj cs b hoj
    have hfree' : ∀ k ok, ops[k]? = some ok → k ≠ i → (listed.setIfInBounds j true).getD k true = false →
        (∀ e ∈ ok.after, Region.binds md e = true → e.on ≠ i) → oi.apart ops ok = true := fun k ok hk hki hun hno => by
      refine hfree k ok hk hki ?_ hno
      by_cases hjk : j = k
      · subst hjk; exact hjun
      · rw [getD_set_ne true hjk] at hun; exact hun
    have hcomm : (listed.setIfInBounds i true).setIfInBounds j true = (listed.setIfInBounds j true).setIfInBounds i true := Array.setIfInBounds_comm _ _ hij
    have H2 := H.2 j (ready_mono hj hji)
    have hri : i ∈ Region.ready md ops (listed.setIfInBounds j true) := ready_mono hr hij
    have step : ∀ u w', wpAnyV P md ops Q fuel ((listed.setIfInBounds i true).setIfInBounds j true) ((a.put oi.dst c).put oj.dst u) w' → wpAnyV P md ops Q (fuel + 1) (listed.setIfInBounds j true) (a.put oj.dst u) w' := fun u w' h => by
      refine ih _ _ _ hfree' hri ?_ ?_
      · rw [wanted_put oi a oj.dst u ap3, execOp_put oi hsi a oj.dst u ap3]; exact hy
      · rw [← hcomm, ← Act.put_comm a c u ap2]; exact h
    unfold vOp at H2 ⊢
    simp only [hoj] at H2 ⊢
    rw [wanted_put oj a oi.dst c ap1, execOp_put oj hsj a oi.dst c ap1] at H2
    by_cases hw : Region.wanted oj (yielded ops a.tmps) = true
    · rw [if_pos hw] at H2 ⊢
      generalize (execOp a.eval oj).run P w = r at *
      unfold vUpon at H2 ⊢
      split at H2
      · exact step _ _ H2
      · exact step _ _ H2
      · exact H2.mono fun e w ⟨u, h1, h2⟩ => ⟨u, h1, step _ _ h2⟩
      · exact H2.elim
    · rw [if_neg hw] at H2 ⊢
      exact step _ _ H2

theorem wpAny_of_T {n : Nat} (hR : ∀ a b c, R a b → R b c → R a c) (hS : Lasts R S) : ∀ (fuel : Nat) (listed : Array Bool) (a : Act) (D : Facts) (w : World), R w0 w → LastsD R D → (∀ j, D j w) →
    wpAnyT P md ops R w0 S Q n fuel listed a D → wpAny P md ops Q fuel listed a w
  | 0, _, _, _, _, hw, _, hD, h => wpAny_of_V _ _ _ _ (h _ hw hD)
  | fuel + 1, listed, a, D, w, hw, hl, hD, h => by
    by_cases ht : ∃ j ∈ Region.ready md ops listed, n ≤ j
    · exact wpAny_of_V _ _ _ _ (h.2.1 ht w hw hD)
    · refine ⟨fun h0 => absurd h0 h.1, fun i hi => ?_⟩
      have hin : i < n := by
        rcases Nat.lt_or_ge i n with h' | h'
        · exact h'
        · exact absurd ⟨i, hi, h'⟩ ht
      exact wpOp_of_lOp hR hS hl hw hD (fun a' D' w' hw' hl' hD' => wpAny_of_T hR hS fuel _ a' D' w' hw' hl' hD') (h.2.2 i hi hin)

/-- What is listed has all that it waits for listed. -/
def Closed (md : Region.Mode) (ops : Array Oper) (listed : Array Bool) : Prop := ∀ j oj, ops[j]? = some oj → listed.getD j false = true → ∀ e ∈ oj.after, Region.binds md e = true → listed.getD e.on false = true

theorem getD_set_true {listed : Array Bool} {i j : Nat} (h : listed.getD j false = true) : (listed.setIfInBounds i true).getD j false = true := by
  by_cases hij : i = j
  · subst hij
    have hlt : i < listed.size := by
      rcases Nat.lt_or_ge i listed.size with h' | h'
      · exact h'
      · simp [Array.getElem?_eq_none h'] at h
    simp [hlt]
  · rw [getD_set_ne false hij]; exact h

theorem Closed.set {listed : Array Bool} {i : Nat} (h : Closed md ops listed) (hi : i ∈ Region.ready md ops listed) : Closed md ops (listed.setIfInBounds i true) := by
  intro j oj hoj hj e he hb
  by_cases hij : i = j
  · subst hij
    obtain ⟨_, oj', hoj', hall⟩ := mem_ready.1 hi
    rw [hoj] at hoj'
    cases hoj'
    exact getD_set_true (hall e he hb)
  · rw [getD_set_ne false hij] at hj
    exact getD_set_true (h j oj hoj hj e he hb)

/-- What an operation waits for, directly or through others. -/
def reachM (md : Region.Mode) (ops : Array Oper) : Nat → Nat → Nat
  | 0, c => c
  | f + 1, c => reachM md ops f ((List.range ops.size).foldl (fun a m => if c.testBit m then a ||| (match ops[m]? with | some o => aft md o | none => 0) else a) c)

theorem reach_listed {listed : Array Bool} (hcl : Closed md ops listed) : ∀ (f c : Nat), (∀ m, c.testBit m = true → listed.getD m false = true) → ∀ i, (reachM md ops f c).testBit i = true → listed.getD i false = true
  | 0, c, hc, i, h => hc i h
  | f + 1, c, hc, i, h => by
    refine reach_listed hcl f _ ?_ i h
    have key : ∀ (l : List Nat) (a : Nat), (∀ m, a.testBit m = true → listed.getD m false = true) → ∀ m, (l.foldl (fun a m => if c.testBit m then a ||| (match ops[m]? with | some o => aft md o | none => 0) else a) a).testBit m = true → listed.getD m false = true := by
      intro l
      induction l with
      | nil => intro a ha m hm; exact ha m hm
      | cons x l ih =>
        intro a ha m hm
        refine ih _ ?_ m hm
        intro m' hm'
        dsimp only at hm'
        split at hm'
        · rename_i hx
          rw [Nat.testBit_or, Bool.or_eq_true] at hm'
          rcases hm' with hm' | hm'
          · exact ha m' hm'
          · split at hm'
            · rename_i o ho
              obtain ⟨e, he, hb, rfl⟩ := aft_of hm'
              exact hcl x o ho (hc x hx) e he hb
            · simp at hm'
        · exact ha m' hm'
    exact key _ c hc

theorem closed_first {k : Nat} {listed : Array Bool} (hf : FirstK ops.size k listed) (hs : ∀ j o, ops[j]? = some o → ∀ e ∈ o.after, Region.binds md e = true → e.on < j) : Closed md ops listed := by
  intro j oj hoj hj e he hb
  have hjl : j < ops.size := (Array.getElem?_eq_some_iff.1 hoj).1
  have h1 := hf.2 j hjl
  have h2 := hs j oj hoj e he hb
  have h3 := hf.2 e.on (by omega)
  simp [Array.getD_eq_getD_getElem?, h1] at hj
  simp [Array.getD_eq_getD_getElem?, h3]
  omega

/-- A head's operation may be taken first. -/
theorem wpAnyT_first {n : Nat} (hR : ∀ a b c, R a b → R b c → R a c) (hS : Lasts R S) {i : Nat} {oi : Oper} (hi : ops[i]? = some oi) (hin : i < n) (hsel : ∀ (j : Nat) (o : Oper) cs b, ops[j]? = some o → o.op ≠ .select cs b)
    (hlate : ∀ j oj, n ≤ j → ops[j]? = some oj → lateB oi = true ∨ (reachM md ops 8 (aft md oj)).testBit i = true) :
    ∀ (fuel : Nat) (listed : Array Bool) (a : Act) (D : Facts),
      Closed md ops listed →
      (∀ j oj, ops[j]? = some oj → j ≠ i → listed.getD j true = false → (∀ e ∈ oj.after, Region.binds md e = true → e.on ≠ i) → oi.apart ops oj = true) →
      (∀ k w, listed.getD k true = false → D k w) →
      i ∈ Region.ready md ops listed → LastsD R D → (∃ w, R w0 w ∧ ∀ j, D j w) → Is P md ops R w0 S i oi a D →
      Then P md ops R w0 S i oi a D (wpAnyT P md ops R w0 S Q n fuel (listed.setIfInBounds i true)) → wpAnyT P md ops R w0 S Q n (fuel + 1) listed a D := by
  intro fuel
  -- a tail's operation ready now: the head's operation is a move
  have hV : ∀ (fuel : Nat) (listed : Array Bool) (a : Act) (D : Facts),
      Closed md ops listed →
      (∀ j oj, ops[j]? = some oj → j ≠ i → listed.getD j true = false → (∀ e ∈ oj.after, Region.binds md e = true → e.on ≠ i) → oi.apart ops oj = true) →
      i ∈ Region.ready md ops listed → LastsD R D → Is P md ops R w0 S i oi a D →
      Then P md ops R w0 S i oi a D (wpAnyT P md ops R w0 S Q n fuel (listed.setIfInBounds i true)) →
      (∃ j ∈ Region.ready md ops listed, n ≤ j) → ∀ w, R w0 w → (∀ j, D j w) → wpAnyV P md ops Q (fuel + 1) listed a w := by
    intro fuel listed a D hcl hfree hr hl hy H ⟨j, hj, hnj⟩ w hw hD
    have hji : j ≠ i := by omega
    have hrj := ready_mono hj hji
    obtain ⟨_, oj, hoj, hall⟩ := mem_ready.1 hj
    have hun := (mem_ready.1 hr).1
    have hla : lateB oi = true := by
      rcases hlate j oj hnj hoj with h | h
      · exact h
      · have h1 := reach_listed hcl 8 _ (fun m hm => by obtain ⟨e, he, hb, rfl⟩ := aft_of hm; exact hall e he hb) i h
        rw [getD_both hun] at h1
        cases h1
    have fin : ∀ (c : Value) (D' : Facts), (∀ j, D' j w) → wpAnyT P md ops R w0 S Q n fuel (listed.setIfInBounds i true) (a.put oi.dst c) D' → wpAnyV P md ops Q fuel (listed.setIfInBounds i true) (a.put oi.dst c) w := by
      intro c D' hD' h
      cases fuel with
      | zero => exact h w hw hD'
      | succ f => exact h.2.1 ⟨j, hrj, hnj⟩ w hw hD'
    cases hy with
    | not h => exact wpAnyV_first hi hsel _ _ _ _ hfree hr (.inl ⟨h, rfl⟩) (fin _ _ hD (H.1 h))
    | still h hs c hc =>
      have h3 := hc w hw (fun e _ _ => hD _)
      cases hrun : (execOp a.eval oi).run P w with
      | ok nx w' =>
        obtain ⟨rfl, hall', v, rfl⟩ := (fun w2 => late_run (w2 := w2) hla a.eval hrun) w
        rw [hrun] at h3
        simp only [Still] at h3
        obtain ⟨_, rfl⟩ := h3
        exact wpAnyV_first hi hsel _ _ _ _ hfree hr (.inr ⟨h, fun w2 => (late_run (w2 := w2) hla a.eval hrun).2.1⟩) (fin _ _ hD (H.2.1 h hs _ hc))
      | halt x w' => rw [hrun] at h3; simp only [Still] at h3
    | upon h s hs hc =>
      have h3 := hc w hw (fun e _ _ => hD _)
      cases hrun : (execOp a.eval oi).run P w with
      | ok nx w' =>
        obtain ⟨rfl, hall', v, rfl⟩ := (fun w2 => late_run (w2 := w2) hla a.eval hrun) w
        rw [hrun] at h3
        simp only [Upon] at h3
        exact wpAnyV_first hi hsel _ _ _ _ hfree hr (.inr ⟨h, fun w2 => (late_run (w2 := w2) hla a.eval hrun).2.1⟩) (fin _ _ (upd_all hD h3.2) (H.2.2 h s hs v _ hw hD h3.2))
      | halt x w' => rw [hrun] at h3; simp only [Upon] at h3
  induction fuel with
  | zero =>
    intro listed a D hcl hfree hunl hr hl hex hy H
    refine ⟨fun h => (by rw [h] at hr; cases hr), hV 0 listed a D hcl hfree hr hl hy H, fun j hj hjn => ?_⟩
    by_cases hji : j = i
    · subst hji; exact lOp_of hi hy H
    · have h1 := ready_mono hj hji
      obtain ⟨w, hw, hD⟩ := hex
      exfalso
      have h2 : Region.ready md ops (listed.setIfInBounds i true) = [] := by
        cases hy with
        | not h => exact (H.1 h w hw hD).1
        | still h hs c hc => exact (H.2.1 h hs c hc w hw hD).1
        | upon h s hs hc =>
          obtain ⟨v, w', hw', hD', hv⟩ := hc.gives hR hl hw hD
          exact (H.2.2 h s hs v w' hw' hD' hv w' hw' (upd_all hD' hv)).1
      rw [h2] at h1
      cases h1
  | succ fuel ih =>
    intro listed a D hcl hfree hunl hr hl hex hy H
    refine ⟨fun h => (by rw [h] at hr; cases hr), hV (fuel + 1) listed a D hcl hfree hr hl hy H, fun j hj hjn => ?_⟩
    by_cases hji : j = i
    · subst hji; exact lOp_of hi hy H
    have hij : i ≠ j := Ne.symm hji
    obtain ⟨hjun, oj, hoj, hall⟩ := mem_ready.1 hj
    have hnot : ∀ e ∈ oj.after, Region.binds md e = true → e.on ≠ i := fun e he hb heq => by
      have h1 := hall e he hb
      have h0 := (mem_ready.1 hr).1
      rw [heq] at h1
      rcases Nat.lt_or_ge i listed.size with h' | h'
      · simp [h'] at h0 h1; rw [h0] at h1; cases h1
      · simp [Array.getElem?_eq_none h'] at h1
    have hnoti : ∀ e ∈ oi.after, Region.binds md e = true → e.on ≠ j := fun e he hb heq => by
      obtain ⟨_, oi', hoi', halli⟩ := mem_ready.1 hr
      rw [hi] at hoi'
      cases hoi'
      have h1 := halli e he hb
      rw [heq] at h1
      rcases Nat.lt_or_ge j listed.size with h' | h'
      · simp [h'] at hjun h1; rw [hjun] at h1; cases h1
      · simp [Array.getElem?_eq_none h'] at h1
    obtain ⟨ap1, ap2, ap3⟩ := Oper.apart_spec (hfree j oj hoj hji hjun hnot)
    have hsi := fun cs b => hsel i oi cs b hi
    have hsj := fun cs b => hsel j oj cs b hoj
    have hfree' : ∀ k ok, ops[k]? = some ok → k ≠ i → (listed.setIfInBounds j true).getD k true = false →
        (∀ e ∈ ok.after, Region.binds md e = true → e.on ≠ i) → oi.apart ops ok = true := fun k ok hk hki hun hno => by
      refine hfree k ok hk hki ?_ hno
      by_cases hjk : j = k
      · subst hjk; exact hjun
      · rw [getD_set_ne true hjk] at hun; exact hun
    have hcomm : (listed.setIfInBounds i true).setIfInBounds j true = (listed.setIfInBounds j true).setIfInBounds i true := Array.setIfInBounds_comm _ _ hij
    have keepI : ∀ u D', (∀ w, Needs md oi D' w → Needs md oi D w) → Is P md ops R w0 S i oi (a.put oj.dst u) D' := fun u D' hN =>
      hy.of (wanted_put oi a oj.dst u ap3) (execOp_put oi hsi a oj.dst u ap3) hN
    have backJ : ∀ v D', (∀ w, Needs md oj D w → Needs md oj D' w) → Is P md ops R w0 S j oj (a.put oi.dst v) D' → Is P md ops R w0 S j oj a D := fun v D' hN h =>
      h.of (wanted_put oj a oi.dst v ap1).symm (execOp_put oj hsj a oi.dst v ap1).symm hN
    obtain ⟨w, hw, hD⟩ := hex
    have hrj := ready_mono hj hji
    have hri : i ∈ Region.ready md ops (listed.setIfInBounds j true) := ready_mono hr hij
    have wj : ∀ v, Region.wanted oj (yielded ops (a.put oi.dst v).tmps) = Region.wanted oj (yielded ops a.tmps) := fun v => wanted_put oj a oi.dst v ap1
    have ej : ∀ v, execOp (a.put oi.dst v).eval oj = execOp a.eval oj := fun v => execOp_put oj hsj a oi.dst v ap1
    have ei : ∀ u, execOp (a.put oj.dst u).eval oi = execOp a.eval oi := fun u => execOp_put oi hsi a oj.dst u ap3
    have wi : ∀ u, Region.wanted oi (yielded ops (a.put oj.dst u).tmps) = Region.wanted oi (yielded ops a.tmps) := fun u => wanted_put oi a oj.dst u ap3
    have pc : ∀ v u, (a.put oi.dst v).put oj.dst u = (a.put oj.dst u).put oi.dst v := fun v u => Act.put_comm a v u ap2
    have isJ : Is P md ops R w0 S j oj a D := by
      cases hy with
      | not h => exact backJ undef D (fun _ h => h) (of_lOp hoj hw hD ((H.1 h).2.2 j hrj hjn)).1
      | still h hs c hc => exact backJ c D (fun _ h => h) (of_lOp hoj hw hD ((H.2.1 h hs c hc).2.2 j hrj hjn)).1
      | upon h s hs hc =>
        obtain ⟨v, w', hw', hD', hv⟩ := hc.gives hR hl hw hD
        exact backJ v _ (fun _ h => (Needs.of hnot).2 h) (of_lOp hoj hw' (upd_all hD' hv) ((H.2.2 h s hs v w' hw' hD' hv).2.2 j hrj hjn)).1
    refine lOp_of hoj isJ ?_
    have main : ∀ u D', (∀ k w, (listed.setIfInBounds j true).getD k true = false → D' k w) → LastsD R D' → (∃ w, R w0 w ∧ ∀ j, D' j w) → (∀ w, Needs md oi D' w → Needs md oi D w) → (∀ w, Needs md oi D w → Needs md oi D' w) →
        (Region.wanted oi (yielded ops a.tmps) = false → wpAnyT P md ops R w0 S Q n fuel ((listed.setIfInBounds i true).setIfInBounds j true) ((a.put oi.dst undef).put oj.dst u) D') →
        (Region.wanted oi (yielded ops a.tmps) = true → S i = none → ∀ c, StillAt P md R w0 oi a D c → wpAnyT P md ops R w0 S Q n fuel ((listed.setIfInBounds i true).setIfInBounds j true) ((a.put oi.dst c).put oj.dst u) D') →
        (Region.wanted oi (yielded ops a.tmps) = true → ∀ s, S i = some s → ∀ v w, R w0 w → (∀ j, D' j w) → s v w → wpAnyT P md ops R w0 S Q n fuel ((listed.setIfInBounds i true).setIfInBounds j true) ((a.put oi.dst v).put oj.dst u) (upd D' i (s v))) →
        wpAnyT P md ops R w0 S Q n (fuel + 1) (listed.setIfInBounds j true) (a.put oj.dst u) D' := by
      intro u D' hunl' hl' hex' hN hN' h1 h2 h3
      refine ih (listed.setIfInBounds j true) (a.put oj.dst u) D' (hcl.set hj) hfree' hunl' hri hl' hex' (keepI u D' hN) ⟨?_, ?_, ?_⟩
      · intro h; rw [wi u] at h; have := h1 h; rw [hcomm, pc] at this; exact this
      · intro h hs c hc
        rw [wi u] at h
        have := h2 h hs c (hc.of (ei u).symm hN')
        rw [hcomm, pc] at this; exact this
      · intro h s hs v w hw hD hv
        rw [wi u] at h
        have := h3 h s hs v w hw hD hv
        rw [hcomm, pc] at this; exact this
    have hunlD : ∀ k w, (listed.setIfInBounds j true).getD k true = false → D k w := fun k w hk => by
      by_cases hjk : j = k
      · subst hjk; exact hunl _ _ hjun
      · rw [getD_set_ne true hjk] at hk; exact hunl k w hk
    refine ⟨?_, ?_, ?_⟩
    · intro hjw
      refine main undef D hunlD hl ⟨w, hw, hD⟩ (fun _ h => h) (fun _ h => h) ?_ ?_ ?_
      · intro h; exact (of_lOp hoj hw hD ((H.1 h).2.2 j hrj hjn)).2.1 (by rw [wj]; exact hjw)
      · intro h hs c hc; exact (of_lOp hoj hw hD ((H.2.1 h hs c hc).2.2 j hrj hjn)).2.1 (by rw [wj]; exact hjw)
      · intro h s hs v w' hw' hD' hv
        exact (of_lOp hoj hw' (upd_all hD' hv) ((H.2.2 h s hs v w' hw' hD' hv).2.2 j hrj hjn)).2.1 (by rw [wj]; exact hjw)
    · intro hjw hjs c hc
      refine main c D hunlD hl ⟨w, hw, hD⟩ (fun _ h => h) (fun _ h => h) ?_ ?_ ?_
      · intro h; exact (of_lOp hoj hw hD ((H.1 h).2.2 j hrj hjn)).2.2.1 (by rw [wj]; exact hjw) hjs c (hc.of (ej _) (fun _ h => h))
      · intro h hs c' hc'; exact (of_lOp hoj hw hD ((H.2.1 h hs c' hc').2.2 j hrj hjn)).2.2.1 (by rw [wj]; exact hjw) hjs c (hc.of (ej _) (fun _ h => h))
      · intro h s hs v w' hw' hD' hv
        exact (of_lOp hoj hw' (upd_all hD' hv) ((H.2.2 h s hs v w' hw' hD' hv).2.2 j hrj hjn)).2.2.1 (by rw [wj]; exact hjw) hjs c (hc.of (ej _) (fun _ h => (Needs.of hnot).1 h))
    · intro hjw s hjs u w1 hw1 hD1 hu
      have hunlU : ∀ k w, (listed.setIfInBounds j true).getD k true = false → upd D j (s u) k w := fun k w hk => by
        have hjk : j ≠ k := fun e => by
          subst e
          have hlt : j < listed.size := by
            rcases Nat.lt_or_ge j listed.size with h' | h'
            · exact h'
            · simp [Array.getElem?_eq_none h'] at hjun
          simp [hlt] at hk
        rw [upd_ne (Ne.symm hjk)]
        exact hunlD k w hk
      refine main u (upd D j (s u)) hunlU (hl.upd hS hjs u) ⟨w1, hw1, upd_all hD1 hu⟩ (fun _ h => (Needs.of hnoti).1 h) (fun _ h => (Needs.of hnoti).2 h) ?_ ?_ ?_
      · intro h; exact (of_lOp hoj hw hD ((H.1 h).2.2 j hrj hjn)).2.2.2 (by rw [wj]; exact hjw) s hjs u w1 hw1 hD1 hu
      · intro h hs c' hc'; exact (of_lOp hoj hw hD ((H.2.1 h hs c' hc').2.2 j hrj hjn)).2.2.2 (by rw [wj]; exact hjw) s hjs u w1 hw1 hD1 hu
      · intro h s' hs' v w' hw' hD' hv
        have hD0 : ∀ k, k ≠ j → D k w' := fun k hk => by have := hD' k; rwa [upd_ne hk] at this
        have huw : s u w' := by have := hD' j; simpa [upd] using this
        have hDw' : ∀ k, D k w' := fun k => by
          by_cases hk : k = j
          · subst hk; exact hunl _ _ hjun
          · exact hD0 k hk
        have := (of_lOp hoj hw' (upd_all hDw' hv) ((H.2.2 h s' hs' v w' hw' hDw' hv).2.2 j hrj hjn)).2.2.2 (by rw [wj]; exact hjw) s hjs u w' hw' (upd_all hDw' hv) huw
        rw [upd_comm hij] at this
        exact this

/-- The tail's operations wait for the head's (but moves), each for the one before. -/
def tailB (md : Region.Mode) (ops : Array Oper) (n : Nat) : Bool :=
  decide (n < ops.size) && (List.range ops.size).all fun j => decide (j < n) || match ops[j]? with
    | some oj => (decide (j = n) || (aft md oj).testBit (j - 1)) && (List.range n).all fun i => (match ops[i]? with | some oi => lateB oi | none => true) || (reachM md ops 8 (aft md oj)).testBit i
    | none => true

theorem ready_first {k : Nat} {listed : Array Bool} (hk : k < ops.size) (hf : FirstK ops.size k listed) (hs : ∀ j o, ops[j]? = some o → ∀ e ∈ o.after, Region.binds md e = true → e.on < j) : k ∈ Region.ready md ops listed := by
  refine mem_ready.2 ⟨by simp [Array.getD_eq_getD_getElem?, hf.2 k hk], ops[k], by simp [hk], fun e he hb => ?_⟩
  have := hs k ops[k] (by simp [hk]) e he hb
  simp [Array.getD_eq_getD_getElem?, hf.2 e.on (by omega), this]

theorem ready_tail {n k : Nat} {listed : Array Bool} (hnk : n ≤ k) (hf : FirstK ops.size k listed) (hc : ∀ j oj, n < j → ops[j]? = some oj → ∃ e ∈ oj.after, Region.binds md e = true ∧ e.on = j - 1) {j : Nat} (hj : j ∈ Region.ready md ops listed) : j = k := by
  obtain ⟨h0, oj, hoj, hall⟩ := mem_ready.1 hj
  have hlt : j < ops.size := (Array.getElem?_eq_some_iff.1 hoj).1
  have h1 := hf.2 j hlt
  rcases Nat.lt_trichotomy j k with h | h | h
  · simp [Array.getD_eq_getD_getElem?, h1, h] at h0
  · exact h
  · obtain ⟨e, he, hb, hon⟩ := hc j oj (by omega) hoj
    have h2 := hall e he hb
    rw [hon] at h2
    have h3 := hf.2 (j - 1) (by omega)
    simp [Array.getD_eq_getD_getElem?, h3] at h2
    omega

theorem wpAnyV_seq {n : Nat} (hs : ∀ j o, ops[j]? = some o → ∀ e ∈ o.after, Region.binds md e = true → e.on < j) (hc : ∀ j oj, n < j → ops[j]? = some oj → ∃ e ∈ oj.after, Region.binds md e = true ∧ e.on = j - 1) :
    ∀ (l : List Oper) (k : Nat) (listed : Array Bool) (a : Act) (w : World), (∀ j, l[j]? = ops[k + j]?) → k + l.length = ops.size → n ≤ k → FirstK ops.size k listed → wpVL P ops Q l a w → wpAnyV P md ops Q l.length listed a w
  | [], k, listed, a, w, hl, hk, hnk, hf, h => by
    refine ⟨?_, h⟩
    apply List.eq_nil_iff_forall_not_mem.2
    intro j hj
    have hjk := ready_tail hnk hf hc hj
    obtain ⟨_, oj, hoj, _⟩ := mem_ready.1 hj
    have hlt : j < ops.size := (Array.getElem?_eq_some_iff.1 hoj).1
    simp at hk
    omega
  | o :: l, k, listed, a, w, hl, hk, hnk, hf, h => by
    have h0 : ops[k]? = some o := by simpa using (hl 0).symm
    have hlt : k < ops.size := (Array.getElem?_eq_some_iff.1 h0).1
    refine ⟨fun h1 => ?_, fun i hi => ?_⟩
    · have := ready_first (md := md) hlt hf hs
      rw [h1] at this
      cases this
    · obtain rfl := ready_tail hnk hf hc hi
      unfold vOp
      simp only [h0]
      have ih := fun a' w' => wpAnyV_seq hs hc l (i + 1) (listed.setIfInBounds i true) a' w' (fun j => by have := hl (j + 1); simpa [Nat.add_assoc, Nat.add_comm 1 j] using this) (by simp only [List.length_cons] at hk; omega) (by omega) (hf.next hlt)
      unfold wpVL at h
      split
      · rename_i hw; rw [if_pos hw] at h; exact h.mono ih
      · rename_i hw; rw [if_neg hw] at h; exact ih _ _ h

theorem wpAnyT_lex {n : Nat} (hR : ∀ a b c, R a b → R b c → R a c) (hS : Lasts R S) (hsel : Region.noSelect ops = true)
    (hs : ∀ j o, ops[j]? = some o → ∀ e ∈ o.after, Region.binds md e = true → e.on < j) (hp : ∀ i j oi oj, i < j → ops[i]? = some oi → ops[j]? = some oj → pairB md ops i oi oj = true)
    (hc : ∀ j oj, n < j → ops[j]? = some oj → ∃ e ∈ oj.after, Region.binds md e = true ∧ e.on = j - 1) (hn : n < ops.size)
    (hlate : ∀ i oi j oj, i < n → ops[i]? = some oi → n ≤ j → ops[j]? = some oj → lateB oi = true ∨ (reachM md ops 8 (aft md oj)).testBit i = true) (tl : List Oper) (htl : ∀ j, tl[j]? = ops[n + j]?) :
    ∀ (l : List Oper) (k : Nat) (listed : Array Bool) (a : Act) (D : Facts), (∀ j, j < l.length → l[j]? = ops[k + j]?) → k + l.length = n → FirstK ops.size k listed →
      (∀ k w, listed.getD k true = false → D k w) → LastsD R D → (∃ w, R w0 w ∧ ∀ j, D j w) →
      wpL P md ops R w0 S (fun a' D' => ∀ w, R w0 w → (∀ j, D' j w) → wpVL P ops Q tl a' w) k l a D → wpAnyT P md ops R w0 S Q n (l.length + tl.length) listed a D
  | [], k, listed, a, D, _, hk, hf, hun, hla, hex, h => by
    obtain rfl : k = n := by simpa using hk
    have hlen : tl.length = ops.size - k := by
      have h1 := htl (ops.size - k)
      rw [show k + (ops.size - k) = ops.size by omega, Array.getElem?_eq_none (Nat.le_refl _)] at h1
      have h2 : tl.length ≤ ops.size - k := by simpa using h1
      have h3 := htl (ops.size - k - 1)
      rw [show k + (ops.size - k - 1) = ops.size - 1 by omega, Array.getElem?_eq_getElem (by omega)] at h3
      have h4 : ops.size - k - 1 < tl.length := by
        rcases Nat.lt_or_ge (ops.size - k - 1) tl.length with h | h
        · exact h
        · rw [List.getElem?_eq_none h] at h3; cases h3
      omega
    have main : ∀ w, R w0 w → (∀ j, D j w) → wpAnyV P md ops Q tl.length listed a w := fun w hw hD => wpAnyV_seq hs hc tl k listed a w htl (by omega) (Nat.le_refl _) hf (h w hw hD)
    obtain ⟨t, ht⟩ : ∃ t, tl.length = t + 1 := ⟨tl.length - 1, by omega⟩
    rw [List.length_nil, Nat.zero_add, ht]
    rw [ht] at main
    refine ⟨fun h1 => ?_, fun _ => main, fun i hi hin => ?_⟩
    · have := ready_first (md := md) hn hf hs
      rw [h1] at this
      cases this
    · have := ready_tail (Nat.le_refl _) hf hc hi
      omega
  | o :: l, k, listed, a, D, hl, hk, hf, hun, hla, hex, h => by
    have h0 : ops[k]? = some o := by simpa using (hl 0 (by simp)).symm
    have hkn : k < n := by simp only [List.length_cons] at hk; omega
    have hr : k ∈ Region.ready md ops listed := ready_first (by omega) hf hs
    have hst : lOp P md ops R w0 S k (wpL P md ops R w0 S (fun a' D' => ∀ w, R w0 w → (∀ j, D' j w) → wpVL P ops Q tl a' w) (k + 1) l) a D := by unfold lOp; simp only [h0]; exact h
    obtain ⟨w, hw, hD⟩ := hex
    obtain ⟨hy, hK⟩ := of_lOp h0 hw hD hst
    have hlt : k < listed.size := by rw [hf.1]; omega
    have hl' : ∀ j, j < l.length → l[j]? = ops[k + 1 + j]? := fun j hj => by have := hl (j + 1) (by simp; omega); simpa [Nat.add_assoc, Nat.add_comm 1 j] using this
    have hunk : ∀ D' : Facts, (∀ j, j ≠ k → D' j = D j) → ∀ j w, (listed.setIfInBounds k true).getD j true = false → D' j w := fun D' hD' j w hj => by
      have hjk : k ≠ j := fun e => by subst e; simp [hlt] at hj
      rw [hD' j (Ne.symm hjk)]
      rw [getD_set_ne true hjk] at hj
      exact hun j w hj
    have hfree : ∀ j oj, ops[j]? = some oj → j ≠ k → listed.getD j true = false → (∀ e ∈ oj.after, Region.binds md e = true → e.on ≠ k) → o.apart ops oj = true := fun j oj hoj hjk hun' hno => by
      have hjl : j < ops.size := (Array.getElem?_eq_some_iff.1 hoj).1
      have h1 := hf.2 j hjl
      have hkj : k < j := by
        rcases Nat.lt_or_ge k j with h | h
        · exact h
        · simp [Array.getD_eq_getD_getElem?, h1, show j < k by omega] at hun'
      exact pairB_apart (hp k j o oj hkj h0 hoj) hno
    have hk' : k + 1 + l.length = n := by simp only [List.length_cons] at hk; omega
    rw [List.length_cons, show l.length + 1 + tl.length = (l.length + tl.length) + 1 by omega]
    refine wpAnyT_first hR hS h0 hkn (Region.noSelect_spec hsel) (fun j oj => hlate k o j oj hkn h0) (l.length + tl.length) listed a D (closed_first hf hs) hfree hun hr hla ⟨w, hw, hD⟩ hy ⟨?_, ?_, ?_⟩
    · exact fun h => wpAnyT_lex hR hS hsel hs hp hc hn hlate tl htl l (k + 1) _ _ _ hl' hk' (hf.next (by omega)) (hunk D fun _ _ => rfl) hla ⟨w, hw, hD⟩ (hK.1 h)
    · exact fun h hs' c hc' => wpAnyT_lex hR hS hsel hs hp hc hn hlate tl htl l (k + 1) _ _ _ hl' hk' (hf.next (by omega)) (hunk D fun _ _ => rfl) hla ⟨w, hw, hD⟩ (hK.2.1 h hs' c hc')
    · exact fun h s hs' v w' hw' hD' hv => wpAnyT_lex hR hS hsel hs hp hc hn hlate tl htl l (k + 1) _ _ _ hl' hk' (hf.next (by omega)) (hunk _ fun j hj => by funext w; exact upd_ne hj) (hla.upd hS hs' v) ⟨w', hw', upd_all hD' hv⟩ (hK.2.2 h s hs' v w' hw' hD' hv)

/-- A region whose stores come last, over worlds that grow. -/
theorem wp_region_tail {id : Nat} {Q : Exit → Act → World → Prop} {a : Act} {w : World} {l : List Oper} (n : Nat) (L : List (Nat × (Value → World → Prop)))
    (hS : Lasts (fun w w' : World => RowKit.Below w.heap.size w w') (lk L)) (hm : P.follows .mixedOrders = true) (hB : lexQ .any l.toArray = true) (hT : tailB .any l.toArray n = true)
    (h : wpL P .any l.toArray (fun w w' : World => RowKit.Below w.heap.size w w') w (lk L) (fun a' D' => ∀ w' : World, RowKit.Below w.heap.size w w' → (∀ j, D' j w') → wpVL P l.toArray Q (l.drop n) a' w') 0 (l.take n) a (fun _ _ => True)) :
    (Code.region id l.toArray true).wp P Q a w := by
  unfold lexQ at hB
  rw [Bool.and_eq_true] at hB
  obtain ⟨h1, h2⟩ := hB
  obtain ⟨s1, s2⟩ := lexFromQ_spec _ _ h2
  unfold tailB at hT
  rw [Bool.and_eq_true, decide_eq_true_eq] at hT
  obtain ⟨hn, hall⟩ := hT
  have hR : ∀ a b c : World, RowKit.Below a.heap.size a b → RowKit.Below b.heap.size b c → RowKit.Below a.heap.size a c := fun _ _ _ h k => RowKit.Below.trans h (k.mono h.size)
  have htail : ∀ j oj, n ≤ j → l.toArray[j]? = some oj → (j = n ∨ (aft .any oj).testBit (j - 1) = true) ∧ ∀ i oi, i < n → l.toArray[i]? = some oi → lateB oi = true ∨ (reachM .any l.toArray 8 (aft .any oj)).testBit i = true := by
    intro j oj hj hoj
    have hlt : j < l.toArray.size := (Array.getElem?_eq_some_iff.1 hoj).1
    have h3 := List.all_eq_true.1 hall j (List.mem_range.2 hlt)
    simp only [hoj, Bool.or_eq_true, Bool.and_eq_true, decide_eq_true_eq] at h3
    rcases h3 with h3 | ⟨h3, h4⟩
    · omega
    · refine ⟨h3, fun i oi hi hoi => ?_⟩
      have h5 := List.all_eq_true.1 h4 i (List.mem_range.2 hi)
      simp only [hoi, Bool.or_eq_true] at h5
      exact h5
  have htk : (l.take n).length = n := by rw [List.length_take]; simp at hn; omega
  have H := wpAnyT_lex (P := P) (md := .any) (ops := l.toArray) (Q := Q) (n := n) (S := lk L) (w0 := w) hR hS h1 (fun j o ho e he hb => by simpa using s1 j o (by simpa using ho) e he hb) (fun i j oi oj hij hi hj => by simpa using s2 i j oi oj hij (by simpa using hi) (by simpa using hj))
    (fun j oj hj hoj => by
      rcases (htail j oj (by omega) hoj).1 with h | h
      · omega
      · exact aft_of h) hn
    (fun i oi j oj hi hoi hj hoj => by
      exact (htail j oj hj hoj).2 i oi hi hoi) (l.drop n) (fun j => by simp [List.getElem?_drop])
    (l.take n) 0 (Array.replicate l.toArray.size false) a (fun _ _ => True) (fun j hj => by rw [htk] at hj; simp [hj]) (by omega) ⟨by simp, fun j hj => by simp at hj ⊢; simp [hj]⟩
    (fun _ _ _ => trivial) (fun _ _ _ _ h => h) ⟨w, RowKit.Below.refl _ _, fun _ => trivial⟩ h
  refine wp_region_any hm ?_
  have hlen : (l.take n).length + (l.drop n).length = l.toArray.size := by simp at hn ⊢; omega
  rw [hlen] at H
  exact wpAny_of_T (w0 := w) hR hS _ _ _ (fun _ _ => True) _ ⟨rfl, rfl, rfl, Nat.le_refl _, fun _ _ => rfl⟩ (fun _ _ _ _ h => h) (fun _ => trivial) H

theorem wpVL_step {o : Oper} {rest : List Oper} {a : Act} {w : World} (hw : Region.wanted o (yielded ops a.tmps) = true) (h : ∀ K : Act → World → Prop, (∀ a w, wpVL P ops Q rest a w → K a w) → vUpon P o a K ((execOp a.eval o).run P w)) : wpVL P ops Q (o :: rest) a w := by
  unfold wpVL
  rw [if_pos hw]
  exact h _ (fun _ _ h => h)
theorem wpVL_nil {a : Act} {w : World} (h : Q .normal a w) : wpVL P ops Q [] a w := h
end
end Go.Loose
namespace Go.LooseT
open Go Go.Loose
set_option linter.unusedVariables false

section
variable (P : Program) (md : Region.Mode) (ops : Array Oper) (R : World → World → Prop) (T : Nat → World → World → Prop) (w0 : World) (S : Nat → Option (Value → World → Prop))

def UponAt (k : Nat) (o : Oper) (a : Act) (D : Facts) (s : Value → World → Prop) : Prop := ∀ w, R w0 w → Needs md o D w → Upon P (T k) s w ((execOp a.eval o).run P w)

/-- Operation k in state (a, D), where it is wanted. -/
def One (k : Nat) (o : Oper) (a : Act) (D : Facts) (next : Act → Facts → Prop) : Prop :=
  match S k with
  | none => ∃ c, StillAt P md R w0 o a D c ∧ next (a.put o.dst c) D
  | some s => UponAt P md R T w0 k o a D s ∧ ∀ v w, R w0 w → (∀ j, D j w) → s v w → next (a.put o.dst v) (upd D k (s v))

/-- The lexical walk. -/
def wpL (Q : Act → Facts → Prop) : Nat → List Oper → Act → Facts → Prop
  | _, [], a, D => Q a D
  | k, o :: rest, a, D =>
    if Region.wanted o (yielded ops a.tmps) then One P md R T w0 S k o a D (wpL Q (k + 1) rest) else wpL Q (k + 1) rest (a.put o.dst undef) D

def lOp (k : Nat) (K : Act → Facts → Prop) (a : Act) (D : Facts) : Prop :=
  match ops[k]? with
  | none => K a D
  | some o => if Region.wanted o (yielded ops a.tmps) then One P md R T w0 S k o a D K else K (a.put o.dst undef) D

end

section
variable {P : Program} {md : Region.Mode} {ops : Array Oper} {R : World → World → Prop} {T : Nat → World → World → Prop} {w0 : World} {S : Nat → Option (Value → World → Prop)}

theorem One.mono {k : Nat} {o : Oper} {a : Act} {D : Facts} {K K' : Act → Facts → Prop} (h : ∀ a D, K a D → K' a D) (hh : One P md R T w0 S k o a D K) : One P md R T w0 S k o a D K' := by
  unfold One at *
  split at hh
  · obtain ⟨c, h1, h2⟩ := hh; exact ⟨c, h1, h _ _ h2⟩
  · exact ⟨hh.1, fun v w hw hD hs => h _ _ (hh.2 v w hw hD hs)⟩

theorem lOp.mono {k : Nat} {a : Act} {D : Facts} {K K' : Act → Facts → Prop} (h : ∀ a D, K a D → K' a D) (hh : lOp P md ops R T w0 S k K a D) : lOp P md ops R T w0 S k K' a D := by
  unfold lOp at *
  split
  · exact h _ _ (by simpa [*] using hh)
  · rename_i o ho
    simp only [ho] at hh
    split
    · rename_i hw; simp only [hw, if_true] at hh; exact hh.mono h
    · rename_i hw; simp only [hw] at hh; exact h _ _ hh

/-- The facts last. -/
def Lasts (T : Nat → World → World → Prop) (S : Nat → Option (Value → World → Prop)) : Prop := ∀ k s, S k = some s → ∀ i v w w', i ≠ k → T i w w' → s v w → s v w'

/-- All facts of D last. -/
def LastsD (T : Nat → World → World → Prop) (D : Facts) : Prop := ∀ i j w w', i ≠ j → T i w w' → D j w → D j w'

theorem LastsD.upd {D : Facts} (h : LastsD T D) (hS : Lasts T S) {k : Nat} {s : Value → World → Prop} (hk : S k = some s) (v : Value) : LastsD T (upd D k (s v)) := by
  intro i j w w' hij ht hj
  unfold Loose.upd at *
  split
  · rename_i e; rw [if_pos e] at hj; exact hS k s hk i v w w' (by rw [← e]; exact hij) ht hj
  · rename_i e; rw [if_neg e] at hj; exact h i j w w' hij ht hj

theorem LastsD.all {D : Facts} (h : LastsD T D) {k : Nat} (hun : ∀ w, D k w) {w w' : World} (ht : T k w w') (hD : ∀ j, D j w) : ∀ j, D j w' := fun j => by
  by_cases e : j = k
  · subst e; exact hun w'
  · exact h k j w w' (Ne.symm e) ht (hD j)

/-- From the class to the machine. -/
theorem wpOp_of_lOp {i : Nat} {a : Act} {D : Facts} {K : Act → Facts → Prop} {K' : Act → World → Prop} {Q' : Exit → Act → World → Prop} {w : World}
    (hR : ∀ k a b c, R a b → T k b c → R a c) (hS : Lasts T S) (hDl : LastsD T D) (hun : ∀ w, D i w) (hw : R w0 w) (hD : ∀ j, D j w)
    (h : ∀ a D' w', R w0 w' → LastsD T D' → (∀ j, j ≠ i → D' j = D j) → (∀ j, D' j w') → K a D' → K' a w') (hh : lOp P md ops R T w0 S i K a D) : wpOp P ops Q' i K' a w := by
  unfold lOp at hh
  unfold wpOp
  split
  · rename_i ho; simp only [ho] at hh; exact h _ _ _ hw hDl (fun _ _ => rfl) hD hh
  · rename_i o ho
    simp only [ho] at hh
    split
    · rename_i hwt
      simp only [hwt, if_true] at hh
      refine .inl ?_
      unfold One at hh
      unfold Oper.wp
      split at hh
      · obtain ⟨c, h1, h2⟩ := hh
        have h3 := h1 w hw (fun e _ _ => hD _)
        generalize (execOp a.eval o).run P w = r at h3
        cases r with
        | ok n w' =>
          cases n <;> simp only [Still] at h3
          · obtain ⟨rfl, rfl⟩ := h3; simp only [Oper.upon]; exact h _ _ _ hw hDl (fun _ _ => rfl) hD h2
          · obtain ⟨rfl, rfl⟩ := h3; simp only [Oper.upon]; exact h _ _ _ hw hDl (fun _ _ => rfl) hD h2
        | halt x w' => simp only [Still] at h3
      · rename_i s hs
        obtain ⟨h1, h2⟩ := hh
        have h3 := h1 w hw (fun e _ _ => hD _)
        generalize (execOp a.eval o).run P w = r at h3
        cases r with
        | ok n w' =>
          cases n <;> simp only [Upon] at h3
          · obtain ⟨h4, h5⟩ := h3
            simp only [Oper.upon]
            have hw' := hR _ _ _ _ hw h4
            have hD' : ∀ j, D j w' := hDl.all hun h4 hD
            exact h _ _ _ hw' (hDl.upd hS hs _) (fun j hj => by funext w; exact upd_ne hj) (upd_all hD' h5) (h2 _ _ hw' hD' h5)
          · obtain ⟨h4, h5⟩ := h3
            simp only [Oper.upon]
            have hw' := hR _ _ _ _ hw h4
            have hD' : ∀ j, D j w' := hDl.all hun h4 hD
            exact h _ _ _ hw' (hDl.upd hS hs _) (fun j hj => by funext w; exact upd_ne hj) (upd_all hD' h5) (h2 _ _ hw' hD' h5)
          · obtain ⟨h4, hc⟩ := h3
            simp only [Oper.upon]
            refine hc.mono fun e w'' ⟨u, he, h6, h5⟩ => ?_
            subst he
            have hw' := hR _ _ _ _ (hR _ _ _ _ hw h4) h6
            have hD' : ∀ j, D j w'' := hDl.all hun h6 (hDl.all hun h4 hD)
            exact h _ _ _ hw' (hDl.upd hS hs _) (fun j hj => by funext w; exact upd_ne hj) (upd_all hD' h5) (h2 _ _ hw' hD' h5)
        | halt x w' => simp only [Upon] at h3
    · rename_i hwt; simp only [hwt] at hh; exact h _ _ _ hw hDl (fun _ _ => rfl) hD hh

/-- What operation 'oi' (number i) is, in state (a, D): told apart from what follows. -/
inductive Is (P : Program) (md : Region.Mode) (ops : Array Oper) (R : World → World → Prop) (T : Nat → World → World → Prop) (w0 : World) (S : Nat → Option (Value → World → Prop)) (i : Nat) (oi : Oper) (a : Act) (D : Facts) : Prop
  | not (h : Region.wanted oi (yielded ops a.tmps) = false)
  | still (h : Region.wanted oi (yielded ops a.tmps) = true) (hs : S i = none) (c : Value) (hc : StillAt P md R w0 oi a D c)
  | upon (h : Region.wanted oi (yielded ops a.tmps) = true) (s : Value → World → Prop) (hs : S i = some s) (hc : UponAt P md R T w0 i oi a D s)

theorem UponAt.of {k : Nat} {o : Oper} {a a' : Act} {D D' : Facts} {s : Value → World → Prop} (he : execOp a'.eval o = execOp a.eval o) (hN : ∀ w, Needs md o D' w → Needs md o D w) (h : UponAt P md R T w0 k o a D s) : UponAt P md R T w0 k o a' D' s := by
  intro w hw hn; rw [he]; exact h w hw (hN w hn)

/-- A world in which an operation's fact holds. -/
theorem UponAt.gives {k : Nat} {o : Oper} {a : Act} {D : Facts} {s : Value → World → Prop} (hR : ∀ k a b c, R a b → T k b c → R a c) (hl : LastsD T D) (hun : ∀ w, D k w) {w : World} (hw : R w0 w) (hD : ∀ j, D j w)
    (h : UponAt P md R T w0 k o a D s) : ∃ v w', R w0 w' ∧ (∀ j, D j w') ∧ s v w' := by
  have h3 := h w hw (fun e _ _ => hD _)
  generalize (execOp a.eval o).run P w = r at h3
  cases r with
  | ok n w' =>
    cases n <;> simp only [Upon] at h3
    · exact ⟨_, w', hR _ _ _ _ hw h3.1, hl.all hun h3.1 hD, h3.2⟩
    · exact ⟨_, w', hR _ _ _ _ hw h3.1, hl.all hun h3.1 hD, h3.2⟩
    · obtain ⟨h4, hc⟩ := h3
      obtain ⟨e, w'', fr, ⟨u, _, h5, h6⟩, _⟩ := hc []
      exact ⟨u, w'', hR _ _ _ _ (hR _ _ _ _ hw h4) h5, hl.all hun h5 (hl.all hun h4 hD), h6⟩
  | halt x w' => simp only [Upon] at h3

/-- What follows operation i. -/
def Then (P : Program) (md : Region.Mode) (ops : Array Oper) (R : World → World → Prop) (T : Nat → World → World → Prop) (w0 : World) (S : Nat → Option (Value → World → Prop)) (i : Nat) (oi : Oper) (a : Act) (D : Facts) (K : Act → Facts → Prop) : Prop :=
  (Region.wanted oi (yielded ops a.tmps) = false → K (a.put oi.dst undef) D) ∧
  (Region.wanted oi (yielded ops a.tmps) = true → S i = none → ∀ c, StillAt P md R w0 oi a D c → K (a.put oi.dst c) D) ∧
  (Region.wanted oi (yielded ops a.tmps) = true → ∀ s, S i = some s → ∀ v w, R w0 w → (∀ j, D j w) → s v w → K (a.put oi.dst v) (upd D i (s v)))

theorem lOp_of {i : Nat} {oi : Oper} {a : Act} {D : Facts} {K : Act → Facts → Prop} (hi : ops[i]? = some oi) (h : Is P md ops R T w0 S i oi a D) (hk : Then P md ops R T w0 S i oi a D K) : lOp P md ops R T w0 S i K a D := by
  unfold lOp
  simp only [hi]
  cases h with
  | not h => simp only [h, Bool.false_eq_true, if_false]; exact hk.1 h
  | still h hs c hc => simp only [h, if_true, One, hs]; exact ⟨c, hc, hk.2.1 h hs c hc⟩
  | upon h s hs hc => simp only [h, if_true, One, hs]; exact ⟨hc, hk.2.2 h s hs⟩

theorem of_lOp {i : Nat} {oi : Oper} {a : Act} {D : Facts} {K : Act → Facts → Prop} (hi : ops[i]? = some oi) {w : World} (hw : R w0 w) (hD : ∀ j, D j w) (h : lOp P md ops R T w0 S i K a D) :
    Is P md ops R T w0 S i oi a D ∧ Then P md ops R T w0 S i oi a D K := by
  unfold lOp at h
  simp only [hi] at h
  by_cases hwt : Region.wanted oi (yielded ops a.tmps) = true
  · simp only [hwt, if_true, One] at h
    split at h
    · rename_i hs
      obtain ⟨c, h1, h2⟩ := h
      exact ⟨.still hwt hs c h1, fun h => by (rw [hwt] at h; cases h), fun _ _ c' h' => by rw [StillAt.unique hw hD h' h1]; exact h2, fun _ s hs' => by (rw [hs] at hs'; cases hs')⟩
    · rename_i s hs
      exact ⟨.upon hwt s hs h.1, fun h => by (rw [hwt] at h; cases h), fun _ hs' => by (rw [hs] at hs'; cases hs'), fun _ s' hs' => by rw [hs] at hs'; cases hs'; exact h.2⟩
  · simp only [hwt] at h
    have hwf : Region.wanted oi (yielded ops a.tmps) = false := by simpa using hwt
    exact ⟨.not hwf, fun _ => h, fun h => absurd h hwt, fun h => absurd h hwt⟩

theorem Is.of {i : Nat} {oi : Oper} {a a' : Act} {D D' : Facts} (hwt : Region.wanted oi (yielded ops a'.tmps) = Region.wanted oi (yielded ops a.tmps)) (he : execOp a'.eval oi = execOp a.eval oi)
    (hN : ∀ w, Needs md oi D' w → Needs md oi D w) (h : Is P md ops R T w0 S i oi a D) : Is P md ops R T w0 S i oi a' D' := by
  cases h with
  | not h => exact .not (hwt.trans h)
  | still h hs c hc => exact .still (hwt.trans h) hs c (hc.of he hN)
  | upon h s hs hc => exact .upon (hwt.trans h) s hs (hc.of he hN)

end

section
variable (P : Program) (md : Region.Mode) (ops : Array Oper) (R : World → World → Prop) (T : Nat → World → World → Prop) (w0 : World) (S : Nat → Option (Value → World → Prop)) (Q : Exit → Act → World → Prop)

/-- The head over a class of worlds; the tail exactly. -/
def wpAnyT (n : Nat) : Nat → Array Bool → Act → Facts → Prop
  | 0, listed, a, D => ∀ w, R w0 w → (∀ j, D j w) → wpAnyV P md ops Q 0 listed a w
  | f + 1, listed, a, D => Region.ready md ops listed ≠ [] ∧ ((∃ j ∈ Region.ready md ops listed, n ≤ j) → ∀ w, R w0 w → (∀ j, D j w) → wpAnyV P md ops Q (f + 1) listed a w) ∧
    ∀ i ∈ Region.ready md ops listed, i < n → lOp P md ops R T w0 S i (wpAnyT n f (listed.setIfInBounds i true)) a D
end

section
variable {P : Program} {md : Region.Mode} {ops : Array Oper} {R : World → World → Prop} {T : Nat → World → World → Prop} {w0 : World} {S : Nat → Option (Value → World → Prop)} {Q : Exit → Act → World → Prop}

theorem wpAny_of_T {n : Nat} (hR : ∀ k a b c, R a b → T k b c → R a c) (hS : Lasts T S) : ∀ (fuel : Nat) (listed : Array Bool) (a : Act) (D : Facts) (w : World), R w0 w → LastsD T D → (∀ k w, listed.getD k true = false → D k w) → (∀ j, D j w) →
    wpAnyT P md ops R T w0 S Q n fuel listed a D → wpAny P md ops Q fuel listed a w
  | 0, _, _, _, _, hw, _, _, hD, h => wpAny_of_V _ _ _ _ (h _ hw hD)
  | fuel + 1, listed, a, D, w, hw, hl, hun, hD, h => by
    by_cases ht : ∃ j ∈ Region.ready md ops listed, n ≤ j
    · exact wpAny_of_V _ _ _ _ (h.2.1 ht w hw hD)
    · refine ⟨fun h0 => absurd h0 h.1, fun i hi => ?_⟩
      have hin : i < n := by
        rcases Nat.lt_or_ge i n with h' | h'
        · exact h'
        · exact absurd ⟨i, hi, h'⟩ ht
      have hiu := (mem_ready.1 hi).1
      refine wpOp_of_lOp hR hS hl (fun w => hun i w hiu) hw hD (fun a' D' w' hw' hl' he hD' => wpAny_of_T hR hS fuel _ a' D' w' hw' hl' (fun k w hk => ?_) hD') (h.2.2 i hi hin)
      have hik : i ≠ k := fun e => by
        subst e
        have hlt : i < listed.size := by
          rcases Nat.lt_or_ge i listed.size with h' | h'
          · exact h'
          · simp [Array.getElem?_eq_none h'] at hiu
        simp [hlt] at hk
      rw [he k (Ne.symm hik)]
      rw [getD_set_ne true hik] at hk
      exact hun k w hk

/-- A head's operation may be taken first. -/
theorem wpAnyT_first {n : Nat} (hR : ∀ k a b c, R a b → T k b c → R a c) (hS : Lasts T S) {i : Nat} {oi : Oper} (hi : ops[i]? = some oi) (hin : i < n) (hsel : ∀ (j : Nat) (o : Oper) cs b, ops[j]? = some o → o.op ≠ .select cs b)
    (hlate : ∀ j oj, n ≤ j → ops[j]? = some oj → lateB oi = true ∨ (reachM md ops 8 (aft md oj)).testBit i = true) :
    ∀ (fuel : Nat) (listed : Array Bool) (a : Act) (D : Facts),
      Closed md ops listed →
      (∀ j oj, ops[j]? = some oj → j ≠ i → listed.getD j true = false → (∀ e ∈ oj.after, Region.binds md e = true → e.on ≠ i) → oi.apart ops oj = true) →
      (∀ k w, listed.getD k true = false → D k w) →
      i ∈ Region.ready md ops listed → LastsD T D → (∃ w, R w0 w ∧ ∀ j, D j w) → Is P md ops R T w0 S i oi a D →
      Then P md ops R T w0 S i oi a D (wpAnyT P md ops R T w0 S Q n fuel (listed.setIfInBounds i true)) → wpAnyT P md ops R T w0 S Q n (fuel + 1) listed a D := by
  intro fuel
  -- a tail's operation ready now: the head's operation is a move
  have hV : ∀ (fuel : Nat) (listed : Array Bool) (a : Act) (D : Facts),
      Closed md ops listed →
      (∀ j oj, ops[j]? = some oj → j ≠ i → listed.getD j true = false → (∀ e ∈ oj.after, Region.binds md e = true → e.on ≠ i) → oi.apart ops oj = true) →
      i ∈ Region.ready md ops listed → LastsD T D → Is P md ops R T w0 S i oi a D →
      Then P md ops R T w0 S i oi a D (wpAnyT P md ops R T w0 S Q n fuel (listed.setIfInBounds i true)) →
      (∃ j ∈ Region.ready md ops listed, n ≤ j) → ∀ w, R w0 w → (∀ j, D j w) → wpAnyV P md ops Q (fuel + 1) listed a w := by
    intro fuel listed a D hcl hfree hr hl hy H ⟨j, hj, hnj⟩ w hw hD
    have hji : j ≠ i := by omega
    have hrj := ready_mono hj hji
    obtain ⟨_, oj, hoj, hall⟩ := mem_ready.1 hj
    have hun := (mem_ready.1 hr).1
    have hla : lateB oi = true := by
      rcases hlate j oj hnj hoj with h | h
      · exact h
      · have h1 := reach_listed hcl 8 _ (fun m hm => by obtain ⟨e, he, hb, rfl⟩ := aft_of hm; exact hall e he hb) i h
        rw [getD_both hun] at h1
        cases h1
    have fin : ∀ (c : Value) (D' : Facts), (∀ j, D' j w) → wpAnyT P md ops R T w0 S Q n fuel (listed.setIfInBounds i true) (a.put oi.dst c) D' → wpAnyV P md ops Q fuel (listed.setIfInBounds i true) (a.put oi.dst c) w := by
      intro c D' hD' h
      cases fuel with
      | zero => exact h w hw hD'
      | succ f => exact h.2.1 ⟨j, hrj, hnj⟩ w hw hD'
    cases hy with
    | not h => exact wpAnyV_first hi hsel _ _ _ _ hfree hr (.inl ⟨h, rfl⟩) (fin _ _ hD (H.1 h))
    | still h hs c hc =>
      have h3 := hc w hw (fun e _ _ => hD _)
      cases hrun : (execOp a.eval oi).run P w with
      | ok nx w' =>
        obtain ⟨rfl, hall', v, rfl⟩ := (fun w2 => late_run (w2 := w2) hla a.eval hrun) w
        rw [hrun] at h3
        simp only [Still] at h3
        obtain ⟨_, rfl⟩ := h3
        exact wpAnyV_first hi hsel _ _ _ _ hfree hr (.inr ⟨h, fun w2 => (late_run (w2 := w2) hla a.eval hrun).2.1⟩) (fin _ _ hD (H.2.1 h hs _ hc))
      | halt x w' => rw [hrun] at h3; simp only [Still] at h3
    | upon h s hs hc =>
      have h3 := hc w hw (fun e _ _ => hD _)
      cases hrun : (execOp a.eval oi).run P w with
      | ok nx w' =>
        obtain ⟨rfl, hall', v, rfl⟩ := (fun w2 => late_run (w2 := w2) hla a.eval hrun) w
        rw [hrun] at h3
        simp only [Upon] at h3
        exact wpAnyV_first hi hsel _ _ _ _ hfree hr (.inr ⟨h, fun w2 => (late_run (w2 := w2) hla a.eval hrun).2.1⟩) (fin _ _ (upd_all hD h3.2) (H.2.2 h s hs v _ hw hD h3.2))
      | halt x w' => rw [hrun] at h3; simp only [Upon] at h3
  induction fuel with
  | zero =>
    intro listed a D hcl hfree hunl hr hl hex hy H
    refine ⟨fun h => (by rw [h] at hr; cases hr), hV 0 listed a D hcl hfree hr hl hy H, fun j hj hjn => ?_⟩
    by_cases hji : j = i
    · subst hji; exact lOp_of hi hy H
    · have h1 := ready_mono hj hji
      obtain ⟨w, hw, hD⟩ := hex
      exfalso
      have h2 : Region.ready md ops (listed.setIfInBounds i true) = [] := by
        cases hy with
        | not h => exact (H.1 h w hw hD).1
        | still h hs c hc => exact (H.2.1 h hs c hc w hw hD).1
        | upon h s hs hc =>
          obtain ⟨v, w', hw', hD', hv⟩ := hc.gives hR hl (fun w => hunl i w (mem_ready.1 hr).1) hw hD
          exact (H.2.2 h s hs v w' hw' hD' hv w' hw' (upd_all hD' hv)).1
      rw [h2] at h1
      cases h1
  | succ fuel ih =>
    intro listed a D hcl hfree hunl hr hl hex hy H
    refine ⟨fun h => (by rw [h] at hr; cases hr), hV (fuel + 1) listed a D hcl hfree hr hl hy H, fun j hj hjn => ?_⟩
    by_cases hji : j = i
    · subst hji; exact lOp_of hi hy H
    have hij : i ≠ j := Ne.symm hji
    obtain ⟨hjun, oj, hoj, hall⟩ := mem_ready.1 hj
    have hnot : ∀ e ∈ oj.after, Region.binds md e = true → e.on ≠ i := fun e he hb heq => by
      have h1 := hall e he hb
      have h0 := (mem_ready.1 hr).1
      rw [heq] at h1
      rcases Nat.lt_or_ge i listed.size with h' | h'
      · simp [h'] at h0 h1; rw [h0] at h1; cases h1
      · simp [Array.getElem?_eq_none h'] at h1
    have hnoti : ∀ e ∈ oi.after, Region.binds md e = true → e.on ≠ j := fun e he hb heq => by
      obtain ⟨_, oi', hoi', halli⟩ := mem_ready.1 hr
      rw [hi] at hoi'
      cases hoi'
      have h1 := halli e he hb
      rw [heq] at h1
      rcases Nat.lt_or_ge j listed.size with h' | h'
      · simp [h'] at hjun h1; rw [hjun] at h1; cases h1
      · simp [Array.getElem?_eq_none h'] at h1
    obtain ⟨ap1, ap2, ap3⟩ := Oper.apart_spec (hfree j oj hoj hji hjun hnot)
    have hsi := fun cs b => hsel i oi cs b hi
    have hsj := fun cs b => hsel j oj cs b hoj
    have hfree' : ∀ k ok, ops[k]? = some ok → k ≠ i → (listed.setIfInBounds j true).getD k true = false →
        (∀ e ∈ ok.after, Region.binds md e = true → e.on ≠ i) → oi.apart ops ok = true := fun k ok hk hki hun hno => by
      refine hfree k ok hk hki ?_ hno
      by_cases hjk : j = k
      · subst hjk; exact hjun
      · rw [getD_set_ne true hjk] at hun; exact hun
    have hcomm : (listed.setIfInBounds i true).setIfInBounds j true = (listed.setIfInBounds j true).setIfInBounds i true := Array.setIfInBounds_comm _ _ hij
    have keepI : ∀ u D', (∀ w, Needs md oi D' w → Needs md oi D w) → Is P md ops R T w0 S i oi (a.put oj.dst u) D' := fun u D' hN =>
      hy.of (wanted_put oi a oj.dst u ap3) (execOp_put oi hsi a oj.dst u ap3) hN
    have backJ : ∀ v D', (∀ w, Needs md oj D w → Needs md oj D' w) → Is P md ops R T w0 S j oj (a.put oi.dst v) D' → Is P md ops R T w0 S j oj a D := fun v D' hN h =>
      h.of (wanted_put oj a oi.dst v ap1).symm (execOp_put oj hsj a oi.dst v ap1).symm hN
    obtain ⟨w, hw, hD⟩ := hex
    have hrj := ready_mono hj hji
    have hri : i ∈ Region.ready md ops (listed.setIfInBounds j true) := ready_mono hr hij
    have wj : ∀ v, Region.wanted oj (yielded ops (a.put oi.dst v).tmps) = Region.wanted oj (yielded ops a.tmps) := fun v => wanted_put oj a oi.dst v ap1
    have ej : ∀ v, execOp (a.put oi.dst v).eval oj = execOp a.eval oj := fun v => execOp_put oj hsj a oi.dst v ap1
    have ei : ∀ u, execOp (a.put oj.dst u).eval oi = execOp a.eval oi := fun u => execOp_put oi hsi a oj.dst u ap3
    have wi : ∀ u, Region.wanted oi (yielded ops (a.put oj.dst u).tmps) = Region.wanted oi (yielded ops a.tmps) := fun u => wanted_put oi a oj.dst u ap3
    have pc : ∀ v u, (a.put oi.dst v).put oj.dst u = (a.put oj.dst u).put oi.dst v := fun v u => Act.put_comm a v u ap2
    have isJ : Is P md ops R T w0 S j oj a D := by
      cases hy with
      | not h => exact backJ undef D (fun _ h => h) (of_lOp hoj hw hD ((H.1 h).2.2 j hrj hjn)).1
      | still h hs c hc => exact backJ c D (fun _ h => h) (of_lOp hoj hw hD ((H.2.1 h hs c hc).2.2 j hrj hjn)).1
      | upon h s hs hc =>
        obtain ⟨v, w', hw', hD', hv⟩ := hc.gives hR hl (fun w => hunl i w (mem_ready.1 hr).1) hw hD
        exact backJ v _ (fun _ h => (Needs.of hnot).2 h) (of_lOp hoj hw' (upd_all hD' hv) ((H.2.2 h s hs v w' hw' hD' hv).2.2 j hrj hjn)).1
    refine lOp_of hoj isJ ?_
    have main : ∀ u D', (∀ k w, (listed.setIfInBounds j true).getD k true = false → D' k w) → LastsD T D' → (∃ w, R w0 w ∧ ∀ j, D' j w) → (∀ w, Needs md oi D' w → Needs md oi D w) → (∀ w, Needs md oi D w → Needs md oi D' w) →
        (Region.wanted oi (yielded ops a.tmps) = false → wpAnyT P md ops R T w0 S Q n fuel ((listed.setIfInBounds i true).setIfInBounds j true) ((a.put oi.dst undef).put oj.dst u) D') →
        (Region.wanted oi (yielded ops a.tmps) = true → S i = none → ∀ c, StillAt P md R w0 oi a D c → wpAnyT P md ops R T w0 S Q n fuel ((listed.setIfInBounds i true).setIfInBounds j true) ((a.put oi.dst c).put oj.dst u) D') →
        (Region.wanted oi (yielded ops a.tmps) = true → ∀ s, S i = some s → ∀ v w, R w0 w → (∀ j, D' j w) → s v w → wpAnyT P md ops R T w0 S Q n fuel ((listed.setIfInBounds i true).setIfInBounds j true) ((a.put oi.dst v).put oj.dst u) (upd D' i (s v))) →
        wpAnyT P md ops R T w0 S Q n (fuel + 1) (listed.setIfInBounds j true) (a.put oj.dst u) D' := by
      intro u D' hunl' hl' hex' hN hN' h1 h2 h3
      refine ih (listed.setIfInBounds j true) (a.put oj.dst u) D' (hcl.set hj) hfree' hunl' hri hl' hex' (keepI u D' hN) ⟨?_, ?_, ?_⟩
      · intro h; rw [wi u] at h; have := h1 h; rw [hcomm, pc] at this; exact this
      · intro h hs c hc
        rw [wi u] at h
        have := h2 h hs c (hc.of (ei u).symm hN')
        rw [hcomm, pc] at this; exact this
      · intro h s hs v w hw hD hv
        rw [wi u] at h
        have := h3 h s hs v w hw hD hv
        rw [hcomm, pc] at this; exact this
    have hunlD : ∀ k w, (listed.setIfInBounds j true).getD k true = false → D k w := fun k w hk => by
      by_cases hjk : j = k
      · subst hjk; exact hunl _ _ hjun
      · rw [getD_set_ne true hjk] at hk; exact hunl k w hk
    refine ⟨?_, ?_, ?_⟩
    · intro hjw
      refine main undef D hunlD hl ⟨w, hw, hD⟩ (fun _ h => h) (fun _ h => h) ?_ ?_ ?_
      · intro h; exact (of_lOp hoj hw hD ((H.1 h).2.2 j hrj hjn)).2.1 (by rw [wj]; exact hjw)
      · intro h hs c hc; exact (of_lOp hoj hw hD ((H.2.1 h hs c hc).2.2 j hrj hjn)).2.1 (by rw [wj]; exact hjw)
      · intro h s hs v w' hw' hD' hv
        exact (of_lOp hoj hw' (upd_all hD' hv) ((H.2.2 h s hs v w' hw' hD' hv).2.2 j hrj hjn)).2.1 (by rw [wj]; exact hjw)
    · intro hjw hjs c hc
      refine main c D hunlD hl ⟨w, hw, hD⟩ (fun _ h => h) (fun _ h => h) ?_ ?_ ?_
      · intro h; exact (of_lOp hoj hw hD ((H.1 h).2.2 j hrj hjn)).2.2.1 (by rw [wj]; exact hjw) hjs c (hc.of (ej _) (fun _ h => h))
      · intro h hs c' hc'; exact (of_lOp hoj hw hD ((H.2.1 h hs c' hc').2.2 j hrj hjn)).2.2.1 (by rw [wj]; exact hjw) hjs c (hc.of (ej _) (fun _ h => h))
      · intro h s hs v w' hw' hD' hv
        exact (of_lOp hoj hw' (upd_all hD' hv) ((H.2.2 h s hs v w' hw' hD' hv).2.2 j hrj hjn)).2.2.1 (by rw [wj]; exact hjw) hjs c (hc.of (ej _) (fun _ h => (Needs.of hnot).1 h))
    · intro hjw s hjs u w1 hw1 hD1 hu
      have hunlU : ∀ k w, (listed.setIfInBounds j true).getD k true = false → upd D j (s u) k w := fun k w hk => by
        have hjk : j ≠ k := fun e => by
          subst e
          have hlt : j < listed.size := by
            rcases Nat.lt_or_ge j listed.size with h' | h'
            · exact h'
            · simp [Array.getElem?_eq_none h'] at hjun
          simp [hlt] at hk
        rw [upd_ne (Ne.symm hjk)]
        exact hunlD k w hk
      refine main u (upd D j (s u)) hunlU (hl.upd hS hjs u) ⟨w1, hw1, upd_all hD1 hu⟩ (fun _ h => (Needs.of hnoti).1 h) (fun _ h => (Needs.of hnoti).2 h) ?_ ?_ ?_
      · intro h; exact (of_lOp hoj hw hD ((H.1 h).2.2 j hrj hjn)).2.2.2 (by rw [wj]; exact hjw) s hjs u w1 hw1 hD1 hu
      · intro h hs c' hc'; exact (of_lOp hoj hw hD ((H.2.1 h hs c' hc').2.2 j hrj hjn)).2.2.2 (by rw [wj]; exact hjw) s hjs u w1 hw1 hD1 hu
      · intro h s' hs' v w' hw' hD' hv
        have hD0 : ∀ k, k ≠ j → D k w' := fun k hk => by have := hD' k; rwa [upd_ne hk] at this
        have huw : s u w' := by have := hD' j; simpa [upd] using this
        have hDw' : ∀ k, D k w' := fun k => by
          by_cases hk : k = j
          · subst hk; exact hunl _ _ hjun
          · exact hD0 k hk
        have := (of_lOp hoj hw' (upd_all hDw' hv) ((H.2.2 h s' hs' v w' hw' hDw' hv).2.2 j hrj hjn)).2.2.2 (by rw [wj]; exact hjw) s hjs u w' hw' (upd_all hDw' hv) huw
        rw [upd_comm hij] at this
        exact this

theorem wpAnyT_lex {n : Nat} (hR : ∀ k a b c, R a b → T k b c → R a c) (hS : Lasts T S) (hsel : Region.noSelect ops = true)
    (hs : ∀ j o, ops[j]? = some o → ∀ e ∈ o.after, Region.binds md e = true → e.on < j) (hp : ∀ i j oi oj, i < j → ops[i]? = some oi → ops[j]? = some oj → pairB md ops i oi oj = true)
    (hc : ∀ j oj, n < j → ops[j]? = some oj → ∃ e ∈ oj.after, Region.binds md e = true ∧ e.on = j - 1) (hn : n < ops.size)
    (hlate : ∀ i oi j oj, i < n → ops[i]? = some oi → n ≤ j → ops[j]? = some oj → lateB oi = true ∨ (reachM md ops 8 (aft md oj)).testBit i = true) (tl : List Oper) (htl : ∀ j, tl[j]? = ops[n + j]?) :
    ∀ (l : List Oper) (k : Nat) (listed : Array Bool) (a : Act) (D : Facts), (∀ j, j < l.length → l[j]? = ops[k + j]?) → k + l.length = n → FirstK ops.size k listed →
      (∀ k w, listed.getD k true = false → D k w) → LastsD T D → (∃ w, R w0 w ∧ ∀ j, D j w) →
      wpL P md ops R T w0 S (fun a' D' => ∀ w, R w0 w → (∀ j, D' j w) → wpVL P ops Q tl a' w) k l a D → wpAnyT P md ops R T w0 S Q n (l.length + tl.length) listed a D
  | [], k, listed, a, D, _, hk, hf, hun, hla, hex, h => by
    obtain rfl : k = n := by simpa using hk
    have hlen : tl.length = ops.size - k := by
      have h1 := htl (ops.size - k)
      rw [show k + (ops.size - k) = ops.size by omega, Array.getElem?_eq_none (Nat.le_refl _)] at h1
      have h2 : tl.length ≤ ops.size - k := by simpa using h1
      have h3 := htl (ops.size - k - 1)
      rw [show k + (ops.size - k - 1) = ops.size - 1 by omega, Array.getElem?_eq_getElem (by omega)] at h3
      have h4 : ops.size - k - 1 < tl.length := by
        rcases Nat.lt_or_ge (ops.size - k - 1) tl.length with h | h
        · exact h
        · rw [List.getElem?_eq_none h] at h3; cases h3
      omega
    have main : ∀ w, R w0 w → (∀ j, D j w) → wpAnyV P md ops Q tl.length listed a w := fun w hw hD => wpAnyV_seq hs hc tl k listed a w htl (by omega) (Nat.le_refl _) hf (h w hw hD)
    obtain ⟨t, ht⟩ : ∃ t, tl.length = t + 1 := ⟨tl.length - 1, by omega⟩
    rw [List.length_nil, Nat.zero_add, ht]
    rw [ht] at main
    refine ⟨fun h1 => ?_, fun _ => main, fun i hi hin => ?_⟩
    · have := ready_first (md := md) hn hf hs
      rw [h1] at this
      cases this
    · have := ready_tail (Nat.le_refl _) hf hc hi
      omega
  | o :: l, k, listed, a, D, hl, hk, hf, hun, hla, hex, h => by
    have h0 : ops[k]? = some o := by simpa using (hl 0 (by simp)).symm
    have hkn : k < n := by simp only [List.length_cons] at hk; omega
    have hr : k ∈ Region.ready md ops listed := ready_first (by omega) hf hs
    have hst : lOp P md ops R T w0 S k (wpL P md ops R T w0 S (fun a' D' => ∀ w, R w0 w → (∀ j, D' j w) → wpVL P ops Q tl a' w) (k + 1) l) a D := by unfold lOp; simp only [h0]; exact h
    obtain ⟨w, hw, hD⟩ := hex
    obtain ⟨hy, hK⟩ := of_lOp h0 hw hD hst
    have hlt : k < listed.size := by rw [hf.1]; omega
    have hl' : ∀ j, j < l.length → l[j]? = ops[k + 1 + j]? := fun j hj => by have := hl (j + 1) (by simp; omega); simpa [Nat.add_assoc, Nat.add_comm 1 j] using this
    have hunk : ∀ D' : Facts, (∀ j, j ≠ k → D' j = D j) → ∀ j w, (listed.setIfInBounds k true).getD j true = false → D' j w := fun D' hD' j w hj => by
      have hjk : k ≠ j := fun e => by subst e; simp [hlt] at hj
      rw [hD' j (Ne.symm hjk)]
      rw [getD_set_ne true hjk] at hj
      exact hun j w hj
    have hfree : ∀ j oj, ops[j]? = some oj → j ≠ k → listed.getD j true = false → (∀ e ∈ oj.after, Region.binds md e = true → e.on ≠ k) → o.apart ops oj = true := fun j oj hoj hjk hun' hno => by
      have hjl : j < ops.size := (Array.getElem?_eq_some_iff.1 hoj).1
      have h1 := hf.2 j hjl
      have hkj : k < j := by
        rcases Nat.lt_or_ge k j with h | h
        · exact h
        · simp [Array.getD_eq_getD_getElem?, h1, show j < k by omega] at hun'
      exact pairB_apart (hp k j o oj hkj h0 hoj) hno
    have hk' : k + 1 + l.length = n := by simp only [List.length_cons] at hk; omega
    rw [List.length_cons, show l.length + 1 + tl.length = (l.length + tl.length) + 1 by omega]
    refine wpAnyT_first hR hS h0 hkn (Region.noSelect_spec hsel) (fun j oj => hlate k o j oj hkn h0) (l.length + tl.length) listed a D (closed_first hf hs) hfree hun hr hla ⟨w, hw, hD⟩ hy ⟨?_, ?_, ?_⟩
    · exact fun h => wpAnyT_lex hR hS hsel hs hp hc hn hlate tl htl l (k + 1) _ _ _ hl' hk' (hf.next (by omega)) (hunk D fun _ _ => rfl) hla ⟨w, hw, hD⟩ (hK.1 h)
    · exact fun h hs' c hc' => wpAnyT_lex hR hS hsel hs hp hc hn hlate tl htl l (k + 1) _ _ _ hl' hk' (hf.next (by omega)) (hunk D fun _ _ => rfl) hla ⟨w, hw, hD⟩ (hK.2.1 h hs' c hc')
    · exact fun h s hs' v w' hw' hD' hv => wpAnyT_lex hR hS hsel hs hp hc hn hlate tl htl l (k + 1) _ _ _ hl' hk' (hf.next (by omega)) (hunk _ fun j hj => by funext w; exact upd_ne hj) (hla.upd hS hs' v) ⟨w', hw', upd_all hD' hv⟩ (hK.2.2 h s hs' v w' hw' hD' hv)

/-- The operations' relations: growth, but for those listed. -/
def tk : List (Nat × (World → World → Prop)) → Nat → World → World → Prop
  | [], _ => fun w w' => RowKit.Below w.heap.size w w'
  | (i, A) :: L, k => if k = i then A else tk L k

theorem lastsT_nil {X : List (Nat × (World → World → Prop))} : Lasts (tk X) (lk []) := fun k s h => by cases h
theorem lastsT_cons {X : List (Nat × (World → World → Prop))} {i : Nat} {s : Value → World → Prop} {L : List (Nat × (Value → World → Prop))} (h : ∀ j v w w', j ≠ i → tk X j w w' → s v w → s v w') (hL : Lasts (tk X) (lk L)) : Lasts (tk X) (lk ((i, s) :: L)) := by
  intro k t hk
  simp only [lk] at hk
  split at hk
  · rename_i e; cases hk; intro j v w w' hj; exact h j v w w' (by rw [← e]; exact hj)
  · exact hL k t hk
theorem lastsT_free {X : List (Nat × (World → World → Prop))} {i : Nat} {s : Value → World → Prop} {L : List (Nat × (Value → World → Prop))} (h : ∀ v w w', s v w → s v w') (hL : Lasts (tk X) (lk L)) : Lasts (tk X) (lk ((i, s) :: L)) := lastsT_cons (fun _ v w w' _ _ hs => h v w w' hs) hL

/-- A region whose stores come last, over worlds that grow, but for what the listed operations do. -/
theorem wp_region_tailT {id : Nat} {Q : Exit → Act → World → Prop} {a : Act} {w : World} {l : List Oper} (n : Nat) (X : List (Nat × (World → World → Prop))) (L : List (Nat × (Value → World → Prop)))
    (hX : ∀ k b c, w.heap.size ≤ b.heap.size → tk X k b c → RowKit.Below w.heap.size b c)
    (hS : Lasts (tk X) (lk L)) (hm : P.follows .mixedOrders = true) (hB : lexQ .any l.toArray = true) (hT : tailB .any l.toArray n = true)
    (h : wpL P .any l.toArray (fun a b : World => RowKit.Below w.heap.size a b ∧ w.heap.size ≤ b.heap.size) (tk X) w (lk L) (fun a' D' => ∀ w' : World, (RowKit.Below w.heap.size w w' ∧ w.heap.size ≤ w'.heap.size) → (∀ j, D' j w') → wpVL P l.toArray Q (l.drop n) a' w') 0 (l.take n) a (fun _ _ => True)) :
    (Code.region id l.toArray true).wp P Q a w := by
  unfold lexQ at hB
  rw [Bool.and_eq_true] at hB
  obtain ⟨h1, h2⟩ := hB
  obtain ⟨s1, s2⟩ := lexFromQ_spec _ _ h2
  unfold tailB at hT
  rw [Bool.and_eq_true, decide_eq_true_eq] at hT
  obtain ⟨hn, hall⟩ := hT
  have htail : ∀ j oj, n ≤ j → l.toArray[j]? = some oj → (j = n ∨ (aft .any oj).testBit (j - 1) = true) ∧ ∀ i oi, i < n → l.toArray[i]? = some oi → lateB oi = true ∨ (reachM .any l.toArray 8 (aft .any oj)).testBit i = true := by
    intro j oj hj hoj
    have hlt : j < l.toArray.size := (Array.getElem?_eq_some_iff.1 hoj).1
    have h3 := List.all_eq_true.1 hall j (List.mem_range.2 hlt)
    simp only [hoj, Bool.or_eq_true, Bool.and_eq_true, decide_eq_true_eq] at h3
    rcases h3 with h3 | ⟨h3, h4⟩
    · omega
    · refine ⟨h3, fun i oi hi hoi => ?_⟩
      have h5 := List.all_eq_true.1 h4 i (List.mem_range.2 hi)
      simp only [hoi, Bool.or_eq_true] at h5
      exact h5
  have hR : ∀ k a b c, (RowKit.Below w.heap.size a b ∧ w.heap.size ≤ b.heap.size) → tk X k b c → (RowKit.Below w.heap.size a c ∧ w.heap.size ≤ c.heap.size) := fun k a b c h1 h2 => by
    have h3 := hX k b c h1.2 h2
    exact ⟨RowKit.Below.trans h1.1 h3, Nat.le_trans h1.2 h3.size⟩
  have htk : (l.take n).length = n := by rw [List.length_take]; simp at hn; omega
  have H := wpAnyT_lex (P := P) (md := .any) (ops := l.toArray) (Q := Q) (n := n) (S := lk L) (w0 := w) (T := tk X) (R := fun a b : World => RowKit.Below w.heap.size a b ∧ w.heap.size ≤ b.heap.size) hR hS h1 (fun j o ho e he hb => by simpa using s1 j o (by simpa using ho) e he hb) (fun i j oi oj hij hi hj => by simpa using s2 i j oi oj hij (by simpa using hi) (by simpa using hj))
    (fun j oj hj hoj => by
      rcases (htail j oj (by omega) hoj).1 with h | h
      · omega
      · exact aft_of h) hn
    (fun i oi j oj hi hoi hj hoj => by
      exact (htail j oj hj hoj).2 i oi hi hoi) (l.drop n) (fun j => by simp [List.getElem?_drop])
    (l.take n) 0 (Array.replicate l.toArray.size false) a (fun _ _ => True) (fun j hj => by rw [htk] at hj; simp [hj]) (by omega) ⟨by simp, fun j hj => by simp at hj ⊢; simp [hj]⟩
    (fun _ _ _ => trivial) (fun _ _ _ _ _ _ h => h) ⟨w, ⟨RowKit.Below.refl _ _, Nat.le_refl _⟩, fun _ => trivial⟩ h
  refine wp_region_any hm ?_
  have hlen : (l.take n).length + (l.drop n).length = l.toArray.size := by simp at hn ⊢; omega
  rw [hlen] at H
  exact wpAny_of_T (w0 := w) hR hS _ _ _ (fun _ _ => True) _ ⟨⟨rfl, rfl, rfl, Nat.le_refl _, fun _ _ => rfl⟩, Nat.le_refl _⟩ (fun _ _ _ _ _ _ h => h) (fun _ _ _ => trivial) (fun _ => trivial) H

/-- The same over any class of worlds. -/
theorem wp_region_tailR {id : Nat} {Q : Exit → Act → World → Prop} {a : Act} {w : World} {l : List Oper} (n : Nat) (R : World → World → Prop) (T : Nat → World → World → Prop) (L : List (Nat × (Value → World → Prop)))
    (hR0 : R w w) (hRd : R w { w with drawn := w.drawn + 1 }) (hR : ∀ k a b c, R a b → T k b c → R a c)
    (hS : Lasts T (lk L)) (hm : P.follows .mixedOrders = true) (hB : lexQ .any l.toArray = true) (hT : tailB .any l.toArray n = true)
    (h : wpL P .any l.toArray R T w (lk L) (fun a' D' => ∀ w' : World, R w w' → (∀ j, D' j w') → wpVL P l.toArray Q (l.drop n) a' w') 0 (l.take n) a (fun _ _ => True)) :
    (Code.region id l.toArray true).wp P Q a w := by
  unfold lexQ at hB
  rw [Bool.and_eq_true] at hB
  obtain ⟨h1, h2⟩ := hB
  obtain ⟨s1, s2⟩ := lexFromQ_spec _ _ h2
  unfold tailB at hT
  rw [Bool.and_eq_true, decide_eq_true_eq] at hT
  obtain ⟨hn, hall⟩ := hT
  have htail : ∀ j oj, n ≤ j → l.toArray[j]? = some oj → (j = n ∨ (aft .any oj).testBit (j - 1) = true) ∧ ∀ i oi, i < n → l.toArray[i]? = some oi → lateB oi = true ∨ (reachM .any l.toArray 8 (aft .any oj)).testBit i = true := by
    intro j oj hj hoj
    have hlt : j < l.toArray.size := (Array.getElem?_eq_some_iff.1 hoj).1
    have h3 := List.all_eq_true.1 hall j (List.mem_range.2 hlt)
    simp only [hoj, Bool.or_eq_true, Bool.and_eq_true, decide_eq_true_eq] at h3
    rcases h3 with h3 | ⟨h3, h4⟩
    · omega
    · refine ⟨h3, fun i oi hi hoi => ?_⟩
      have h5 := List.all_eq_true.1 h4 i (List.mem_range.2 hi)
      simp only [hoi, Bool.or_eq_true] at h5
      exact h5
  have htk : (l.take n).length = n := by rw [List.length_take]; simp at hn; omega
  have H := wpAnyT_lex (P := P) (md := .any) (ops := l.toArray) (Q := Q) (n := n) (S := lk L) (w0 := w) (T := T) (R := R) hR hS h1 (fun j o ho e he hb => by simpa using s1 j o (by simpa using ho) e he hb) (fun i j oi oj hij hi hj => by simpa using s2 i j oi oj hij (by simpa using hi) (by simpa using hj))
    (fun j oj hj hoj => by
      rcases (htail j oj (by omega) hoj).1 with h | h
      · omega
      · exact aft_of h) hn
    (fun i oi j oj hi hoi hj hoj => by
      exact (htail j oj hj hoj).2 i oi hi hoi) (l.drop n) (fun j => by simp [List.getElem?_drop])
    (l.take n) 0 (Array.replicate l.toArray.size false) a (fun _ _ => True) (fun j hj => by rw [htk] at hj; simp [hj]) (by omega) ⟨by simp, fun j hj => by simp at hj ⊢; simp [hj]⟩
    (fun _ _ _ => trivial) (fun _ _ _ _ _ _ h => h) ⟨w, hR0, fun _ => trivial⟩ h
  refine wp_region_any hm ?_
  have hlen : (l.take n).length + (l.drop n).length = l.toArray.size := by simp at hn ⊢; omega
  rw [hlen] at H
  exact wpAny_of_T (w0 := w) hR hS _ _ _ (fun _ _ => True) _ hRd (fun _ _ _ _ _ _ h => h) (fun _ _ _ => trivial) (fun _ => trivial) H

theorem wpL_none {Q : Act → Facts → Prop} {k : Nat} {o : Oper} {rest : List Oper} {a : Act} {D : Facts} {c : Value} (hS : S k = none) (hw : Region.wanted o (yielded ops a.tmps) = true) (hrun : StillAt P md R w0 o a D c)
    (h : ∀ K : Act → Facts → Prop, (∀ a D, wpL P md ops R T w0 S Q (k + 1) rest a D → K a D) → K (a.put o.dst c) D) : wpL P md ops R T w0 S Q k (o :: rest) a D := by
  simp only [wpL, hw, if_true, One, hS]
  exact ⟨c, hrun, h _ (fun _ _ h => h)⟩
theorem wpL_skip {Q : Act → Facts → Prop} {k : Nat} {o : Oper} {rest : List Oper} {a : Act} {D : Facts} (hw : Region.wanted o (yielded ops a.tmps) = false)
    (h : ∀ K : Act → Facts → Prop, (∀ a D, wpL P md ops R T w0 S Q (k + 1) rest a D → K a D) → K (a.put o.dst undef) D) : wpL P md ops R T w0 S Q k (o :: rest) a D := by
  simp only [wpL, hw, Bool.false_eq_true, if_false]
  exact h _ (fun _ _ h => h)
theorem wpL_some {Q : Act → Facts → Prop} {k : Nat} {o : Oper} {rest : List Oper} {a : Act} {D : Facts} {s : Value → World → Prop} (hS : S k = some s) (hw : Region.wanted o (yielded ops a.tmps) = true) (hrun : UponAt P md R T w0 k o a D s)
    (h : ∀ v w, R w0 w → (∀ j, D j w) → s v w → ∀ K : Act → Facts → Prop, (∀ a D, wpL P md ops R T w0 S Q (k + 1) rest a D → K a D) → K (a.put o.dst v) (upd D k (s v))) : wpL P md ops R T w0 S Q k (o :: rest) a D := by
  simp only [wpL, hw, if_true, One, hS]
  exact ⟨hrun, fun v w h1 h2 h3 => h v w h1 h2 h3 _ (fun _ _ h => h)⟩
theorem wpL_nil {Q : Act → Facts → Prop} {k : Nat} {a : Act} {D : Facts} (h : Q a D) : wpL P md ops R T w0 S Q k [] a D := h
end
end Go.LooseT
namespace Go.First
open Go Go.Loose
set_option linter.unusedVariables false

section
variable (P : Program) (md : Region.Mode) (ops : Array Oper) (J : World → Prop) (z : Nat) (Q : Exit → Act → World → Prop) (E : List PanicEntry → World → Prop)

/-- Operations that yield a value or nothing, or call; the call may panic. -/
def pUpon (o : Oper) (a : Act) (next : Act → World → Prop) : Result Next → Prop
  | .ok (.value v) w' => next (a.put o.dst v) w'
  | .ok .skip w' => next (a.put o.dst undef) w'
  | .ok (.enter f args) w' => Calls P f args w' (fun e w'' => (∃ u, e = .returned u ∧ next (a.put o.dst u) w'') ∨ ∃ c, e = .panicked c ∧ E c w'')
  | _ => False
def pOp (i : Nat) (K : Act → World → Prop) (a : Act) (w : World) : Prop :=
  match ops[i]? with
  | none => K a w
  | some o => if Region.wanted o (yielded ops a.tmps) then pUpon P E o a K ((execOp a.eval o).run P w) else K (a.put o.dst undef) w
def wpAnyI : Nat → Array Bool → Act → World → Prop
  | 0, listed, a, w => Region.ready md ops listed = [] ∧ Q .normal a w
  | fuel + 1, listed, a, w => (Region.ready md ops listed = [] → Q .normal a w) ∧ ∀ i ∈ Region.ready md ops listed, pOp P ops E i (fun a w => (i ≠ z → J w) ∧ wpAnyI fuel (listed.setIfInBounds i true) a w) a w
/-- The tail, in the order of the text. -/
def wpI : Nat → List Oper → Act → World → Prop
  | _, [], a, w => Q .normal a w
  | k, o :: rest, a, w => if Region.wanted o (yielded ops a.tmps) then pUpon P E o a (fun a w => (k ≠ z → J w) ∧ wpI (k + 1) rest a w) ((execOp a.eval o).run P w) else (k ≠ z → J w) ∧ wpI (k + 1) rest (a.put o.dst undef) w
/-- The head, in the order of the text. -/
def wpH (K : Act → Prop) : List Oper → Act → Prop
  | [], a => K a
  | o :: rest, a => if Region.wanted o (yielded ops a.tmps) then ∃ c, (∀ w, J w → (execOp a.eval o).run P w = .ok (.value c) w) ∧ wpH K rest (a.put o.dst c) else wpH K rest (a.put o.dst undef)
end

section
variable {P : Program} {md : Region.Mode} {ops : Array Oper} {J : World → Prop} {z : Nat} {Q : Exit → Act → World → Prop} {E : List PanicEntry → World → Prop}

theorem pUpon.mono {o : Oper} {a : Act} {K K' : Act → World → Prop} {r : Result Next} (h : ∀ a w, K a w → K' a w) (hh : pUpon P E o a K r) : pUpon P E o a K' r := by
  unfold pUpon at *
  split at hh <;> first | exact h _ _ hh | exact hh.mono fun e w hx => hx.imp (fun ⟨u, h1, h2⟩ => ⟨u, h1, h _ _ h2⟩) id | exact hh

theorem put_defers (a : Act) (d : Option Nat) (v : Value) : (a.put d v).defers = a.defers := by
  cases d <;> rfl

theorem pOp.wp {i : Nat} {K K' : Act → World → Prop} {a : Act} {w : World} (hE : ∀ c w, E c w → Q (.panic c) a w) (h : ∀ a' w, a'.defers = a.defers → K a' w → K' a' w) (hh : pOp P ops E i K a w) : wpOp P ops Q i K' a w := by
  unfold pOp at hh
  unfold wpOp
  split
  · rename_i ho; simp only [ho] at hh; exact h _ _ rfl hh
  · rename_i o ho
    simp only [ho] at hh
    split
    · rename_i hw
      rw [if_pos hw] at hh
      left
      unfold Oper.wp
      generalize (execOp a.eval o).run P w = r at *
      unfold pUpon at hh
      split at hh
      · exact h _ _ (put_defers _ _ _) hh
      · exact h _ _ (put_defers _ _ _) hh
      · refine hh.mono fun e w hx => ?_
        rcases hx with ⟨u, h1, h2⟩ | ⟨c, h1, h2⟩
        · subst h1; exact h _ _ (put_defers _ _ _) h2
        · subst h1; exact hE _ _ h2
      · exact hh.elim
    · rename_i hw; rw [if_neg hw] at hh; exact h _ _ (put_defers _ _ _) hh
theorem wpAny_of_I {d : List Deferred} (hE : ∀ c a w, a.defers = d → E c w → Q (.panic c) a w) : ∀ (fuel : Nat) (listed : Array Bool) (a : Act) (w : World), a.defers = d → wpAnyI P md ops J z Q E fuel listed a w → wpAny P md ops Q fuel listed a w
  | 0, _, _, _, _, h => h
  | fuel + 1, listed, a, w, hd, h => ⟨h.1, fun i hi => (h.2 i hi).wp (fun c w => hE c a w hd) (fun a' w he h => wpAny_of_I hE fuel _ a' w (he.trans hd) h.2)⟩

/-- An operation that only looks may be taken first. -/
theorem wpAnyI_first {i : Nat} {oi : Oper} {c : Value} (hi : ops[i]? = some oi) (hsel : ∀ (j : Nat) (o : Oper) cs b, ops[j]? = some o → o.op ≠ .select cs b) (hz : ∀ oz, ops[z]? = some oz → ∃ e ∈ oz.after, Region.binds md e = true ∧ e.on = i) :
    ∀ (fuel : Nat) (listed : Array Bool) (a : Act) (w : World),
      (∀ j oj, ops[j]? = some oj → j ≠ i → listed.getD j true = false → (∀ e ∈ oj.after, Region.binds md e = true → e.on ≠ i) → oi.apart ops oj = true) →
      i ∈ Region.ready md ops listed → J w →
      ((Region.wanted oi (yielded ops a.tmps) = false ∧ c = undef) ∨ (Region.wanted oi (yielded ops a.tmps) = true ∧ ∀ w, J w → (execOp a.eval oi).run P w = .ok (.value c) w)) →
      wpAnyI P md ops J z Q E fuel (listed.setIfInBounds i true) (a.put oi.dst c) w → wpAnyI P md ops J z Q E (fuel + 1) listed a w := by
  intro fuel
  induction fuel with
  | zero =>
    intro listed a w hfree hr hJ hy H
    refine ⟨fun h => (by rw [h] at hr; cases hr), fun j hj => ?_⟩
    by_cases hji : j = i
    · subst hji
      unfold pOp
      simp only [hi]
      rcases hy with ⟨h1, rfl⟩ | ⟨h1, h2⟩
      · simp only [h1, Bool.false_eq_true, if_false]; exact ⟨fun _ => hJ, H⟩
      · simp only [h1, if_true, h2 w hJ, pUpon]; exact ⟨fun _ => hJ, H⟩
    · have h1 := ready_mono hj hji
      rw [H.1] at h1
      cases h1
  | succ fuel ih =>
    intro listed a w hfree hr hJ hy H
    refine ⟨fun h => (by rw [h] at hr; cases hr), fun j hj => ?_⟩
    by_cases hji : j = i
    · subst hji
      unfold pOp
      simp only [hi]
      rcases hy with ⟨h1, rfl⟩ | ⟨h1, h2⟩
      · simp only [h1, Bool.false_eq_true, if_false]; exact ⟨fun _ => hJ, H⟩
      · simp only [h1, if_true, h2 w hJ, pUpon]; exact ⟨fun _ => hJ, H⟩
    have hij : i ≠ j := Ne.symm hji
    obtain ⟨hjun, oj, hoj, hall⟩ := mem_ready.1 hj
    have hnot : ∀ e ∈ oj.after, Region.binds md e = true → e.on ≠ i := fun e he hb heq => by
      have h1 := hall e he hb
      have h0 := (mem_ready.1 hr).1
      rw [heq] at h1
      rcases Nat.lt_or_ge i listed.size with h' | h'
      · simp [h'] at h0 h1; rw [h0] at h1; cases h1
      · simp [Array.getElem?_eq_none h'] at h1
    have hjz : j ≠ z := fun e => by
      subst e
      obtain ⟨e, he, hb, hon⟩ := hz oj hoj
      exact hnot e he hb hon
    obtain ⟨ap1, ap2, ap3⟩ := Oper.apart_spec (hfree j oj hoj hji hjun hnot)
    have hsi := fun cs b => hsel i oi cs b hi
    have hsj := fun cs b => hsel j oj cs b hoj
    have hfree' : ∀ k ok, ops[k]? = some ok → k ≠ i → (listed.setIfInBounds j true).getD k true = false →
        (∀ e ∈ ok.after, Region.binds md e = true → e.on ≠ i) → oi.apart ops ok = true := fun k ok hk hki hun hno => by
      refine hfree k ok hk hki ?_ hno
      by_cases hjk : j = k
      · subst hjk; exact hjun
      · rw [getD_set_ne true hjk] at hun; exact hun
    have hcomm : (listed.setIfInBounds i true).setIfInBounds j true = (listed.setIfInBounds j true).setIfInBounds i true := Array.setIfInBounds_comm _ _ hij
    have H2 := H.2 j (ready_mono hj hji)
    have hri : i ∈ Region.ready md ops (listed.setIfInBounds j true) := ready_mono hr hij
    have step : ∀ u w', (j ≠ z → J w') ∧ wpAnyI P md ops J z Q E fuel ((listed.setIfInBounds i true).setIfInBounds j true) ((a.put oi.dst c).put oj.dst u) w' → (j ≠ z → J w') ∧ wpAnyI P md ops J z Q E (fuel + 1) (listed.setIfInBounds j true) (a.put oj.dst u) w' := fun u w' h => by
      refine ⟨h.1, ih _ _ _ hfree' hri (h.1 hjz) ?_ ?_⟩
      · rw [wanted_put oi a oj.dst u ap3, execOp_put oi hsi a oj.dst u ap3]; exact hy
      · rw [← hcomm, ← Act.put_comm a c u ap2]; exact h.2
    unfold pOp at H2 ⊢
    simp only [hoj] at H2 ⊢
    rw [wanted_put oj a oi.dst c ap1, execOp_put oj hsj a oi.dst c ap1] at H2
    by_cases hw : Region.wanted oj (yielded ops a.tmps) = true
    · rw [if_pos hw] at H2 ⊢
      generalize (execOp a.eval oj).run P w = r at *
      unfold pUpon at H2 ⊢
      split at H2
      · exact step _ _ H2
      · exact step _ _ H2
      · exact H2.mono fun e w hx => hx.imp (fun ⟨u, h1, h2⟩ => ⟨u, h1, step _ _ h2⟩) id
      · exact H2.elim
    · rw [if_neg hw] at H2 ⊢
      exact step _ _ H2

theorem wpAnyI_seq {n : Nat} (hs : ∀ j o, ops[j]? = some o → ∀ e ∈ o.after, Region.binds md e = true → e.on < j) (hc : ∀ j oj, n < j → ops[j]? = some oj → ∃ e ∈ oj.after, Region.binds md e = true ∧ e.on = j - 1) :
    ∀ (l : List Oper) (k : Nat) (listed : Array Bool) (a : Act) (w : World), (∀ j, l[j]? = ops[k + j]?) → k + l.length = ops.size → n ≤ k → FirstK ops.size k listed → wpI P ops J z Q E k l a w → wpAnyI P md ops J z Q E l.length listed a w
  | [], k, listed, a, w, hl, hk, hnk, hf, h => by
    refine ⟨?_, h⟩
    apply List.eq_nil_iff_forall_not_mem.2
    intro j hj
    have hjk := ready_tail hnk hf hc hj
    obtain ⟨_, oj, hoj, _⟩ := mem_ready.1 hj
    have hlt : j < ops.size := (Array.getElem?_eq_some_iff.1 hoj).1
    simp at hk
    omega
  | o :: l, k, listed, a, w, hl, hk, hnk, hf, h => by
    have h0 : ops[k]? = some o := by simpa using (hl 0).symm
    have hlt : k < ops.size := (Array.getElem?_eq_some_iff.1 h0).1
    refine ⟨fun h1 => ?_, fun i hi => ?_⟩
    · have := ready_first (md := md) hlt hf hs
      rw [h1] at this
      cases this
    · obtain rfl := ready_tail hnk hf hc hi
      unfold pOp
      simp only [h0]
      have ih := fun a' w' => wpAnyI_seq hs hc l (i + 1) (listed.setIfInBounds i true) a' w' (fun j => by have := hl (j + 1); simpa [Nat.add_assoc, Nat.add_comm 1 j] using this) (by simp only [List.length_cons] at hk; omega) (by omega) (hf.next hlt)
      unfold wpI at h
      split
      · rename_i hw; rw [if_pos hw] at h; exact h.mono fun a w h => ⟨h.1, ih _ _ h.2⟩
      · rename_i hw; rw [if_neg hw] at h; exact ⟨h.1, ih _ _ h.2⟩

theorem wpAnyI_head {n : Nat} (hsel : Region.noSelect ops = true)
    (hs : ∀ j o, ops[j]? = some o → ∀ e ∈ o.after, Region.binds md e = true → e.on < j) (hp : ∀ i j oi oj, i < j → ops[i]? = some oi → ops[j]? = some oj → pairB md ops i oi oj = true)
    (hc : ∀ j oj, n < j → ops[j]? = some oj → ∃ e ∈ oj.after, Region.binds md e = true ∧ e.on = j - 1) (hn : n < ops.size)
    (hz : ∀ i, i < n → ∀ oz, ops[z]? = some oz → ∃ e ∈ oz.after, Region.binds md e = true ∧ e.on = i) (tl : List Oper) (htl : ∀ j, tl[j]? = ops[n + j]?) {w : World} (hJ : J w) :
    ∀ (l : List Oper) (k : Nat) (listed : Array Bool) (a : Act), (∀ j, j < l.length → l[j]? = ops[k + j]?) → k + l.length = n → FirstK ops.size k listed →
      wpH P ops J (fun a => wpI P ops J z Q E n tl a w) l a → wpAnyI P md ops J z Q E (l.length + tl.length) listed a w
  | [], k, listed, a, _, hk, hf, h => by
    obtain rfl : k = n := by simpa using hk
    have hlen : tl.length = ops.size - k := by
      have h1 := htl (ops.size - k)
      rw [show k + (ops.size - k) = ops.size by omega, Array.getElem?_eq_none (Nat.le_refl _)] at h1
      have h2 : tl.length ≤ ops.size - k := by simpa using h1
      have h3 := htl (ops.size - k - 1)
      rw [show k + (ops.size - k - 1) = ops.size - 1 by omega, Array.getElem?_eq_getElem (by omega)] at h3
      have h4 : ops.size - k - 1 < tl.length := by
        rcases Nat.lt_or_ge (ops.size - k - 1) tl.length with h | h
        · exact h
        · rw [List.getElem?_eq_none h] at h3; cases h3
      omega
    rw [List.length_nil, Nat.zero_add]
    exact wpAnyI_seq hs hc tl k listed a w htl (by omega) (Nat.le_refl _) hf h
  | o :: l, k, listed, a, hl, hk, hf, h => by
    have h0 : ops[k]? = some o := by simpa using (hl 0 (by simp)).symm
    have hkn : k < n := by simp only [List.length_cons] at hk; omega
    have hr : k ∈ Region.ready md ops listed := ready_first (by omega) hf hs
    have hl' : ∀ j, j < l.length → l[j]? = ops[k + 1 + j]? := fun j hj => by have := hl (j + 1) (by simp; omega); simpa [Nat.add_assoc, Nat.add_comm 1 j] using this
    have hfree : ∀ j oj, ops[j]? = some oj → j ≠ k → listed.getD j true = false → (∀ e ∈ oj.after, Region.binds md e = true → e.on ≠ k) → o.apart ops oj = true := fun j oj hoj hjk hun' hno => by
      have hjl : j < ops.size := (Array.getElem?_eq_some_iff.1 hoj).1
      have h1 := hf.2 j hjl
      have hkj : k < j := by
        rcases Nat.lt_or_ge k j with h | h
        · exact h
        · simp [Array.getD_eq_getD_getElem?, h1, show j < k by omega] at hun'
      exact pairB_apart (hp k j o oj hkj h0 hoj) hno
    have hk' : k + 1 + l.length = n := by simp only [List.length_cons] at hk; omega
    rw [List.length_cons, show l.length + 1 + tl.length = (l.length + tl.length) + 1 by omega]
    unfold wpH at h
    split at h
    · rename_i hw
      obtain ⟨c, h1, h2⟩ := h
      exact wpAnyI_first h0 (Region.noSelect_spec hsel) (hz k hkn) _ listed a w hfree hr hJ (.inr ⟨hw, h1⟩) (wpAnyI_head hsel hs hp hc hn hz tl htl hJ l (k + 1) _ _ hl' hk' (hf.next (by omega)) h2)
    · rename_i hw
      exact wpAnyI_first h0 (Region.noSelect_spec hsel) (hz k hkn) _ listed a w hfree hr hJ (.inl ⟨by simpa using hw, rfl⟩) (wpAnyI_head hsel hs hp hc hn hz tl htl hJ l (k + 1) _ _ hl' hk' (hf.next (by omega)) h)

/-- The tail is a chain, and its last operation (number z) waits for the head. -/
def chainB (md : Region.Mode) (ops : Array Oper) (n z : Nat) : Bool :=
  decide (n < ops.size) && ((List.range ops.size).all fun j => decide (j ≤ n) || match ops[j]? with
    | some oj => (aft md oj).testBit (j - 1)
    | none => true) && match ops[z]? with
    | some oz => (List.range n).all fun i => (aft md oz).testBit i
    | none => true

theorem wp_region_first {id : Nat} {a : Act} {w : World} {l : List Oper} (n z : Nat) (J : World → Prop) (E : List PanicEntry → World → Prop) (hE : ∀ c a' w, a'.defers = a.defers → E c w → Q (.panic c) a' w)
    (hJ : J { w with drawn := w.drawn + 1 }) (hm : P.follows .mixedOrders = true) (hB : lexQ .any l.toArray = true) (hT : chainB .any l.toArray n z = true)
    (h : wpH P l.toArray J (fun a => wpI P l.toArray J z Q E n (l.drop n) a { w with drawn := w.drawn + 1 }) (l.take n) a) : (Code.region id l.toArray true).wp P Q a w := by
  unfold lexQ at hB
  rw [Bool.and_eq_true] at hB
  obtain ⟨h1, h2⟩ := hB
  obtain ⟨s1, s2⟩ := lexFromQ_spec _ _ h2
  unfold chainB at hT
  rw [Bool.and_eq_true, Bool.and_eq_true, decide_eq_true_eq] at hT
  obtain ⟨⟨hn, hall⟩, hzz⟩ := hT
  have htk : (l.take n).length = n := by rw [List.length_take]; simp at hn; omega
  have H := wpAnyI_head (P := P) (md := .any) (ops := l.toArray) (Q := Q) (E := E) (J := J) (z := z) (n := n) h1 (fun j o ho e he hb => by simpa using s1 j o (by simpa using ho) e he hb) (fun i j oi oj hij hi hj => by simpa using s2 i j oi oj hij (by simpa using hi) (by simpa using hj))
    (fun j oj hj hoj => by
      have hlt : j < l.toArray.size := (Array.getElem?_eq_some_iff.1 hoj).1
      have h3 := List.all_eq_true.1 hall j (List.mem_range.2 hlt)
      simp only [hoj, Bool.or_eq_true, decide_eq_true_eq] at h3
      rcases h3 with h3 | h3
      · omega
      · exact aft_of h3) hn
    (fun i hi oz hoz => by
      simp only [hoz] at hzz
      exact aft_of (List.all_eq_true.1 hzz i (List.mem_range.2 hi))) (l.drop n) (fun j => by simp [List.getElem?_drop]) hJ
    (l.take n) 0 (Array.replicate l.toArray.size false) a (fun j hj => by rw [htk] at hj; simp [hj]) (by omega) ⟨by simp, fun j hj => by simp at hj ⊢; simp [hj]⟩ h
  refine wp_region_any hm ?_
  have hlen : (l.take n).length + (l.drop n).length = l.toArray.size := by simp at hn ⊢; omega
  rw [hlen] at H
  exact wpAny_of_I hE _ _ _ _ rfl H

/-- The same, the draw behind a letter. -/
theorem wp_region_looks {id : Nat} {a : Act} {w : World} {l : List Oper} (n z : Nat) (J : World → Prop) (E : List PanicEntry → World → Prop) (hE : ∀ c a' w, a'.defers = a.defers → E c w → Q (.panic c) a' w)
    (hJ : ∀ w', RowKit.Below w.heap.size w w' → J w') (hm : P.follows .mixedOrders = true) (hB : lexQ .any l.toArray = true) (hT : chainB .any l.toArray n z = true)
    (h : ∀ wd : World, RowKit.Below w.heap.size w wd → wpH P l.toArray J (fun a => wpI P l.toArray J z Q E n (l.drop n) a wd) (l.take n) a) : (Code.region id l.toArray true).wp P Q a w :=
  have hd : RowKit.Below w.heap.size w { w with drawn := w.drawn + 1 } := ⟨rfl, rfl, rfl, Nat.le_refl _, fun _ _ => rfl⟩
  wp_region_first n z J E hE (hJ _ hd) hm hB hT (h _ hd)

theorem wpH_some {K : Act → Prop} {o : Oper} {rest : List Oper} {a : Act} {c : Value} (hw : Region.wanted o (yielded ops a.tmps) = true) (hrun : ∀ w, J w → (execOp a.eval o).run P w = .ok (.value c) w)
    (h : ∀ K' : Act → Prop, (∀ a, wpH P ops J K rest a → K' a) → K' (a.put o.dst c)) : wpH P ops J K (o :: rest) a := by
  unfold wpH
  rw [if_pos hw]
  exact ⟨c, hrun, h _ (fun _ h => h)⟩
theorem wpH_nil {K : Act → Prop} {a : Act} (h : K a) : wpH P ops J K [] a := h
theorem wpI_step {k : Nat} {o : Oper} {rest : List Oper} {a : Act} {w : World} (hw : Region.wanted o (yielded ops a.tmps) = true) (h : ∀ K : Act → World → Prop, (∀ a w, (k ≠ z → J w) → wpI P ops J z Q E (k + 1) rest a w → K a w) → pUpon P E o a K ((execOp a.eval o).run P w)) : wpI P ops J z Q E k (o :: rest) a w := by
  unfold wpI
  rw [if_pos hw]
  exact h _ (fun _ _ h1 h2 => ⟨h1, h2⟩)
theorem wpI_nil {k : Nat} {a : Act} {w : World} (h : Q .normal a w) : wpI P ops J z Q E k [] a w := h
end
end Go.First
namespace Go.Order
open Go Go.Loose Go.First
set_option linter.unusedVariables false

section
variable (P : Program) (md : Region.Mode) (ops : Array Oper) (J : World → Prop) (z : Nat) (Q : Exit → Act → World → Prop) (E : List PanicEntry → World → Prop)

/-- The looking operations are ready one behind the other; behind them just one is ready at a time. -/
def chainO : List Nat → Array Bool → Bool
  | [], listed => (Region.ready md ops listed).isEmpty
  | t :: ts, listed => decide (Region.ready md ops listed = [t]) && chainO ts (listed.setIfInBounds t true)
def orderO (ts : List Nat) : List Nat → Array Bool → Bool
  | [], listed => chainO md ops ts listed
  | i :: hs, listed => decide (i ∈ Region.ready md ops listed) && orderO ts hs (listed.setIfInBounds i true)

def wpI : List Nat → Act → World → Prop
  | [], a, w => Q .normal a w
  | t :: ts, a, w => match ops[t]? with
    | none => False
    | some o => if Region.wanted o (yielded ops a.tmps) then pUpon P E o a (fun a w => (t ≠ z → J w) ∧ wpI ts a w) ((execOp a.eval o).run P w) else (t ≠ z → J w) ∧ wpI ts (a.put o.dst undef) w
def wpH (K : Act → Prop) : List Nat → Act → Prop
  | [], a => K a
  | i :: hs, a => match ops[i]? with
    | none => False
    | some o => if Region.wanted o (yielded ops a.tmps) then ∃ c, (∀ w, J w → (execOp a.eval o).run P w = .ok (.value c) w) ∧ wpH K hs (a.put o.dst c) else wpH K hs (a.put o.dst undef)
end

section
variable {P : Program} {md : Region.Mode} {ops : Array Oper} {J : World → Prop} {z : Nat} {Q : Exit → Act → World → Prop} {E : List PanicEntry → World → Prop}

theorem apart_symm {x y : Oper} (h : x.apart ops y = true) : y.apart ops x = true := by
  unfold Oper.apart at *
  cases hx : x.dst <;> cases hy : y.dst <;> simp only [hx, hy] at h ⊢ <;> simp at h ⊢ <;> simp_all
  exact fun e => h.1.2 e.symm

theorem chain_of : ∀ (ts : List Nat) (listed : Array Bool) (a : Act) (w : World), chainO md ops ts listed = true → wpI P ops J z Q E ts a w → wpAnyI P md ops J z Q E ts.length listed a w
  | [], listed, a, w, hc, h => ⟨by simpa [chainO] using hc, h⟩
  | t :: ts, listed, a, w, hc, h => by
    unfold chainO at hc
    rw [Bool.and_eq_true, decide_eq_true_eq] at hc
    refine ⟨fun h1 => (by rw [hc.1] at h1; cases h1), fun i hi => ?_⟩
    rw [hc.1] at hi
    obtain rfl : i = t := by simpa using hi
    have ih := fun a w => chain_of ts (listed.setIfInBounds i true) a w hc.2
    unfold wpI at h
    unfold pOp
    cases ho : ops[i]? with
    | none => rw [ho] at h; exact h.elim
    | some o =>
      rw [ho] at h
      simp only at h ⊢
      split
      · rename_i hw; rw [if_pos hw] at h; exact h.mono fun a w h => ⟨h.1, ih _ _ h.2⟩
      · rename_i hw; rw [if_neg hw] at h; exact ⟨h.1, ih _ _ h.2⟩

theorem order_of (hsel : Region.noSelect ops = true) (hp : ∀ i j oi oj, i < j → ops[i]? = some oi → ops[j]? = some oj → pairB md ops i oi oj = true) (ts : List Nat) {w : World} (hJ : J w) :
    ∀ (hs : List Nat) (listed : Array Bool) (a : Act), (∀ i ∈ hs, ∀ oz, ops[z]? = some oz → ∃ e ∈ oz.after, Region.binds md e = true ∧ e.on = i) → orderO md ops ts hs listed = true →
      wpH P ops J (fun a => wpI P ops J z Q E ts a w) hs a → wpAnyI P md ops J z Q E (hs.length + ts.length) listed a w
  | [], listed, a, _, ho, h => by
    rw [List.length_nil, Nat.zero_add]
    exact chain_of ts listed a w ho h
  | i :: hs, listed, a, hz, ho, h => by
    unfold orderO at ho
    rw [Bool.and_eq_true, decide_eq_true_eq] at ho
    obtain ⟨hr, ho⟩ := ho
    obtain ⟨hun, oi, hoi, halli⟩ := mem_ready.1 hr
    have hfree : ∀ j oj, ops[j]? = some oj → j ≠ i → listed.getD j true = false → (∀ e ∈ oj.after, Region.binds md e = true → e.on ≠ i) → oi.apart ops oj = true := fun j oj hoj hji hjun hno => by
      rcases Nat.lt_or_ge i j with h | h
      · exact pairB_apart (hp i j oi oj h hoi hoj) hno
      · have hji' : j < i := by omega
        have hnoti : ∀ e ∈ oi.after, Region.binds md e = true → e.on ≠ j := fun e he hb heq => by
          have h1 := halli e he hb
          rw [heq] at h1
          rcases Nat.lt_or_ge j listed.size with h' | h'
          · simp [h'] at hjun h1; rw [hjun] at h1; cases h1
          · simp [Array.getElem?_eq_none h'] at h1
        have := pairB_apart (hp j i oj oi hji' hoj hoi) hnoti
        exact apart_symm this
    rw [List.length_cons, show hs.length + 1 + ts.length = (hs.length + ts.length) + 1 by omega]
    unfold wpH at h
    rw [hoi] at h
    simp only at h
    split at h
    · rename_i hw
      obtain ⟨c, h1, h2⟩ := h
      exact wpAnyI_first hoi (Region.noSelect_spec hsel) (hz i (List.mem_cons_self ..)) _ listed a w hfree hr hJ (.inr ⟨hw, h1⟩) (order_of hsel hp ts hJ hs _ _ (fun i hi => hz i (List.mem_cons_of_mem _ hi)) ho h2)
    · rename_i hw
      exact wpAnyI_first hoi (Region.noSelect_spec hsel) (hz i (List.mem_cons_self ..)) _ listed a w hfree hr hJ (.inl ⟨by simpa using hw, rfl⟩) (order_of hsel hp ts hJ hs _ _ (fun i hi => hz i (List.mem_cons_of_mem _ hi)) ho h)

/-- The region: hs look, in this order; ts are the chain; z: the operation behind which J is not asked (it waits for all that look). -/
theorem wp_region_order {id : Nat} {a : Act} {w : World} {l : List Oper} (hs ts : List Nat) (z : Nat) (J : World → Prop) (E : List PanicEntry → World → Prop) (hE : ∀ c a' w, a'.defers = a.defers → E c w → Q (.panic c) a' w)
    (hJ : ∀ w', RowKit.Below w.heap.size w w' → J w') (hm : P.follows .mixedOrders = true) (hB : lexQ .any l.toArray = true)
    (hO : orderO .any l.toArray ts hs (Array.replicate l.toArray.size false) = true) (hn : hs.length + ts.length = l.toArray.size) (hz : (hs.all fun i => match l.toArray[z]? with | some oz => (aft .any oz).testBit i | none => true) = true)
    (h : ∀ wd : World, RowKit.Below w.heap.size w wd → wpH P l.toArray J (fun a => wpI P l.toArray J z Q E ts a wd) hs a) : (Code.region id l.toArray true).wp P Q a w := by
  have hd : RowKit.Below w.heap.size w { w with drawn := w.drawn + 1 } := ⟨rfl, rfl, rfl, Nat.le_refl _, fun _ _ => rfl⟩
  unfold lexQ at hB
  rw [Bool.and_eq_true] at hB
  obtain ⟨h1, h2⟩ := hB
  obtain ⟨s1, s2⟩ := lexFromQ_spec _ _ h2
  have H := order_of (P := P) (md := .any) (ops := l.toArray) (Q := Q) (E := E) (J := J) (z := z) h1 (fun i j oi oj hij hi hj => by simpa using s2 i j oi oj hij (by simpa using hi) (by simpa using hj)) ts (hJ _ hd) hs _ a
    (fun i hi oz hoz => by
      have := List.all_eq_true.1 hz i hi
      rw [hoz] at this
      exact aft_of this) hO (h _ hd)
  refine wp_region_any hm ?_
  rw [hn] at H
  exact wpAny_of_I hE _ _ _ _ rfl H

theorem wpH_some {K : Act → Prop} {i : Nat} {hs : List Nat} {o : Oper} {a : Act} {c : Value} (ho : ops[i]? = some o) (hw : Region.wanted o (yielded ops a.tmps) = true) (hrun : ∀ w, J w → (execOp a.eval o).run P w = .ok (.value c) w)
    (h : ∀ K' : Act → Prop, (∀ a, wpH P ops J K hs a → K' a) → K' (a.put o.dst c)) : wpH P ops J K (i :: hs) a := by
  unfold wpH
  rw [ho]
  simp only
  rw [if_pos hw]
  exact ⟨c, hrun, h _ (fun _ h => h)⟩
theorem wpH_skip {K : Act → Prop} {i : Nat} {hs : List Nat} {o : Oper} {a : Act} (ho : ops[i]? = some o) (hw : Region.wanted o (yielded ops a.tmps) = false)
    (h : ∀ K' : Act → Prop, (∀ a, wpH P ops J K hs a → K' a) → K' (a.put o.dst undef)) : wpH P ops J K (i :: hs) a := by
  unfold wpH
  rw [ho]
  simp only
  rw [if_neg (by simp [hw])]
  exact h _ (fun _ h => h)
theorem wpH_nil {K : Act → Prop} {a : Act} (h : K a) : wpH P ops J K [] a := h
theorem wpI_step {t : Nat} {ts : List Nat} {o : Oper} {a : Act} {w : World} (ho : ops[t]? = some o) (hw : Region.wanted o (yielded ops a.tmps) = true) (h : ∀ K : Act → World → Prop, (∀ a w, (t ≠ z → J w) → wpI P ops J z Q E ts a w → K a w) → pUpon P E o a K ((execOp a.eval o).run P w)) : wpI P ops J z Q E (t :: ts) a w := by
  unfold wpI
  rw [ho]
  simp only
  rw [if_pos hw]
  exact h _ (fun _ _ h1 h2 => ⟨h1, h2⟩)
theorem wpI_skip {t : Nat} {ts : List Nat} {o : Oper} {a : Act} {w : World} (ho : ops[t]? = some o) (hw : Region.wanted o (yielded ops a.tmps) = false) (hj : t ≠ z → J w) (h : ∀ K : Act → World → Prop, (∀ a w, wpI P ops J z Q E ts a w → K a w) → K (a.put o.dst undef) w) : wpI P ops J z Q E (t :: ts) a w := by
  unfold wpI
  rw [ho]
  simp only
  rw [if_neg (by simp [hw])]
  exact ⟨hj, h _ (fun _ _ h => h)⟩
theorem wpI_nil {a : Act} {w : World} (h : Q .normal a w) : wpI P ops J z Q E [] a w := h
end
end Go.Order
namespace Go.Loose
open Go
set_option linter.unusedVariables false

section
variable {P : Program} {md : Region.Mode} {ops : Array Oper} {R : World → World → Prop} {w0 : World} {S : Nat → Option (Value → World → Prop)} {Q : Exit → Act → World → Prop}

theorem wpL_mono {Q Q' : Act → Facts → Prop} (h : ∀ a D, Q a D → Q' a D) : ∀ (k : Nat) (l : List Oper) (a : Act) (D : Facts), wpL P md ops R w0 S Q k l a D → wpL P md ops R w0 S Q' k l a D
  | k, [], a, D, hh => h _ _ hh
  | k, o :: l, a, D, hh => by
    unfold wpL at hh ⊢
    split
    · rename_i hw
      rw [if_pos hw] at hh
      exact hh.mono fun a D h' => wpL_mono h (k + 1) l a D h'
    · rename_i hw
      rw [if_neg hw] at hh
      exact wpL_mono h (k + 1) l _ _ hh

theorem vOp_of_lOp {i : Nat} {a : Act} {D : Facts} {K : Act → Facts → Prop} {K' : Act → World → Prop} {w : World}
    (hR : ∀ a b c, R a b → R b c → R a c) (hS : Lasts R S) (hDl : LastsD R D) (hw : R w0 w) (hD : ∀ j, D j w)
    (h : ∀ a D' w', R w0 w' → LastsD R D' → (∀ j, D' j w') → K a D' → K' a w') (hh : lOp P md ops R w0 S i K a D) : vOp P ops i K' a w := by
  unfold lOp at hh
  unfold vOp
  split
  · rename_i ho; simp only [ho] at hh; exact h _ _ _ hw hDl hD hh
  · rename_i o ho
    simp only [ho] at hh
    split
    · rename_i hwt
      simp only [hwt, if_true] at hh
      unfold One at hh
      split at hh
      · obtain ⟨c, h1, h2⟩ := hh
        have h3 := h1 w hw (fun e _ _ => hD _)
        generalize (execOp a.eval o).run P w = r at h3
        cases r with
        | ok n w' =>
          cases n <;> simp only [Still] at h3
          · obtain ⟨rfl, rfl⟩ := h3; simp only [vUpon]; exact h _ _ _ hw hDl hD h2
          · obtain ⟨rfl, rfl⟩ := h3; simp only [vUpon]; exact h _ _ _ hw hDl hD h2
        | halt x w' => simp only [Still] at h3
      · rename_i s hs
        obtain ⟨h1, h2⟩ := hh
        have h3 := h1 w hw (fun e _ _ => hD _)
        generalize (execOp a.eval o).run P w = r at h3
        cases r with
        | ok n w' =>
          cases n <;> simp only [Upon] at h3
          · obtain ⟨h4, h5⟩ := h3
            simp only [vUpon]
            have hw' := hR _ _ _ hw h4
            have hD' : ∀ j, D j w' := fun j => hDl j _ _ h4 (hD j)
            exact h _ _ _ hw' (hDl.upd hS hs _) (upd_all hD' h5) (h2 _ _ hw' hD' h5)
          · obtain ⟨h4, h5⟩ := h3
            simp only [vUpon]
            have hw' := hR _ _ _ hw h4
            have hD' : ∀ j, D j w' := fun j => hDl j _ _ h4 (hD j)
            exact h _ _ _ hw' (hDl.upd hS hs _) (upd_all hD' h5) (h2 _ _ hw' hD' h5)
          · obtain ⟨h4, hc⟩ := h3
            simp only [vUpon]
            refine hc.mono fun e w'' ⟨u, he, h6, h5⟩ => ?_
            subst he
            have hw' := hR _ _ _ hw (hR _ _ _ h4 h6)
            have hD' : ∀ j, D j w'' := fun j => hDl j _ _ (hR _ _ _ h4 h6) (hD j)
            exact ⟨u, rfl, h _ _ _ hw' (hDl.upd hS hs _) (upd_all hD' h5) (h2 _ _ hw' hD' h5)⟩
        | halt x w' => simp only [Upon] at h3
    · rename_i hwt; simp only [hwt] at hh; exact h _ _ _ hw hDl hD hh

theorem wpAnyV_of_T {n : Nat} (hR : ∀ a b c, R a b → R b c → R a c) (hS : Lasts R S) : ∀ (fuel : Nat) (listed : Array Bool) (a : Act) (D : Facts) (w : World), R w0 w → LastsD R D → (∀ j, D j w) →
    wpAnyT P md ops R w0 S Q n fuel listed a D → wpAnyV P md ops Q fuel listed a w
  | 0, _, _, _, _, hw, _, hD, h => h _ hw hD
  | fuel + 1, listed, a, D, w, hw, hl, hD, h => by
    by_cases ht : ∃ j ∈ Region.ready md ops listed, n ≤ j
    · exact h.2.1 ht w hw hD
    · refine ⟨fun h0 => absurd h0 h.1, fun i hi => ?_⟩
      have hin : i < n := by
        rcases Nat.lt_or_ge i n with h' | h'
        · exact h'
        · exact absurd ⟨i, hi, h'⟩ ht
      exact vOp_of_lOp hR hS hl hw hD (fun a' D' w' hw' hl' hD' => wpAnyV_of_T hR hS fuel _ a' D' w' hw' hl' hD') (h.2.2 i hi hin)

theorem not_ready {n i : Nat} {listed : Array Bool} (hf : FirstK ops.size n listed) (hin : i < n) (hi : i ∈ Region.ready md ops listed) : False := by
  obtain ⟨h0, oj, hoj, _⟩ := mem_ready.1 hi
  have hlt : i < ops.size := (Array.getElem?_eq_some_iff.1 hoj).1
  have h1 := hf.2 i hlt
  simp [Array.getD_eq_getD_getElem?, h1, hin] at h0

theorem wpAnyT_lexE {n : Nat} (hR : ∀ a b c, R a b → R b c → R a c) (hS : Lasts R S) (hsel : Region.noSelect ops = true)
    (hs : ∀ j o, ops[j]? = some o → ∀ e ∈ o.after, Region.binds md e = true → e.on < j) (hp : ∀ i j oi oj, i < j → ops[i]? = some oi → ops[j]? = some oj → pairB md ops i oi oj = true)
    (hn : n ≤ ops.size)
    (hlate : ∀ i oi j oj, i < n → ops[i]? = some oi → n ≤ j → ops[j]? = some oj → lateB oi = true ∨ (reachM md ops 8 (aft md oj)).testBit i = true) :
    ∀ (l : List Oper) (k : Nat) (listed : Array Bool) (a : Act) (D : Facts), (∀ j, j < l.length → l[j]? = ops[k + j]?) → k + l.length = n → FirstK ops.size k listed →
      (∀ k w, listed.getD k true = false → D k w) → LastsD R D → (∃ w, R w0 w ∧ ∀ j, D j w) →
      wpL P md ops R w0 S (fun a' D' => ∀ w, R w0 w → (∀ j, D' j w) → ∀ listed, FirstK ops.size n listed → wpAnyV P md ops Q (ops.size - n) listed a' w) k l a D → wpAnyT P md ops R w0 S Q n (l.length + (ops.size - n)) listed a D
  | [], k, listed, a, D, _, hk, hf, hun, hla, hex, h => by
    obtain rfl : k = n := by simpa using hk
    rw [List.length_nil, Nat.zero_add]
    have main : ∀ w, R w0 w → (∀ j, D j w) → wpAnyV P md ops Q (ops.size - k) listed a w := fun w hw hD => h w hw hD listed hf
    generalize hm : ops.size - k = m at main ⊢
    cases m with
    | zero => exact main
    | succ t =>
      refine ⟨fun h1 => ?_, fun _ => main, fun i hi hin => (not_ready hf hin hi).elim⟩
      have := ready_first (md := md) (show k < ops.size by omega) hf hs
      rw [h1] at this
      cases this
  | o :: l, k, listed, a, D, hl, hk, hf, hun, hla, hex, h => by
    have h0 : ops[k]? = some o := by simpa using (hl 0 (by simp)).symm
    have hkn : k < n := by simp only [List.length_cons] at hk; omega
    have hr : k ∈ Region.ready md ops listed := ready_first (by omega) hf hs
    have hst : lOp P md ops R w0 S k (wpL P md ops R w0 S (fun a' D' => ∀ w, R w0 w → (∀ j, D' j w) → ∀ listed, FirstK ops.size n listed → wpAnyV P md ops Q (ops.size - n) listed a' w) (k + 1) l) a D := by unfold lOp; simp only [h0]; exact h
    obtain ⟨w, hw, hD⟩ := hex
    obtain ⟨hy, hK⟩ := of_lOp h0 hw hD hst
    have hlt : k < listed.size := by rw [hf.1]; omega
    have hl' : ∀ j, j < l.length → l[j]? = ops[k + 1 + j]? := fun j hj => by have := hl (j + 1) (by simp; omega); simpa [Nat.add_assoc, Nat.add_comm 1 j] using this
    have hunk : ∀ D' : Facts, (∀ j, j ≠ k → D' j = D j) → ∀ j w, (listed.setIfInBounds k true).getD j true = false → D' j w := fun D' hD' j w hj => by
      have hjk : k ≠ j := fun e => by subst e; simp [hlt] at hj
      rw [hD' j (Ne.symm hjk)]
      rw [getD_set_ne true hjk] at hj
      exact hun j w hj
    have hfree : ∀ j oj, ops[j]? = some oj → j ≠ k → listed.getD j true = false → (∀ e ∈ oj.after, Region.binds md e = true → e.on ≠ k) → o.apart ops oj = true := fun j oj hoj hjk hun' hno => by
      have hjl : j < ops.size := (Array.getElem?_eq_some_iff.1 hoj).1
      have h1 := hf.2 j hjl
      have hkj : k < j := by
        rcases Nat.lt_or_ge k j with h | h
        · exact h
        · simp [Array.getD_eq_getD_getElem?, h1, show j < k by omega] at hun'
      exact pairB_apart (hp k j o oj hkj h0 hoj) hno
    have hk' : k + 1 + l.length = n := by simp only [List.length_cons] at hk; omega
    rw [List.length_cons, show l.length + 1 + (ops.size - n) = (l.length + (ops.size - n)) + 1 by omega]
    refine wpAnyT_first hR hS h0 hkn (Region.noSelect_spec hsel) (fun j oj => hlate k o j oj hkn h0) (l.length + (ops.size - n)) listed a D (closed_first hf hs) hfree hun hr hla ⟨w, hw, hD⟩ hy ⟨?_, ?_, ?_⟩
    · exact fun h => wpAnyT_lexE hR hS hsel hs hp hn hlate l (k + 1) _ _ _ hl' hk' (hf.next (by omega)) (hunk D fun _ _ => rfl) hla ⟨w, hw, hD⟩ (hK.1 h)
    · exact fun h hs' c hc' => wpAnyT_lexE hR hS hsel hs hp hn hlate l (k + 1) _ _ _ hl' hk' (hf.next (by omega)) (hunk D fun _ _ => rfl) hla ⟨w, hw, hD⟩ (hK.2.1 h hs' c hc')
    · exact fun h s hs' v w' hw' hD' hv => wpAnyT_lexE hR hS hsel hs hp hn hlate l (k + 1) _ _ _ hl' hk' (hf.next (by omega)) (hunk _ fun j hj => by funext w; exact upd_ne hj) (hla.upd hS hs' v) ⟨w', hw', upd_all hD' hv⟩ (hK.2.2 h s hs' v w' hw' hD' hv)

/-- All behind the pivot wait for it, it and they for all ahead of it (but moves). -/
def pivB (md : Region.Mode) (ops : Array Oper) (n : Nat) : Bool :=
  decide (n < ops.size) && (List.range ops.size).all fun j => decide (j < n) || match ops[j]? with
    | some oj => (decide (j = n) || (reachM md ops 8 (aft md oj)).testBit n) && (List.range n).all fun i => (match ops[i]? with | some oi => lateB oi | none => true) || (reachM md ops 8 (aft md oj)).testBit i
    | none => true

/-- The pivot's step. -/
def wpPiv (P : Program) (ops : Array Oper) (o : Oper) (K : Act → World → Prop) (a : Act) (w : World) : Prop := Region.wanted o (yielded ops a.tmps) = true ∧ vUpon P o a K ((execOp a.eval o).run P w)

theorem wpPiv_call {o : Oper} {K : Act → World → Prop} {a : Act} {w : World} (hw : Region.wanted o (yielded ops a.tmps) = true) (h : ∀ K' : Act → World → Prop, (∀ a w, K a w → K' a w) → vUpon P o a K' ((execOp a.eval o).run P w)) : wpPiv P ops o K a w :=
  ⟨hw, h _ fun _ _ h => h⟩

/-- A region with a pivot. -/
theorem wp_region_pivot {id : Nat} {Q : Exit → Act → World → Prop} {a : Act} {w : World} {l : List Oper} (n : Nat) (L L2 : List (Nat × (Value → World → Prop))) (o : Oper) (ho : l[n]? = some o)
    (hS : Lasts (fun w w' : World => RowKit.Below w.heap.size w w') (lk L)) (hS2 : Lasts (fun w w' : World => RowKit.Below w.heap.size w w') (lk L2))
    (hm : P.follows .mixedOrders = true) (hB : lexQ .any l.toArray = true) (hT : pivB .any l.toArray n = true)
    (h : wpL P .any l.toArray (fun w w' : World => RowKit.Below w.heap.size w w') w (lk L) (fun a' D' => ∀ w' : World, RowKit.Below w.heap.size w w' → (∀ j, D' j w') →
      wpPiv P l.toArray o (fun a2 w2 => wpL P .any l.toArray (fun w w' : World => RowKit.Below w.heap.size w w') w2 (lk L2) (fun a3 D3 => ∀ w3, RowKit.Below w2.heap.size w2 w3 → (∀ j, D3 j w3) → Q .normal a3 w3) (n + 1) (l.drop (n + 1)) a2 (fun _ _ => True)) a' w') 0 (l.take n) a (fun _ _ => True)) :
    (Code.region id l.toArray true).wp P Q a w := by
  unfold lexQ at hB
  rw [Bool.and_eq_true] at hB
  obtain ⟨h1, h2⟩ := hB
  obtain ⟨s1, s2⟩ := lexFromQ_spec _ _ h2
  unfold pivB at hT
  rw [Bool.and_eq_true, decide_eq_true_eq] at hT
  obtain ⟨hn, hall⟩ := hT
  have hR : ∀ a b c : World, RowKit.Below a.heap.size a b → RowKit.Below b.heap.size b c → RowKit.Below a.heap.size a c := fun _ _ _ h k => RowKit.Below.trans h (k.mono h.size)
  have htail : ∀ j oj, n ≤ j → l.toArray[j]? = some oj → (j = n ∨ (reachM .any l.toArray 8 (aft .any oj)).testBit n = true) ∧ ∀ i oi, i < n → l.toArray[i]? = some oi → lateB oi = true ∨ (reachM .any l.toArray 8 (aft .any oj)).testBit i = true := by
    intro j oj hj hoj
    have hlt : j < l.toArray.size := (Array.getElem?_eq_some_iff.1 hoj).1
    have h3 := List.all_eq_true.1 hall j (List.mem_range.2 hlt)
    simp only [hoj, Bool.or_eq_true, Bool.and_eq_true, decide_eq_true_eq] at h3
    rcases h3 with h3 | ⟨h3, h4⟩
    · omega
    · refine ⟨h3, fun i oi hi hoi => ?_⟩
      have h5 := List.all_eq_true.1 h4 i (List.mem_range.2 hi)
      simp only [hoi, Bool.or_eq_true] at h5
      exact h5
  have hs : ∀ j o, l.toArray[j]? = some o → ∀ e ∈ o.after, Region.binds .any e = true → e.on < j := fun j o ho e he hb => by simpa using s1 j o (by simpa using ho) e he hb
  have hpr : ∀ i j oi oj, i < j → l.toArray[i]? = some oi → l.toArray[j]? = some oj → pairB .any l.toArray i oi oj = true := fun i j oi oj hij hi hj => by simpa using s2 i j oi oj hij (by simpa using hi) (by simpa using hj)
  have hnl : n < l.length := by simpa using hn
  have htk : (l.take n).length = n := by rw [List.length_take]; omega
  have piv : ∀ (a' : Act) (w' : World), wpPiv P l.toArray o (fun a2 w2 => wpL P .any l.toArray (fun w w' : World => RowKit.Below w.heap.size w w') w2 (lk L2) (fun a3 D3 => ∀ w3, RowKit.Below w2.heap.size w2 w3 → (∀ j, D3 j w3) → Q .normal a3 w3) (n + 1) (l.drop (n + 1)) a2 (fun _ _ => True)) a' w' →
      ∀ listed, FirstK l.toArray.size n listed → wpAnyV P .any l.toArray Q (l.toArray.size - n) listed a' w' := by
    intro a' w' ⟨hw, hv⟩ listed hf
    rw [show l.toArray.size - n = (l.toArray.size - (n + 1)) + 1 by omega]
    refine ⟨fun h0 => ?_, fun i hi => ?_⟩
    · have := ready_first (md := .any) hn hf hs
      rw [h0] at this
      cases this
    · have hin : i = n := by
        rcases Nat.lt_trichotomy i n with hlt | he | hgt
        · exact (not_ready hf hlt hi).elim
        · exact he
        · obtain ⟨h0, oj, hoj, hal⟩ := mem_ready.1 hi
          rcases (htail i oj (by omega) hoj).1 with h' | h'
          · omega
          · have h3 := reach_listed (closed_first hf hs) 8 _ (fun m hm => by obtain ⟨e, he, hb, rfl⟩ := aft_of hm; exact hal e he hb) n h'
            have h4 := hf.2 n hn
            simp [Array.getD_eq_getD_getElem?, h4] at h3
      subst hin
      unfold vOp
      rw [show l.toArray[i]? = some o by simpa using ho]
      simp only [hw, if_true]
      refine hv.mono fun a2 w2 hK => ?_
      have hdl : i + 1 + (l.drop (i + 1)).length = l.toArray.size := by simp; omega
      have H := wpAnyT_lexE (P := P) (md := .any) (ops := l.toArray) (Q := Q) (n := l.toArray.size) (S := lk L2) (w0 := w2) hR hS2 h1 hs hpr (Nat.le_refl _)
        (fun i oi j oj hi hoi hj hoj => by have := (Array.getElem?_eq_some_iff.1 hoj).1; omega)
        (l.drop (i + 1)) (i + 1) (listed.setIfInBounds i true) a2 (fun _ _ => True) (fun j hj => by simp [List.getElem?_drop]) hdl (hf.next hn)
        (fun _ _ _ => trivial) (fun _ _ _ _ h => h) ⟨w2, RowKit.Below.refl _ _, fun _ => trivial⟩
        (wpL_mono (fun a3 D3 h3 w3 hw3 hD3 listed3 hf3 => by
          rw [Nat.sub_self]
          refine ⟨?_, h3 w3 hw3 hD3⟩
          apply List.eq_nil_iff_forall_not_mem.2
          intro j hj
          obtain ⟨_, oj, hoj, _⟩ := mem_ready.1 hj
          exact not_ready hf3 (Array.getElem?_eq_some_iff.1 hoj).1 hj) _ _ _ _ hK)
      rw [Nat.sub_self, Nat.add_zero, show (l.drop (i + 1)).length = l.toArray.size - (i + 1) by omega] at H
      exact wpAnyV_of_T (w0 := w2) hR hS2 _ _ _ (fun _ _ => True) _ (RowKit.Below.refl _ _) (fun _ _ _ _ h => h) (fun _ => trivial) H
  have H := wpAnyT_lexE (P := P) (md := .any) (ops := l.toArray) (Q := Q) (n := n) (S := lk L) (w0 := w) hR hS h1 hs hpr (Nat.le_of_lt hn)
    (fun i oi j oj hi hoi hj hoj => (htail j oj hj hoj).2 i oi hi hoi)
    (l.take n) 0 (Array.replicate l.toArray.size false) a (fun _ _ => True) (fun j hj => by rw [htk] at hj; simp [hj]) (by omega) ⟨by simp, fun j hj => by simp at hj ⊢; simp [hj]⟩
    (fun _ _ _ => trivial) (fun _ _ _ _ h => h) ⟨w, RowKit.Below.refl _ _, fun _ => trivial⟩
    (wpL_mono (fun a' D' h3 w' hw' hD' => piv a' w' (h3 w' hw' hD')) _ _ _ _ h)
  refine wp_region_any hm ?_
  rw [htk, show n + (l.toArray.size - n) = l.toArray.size by omega] at H
  exact wpAny_of_T (w0 := w) hR hS _ _ _ (fun _ _ => True) _ ⟨rfl, rfl, rfl, Nat.le_refl _, fun _ _ => rfl⟩ (fun _ _ _ _ h => h) (fun _ => trivial) H

/-- A struct is loaded out of the middle of a block. -/
theorem still_load {o : Oper} {a : Act} {w : World} (ty : TypeId) (x : Operand) (ho : o.op = .load ty x) (b off : Nat) (hx : a.eval x = .pointer (some ⟨b, off, none⟩)) (C : Array Value) (d : TypeDesc) (hc : w.rangeAt b off C.toList)
    (hu : P.underlying ty = some d) (hd : d.isRow = true) (hi : (P.info? ty).map (·.size) = some C.toList.length) : Still (.agg C) w ((execOp a.eval o).run P w) := by
  unfold execOp
  simp only [ho, hx, Sem.run_bind, run_loadAt_mid w b off ty C.toList d hc hu hd hi, Result.andThen_ok]
  exact ⟨rfl, rfl⟩
end
end Go.Loose
namespace Go.Cul
theorem range_ext {w w' : World} {b off : Nat} {cs : List Value} (h : w.rangeAt b off cs) (hx : Ext w w') : w'.rangeAt b off cs := fun j v hv => hx.cell (h j v hv)
end Go.Cul
