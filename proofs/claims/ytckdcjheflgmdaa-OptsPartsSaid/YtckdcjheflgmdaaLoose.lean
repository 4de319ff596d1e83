/-
  Proved here, over any program: a region that draws its order may be walked once, in the order of the text, if every operation either yields one
  value in every world of a class and leaves the world alone, or (a call, an allocation) yields a value of which a lasting fact holds and leaves a
  world that stands in the relation R to the one before. Conditions: R is a preorder, the facts last under R, the lexical order is free.
-/
import Derived.Still
import Derived.Deep.Draws
import Derived.Below
import Derived.KernelRfl
namespace Go.Loose
open Go

abbrev Facts := Nat → World → Prop

def upd (D : Facts) (k : Nat) (f : World → Prop) : Facts := fun j w => if j = k then f w else D j w

section
variable (P : Program) (md : Region.Mode) (ops : Array Oper) (R : World → World → Prop) (w0 : World) (S : Nat → Option (Value → World → Prop))

/-- The facts on what an operation waits for. -/
def Needs (o : Oper) (D : Facts) (w : World) : Prop := ∀ e ∈ o.after, Region.binds md e = true → D e.on w

/-- What is asked of an operation of which a fact is told. -/
def Upon (s : Value → World → Prop) (w : World) : Result Next → Prop
  | .ok (.value u) w' => R w w' ∧ s u w'
  | .ok (.enter f args) w' => R w w' ∧ Calls P f args w' (fun e w'' => ∃ u, e = .returned u ∧ R w' w'' ∧ s u w'')
  | _ => False

/-- One value, in every world of the class; the world as it was. -/
def Still (c : Value) (w : World) : Result Next → Prop
  | .ok (.value u) w' => w' = w ∧ u = c
  | .ok .skip w' => w' = w ∧ c = undef
  | _ => False

def StillAt (o : Oper) (a : Act) (D : Facts) (c : Value) : Prop := ∀ w, R w0 w → Needs md o D w → Still c w ((execOp a.eval o).run P w)
def UponAt (o : Oper) (a : Act) (D : Facts) (s : Value → World → Prop) : Prop := ∀ w, R w0 w → Needs md o D w → Upon P R s w ((execOp a.eval o).run P w)

/-- Operation k in state (a, D), where it is wanted. -/
def One (k : Nat) (o : Oper) (a : Act) (D : Facts) (next : Act → Facts → Prop) : Prop :=
  match S k with
  | none => ∃ c, StillAt P md R w0 o a D c ∧ next (a.put o.dst c) D
  | some s => UponAt P md R w0 o a D s ∧ ∀ v w, R w0 w → (∀ j, D j w) → s v w → next (a.put o.dst v) (upd D k (s v))

/-- The lexical walk. -/
def wpL (Q : Act → Facts → Prop) : Nat → List Oper → Act → Facts → Prop
  | _, [], a, D => Q a D
  | k, o :: rest, a, D =>
    if Region.wanted o (yielded ops a.tmps) then One P md R w0 S k o a D (wpL Q (k + 1) rest) else wpL Q (k + 1) rest (a.put o.dst undef) D

def lOp (k : Nat) (K : Act → Facts → Prop) (a : Act) (D : Facts) : Prop :=
  match ops[k]? with
  | none => K a D
  | some o => if Region.wanted o (yielded ops a.tmps) then One P md R w0 S k o a D K else K (a.put o.dst undef) D

def wpAnyL (Q : Act → Facts → Prop) : Nat → Array Bool → Act → Facts → Prop
  | 0, listed, a, D => Region.ready md ops listed = [] ∧ Q a D
  | fuel + 1, listed, a, D =>
    (Region.ready md ops listed = [] → Q a D) ∧
    ∀ i ∈ Region.ready md ops listed, lOp P md ops R w0 S i (wpAnyL Q fuel (listed.setIfInBounds i true)) a D
end

section
variable {P : Program} {md : Region.Mode} {ops : Array Oper} {R : World → World → Prop} {w0 : World} {S : Nat → Option (Value → World → Prop)}

theorem One.mono {k : Nat} {o : Oper} {a : Act} {D : Facts} {K K' : Act → Facts → Prop} (h : ∀ a D, K a D → K' a D) (hh : One P md R w0 S k o a D K) : One P md R w0 S k o a D K' := by
  unfold One at *
  split at hh
  · obtain ⟨c, h1, h2⟩ := hh; exact ⟨c, h1, h _ _ h2⟩
  · exact ⟨hh.1, fun v w hw hD hs => h _ _ (hh.2 v w hw hD hs)⟩

theorem lOp.mono {k : Nat} {a : Act} {D : Facts} {K K' : Act → Facts → Prop} (h : ∀ a D, K a D → K' a D) (hh : lOp P md ops R w0 S k K a D) : lOp P md ops R w0 S k K' a D := by
  unfold lOp at *
  split
  · exact h _ _ (by simpa [*] using hh)
  · rename_i o ho
    simp only [ho] at hh
    split
    · rename_i hw; simp only [hw, if_true] at hh; exact hh.mono h
    · rename_i hw; simp only [hw] at hh; exact h _ _ hh

/-- The facts last. -/
def Lasts (R : World → World → Prop) (S : Nat → Option (Value → World → Prop)) : Prop := ∀ k s, S k = some s → ∀ v w w', R w w' → s v w → s v w'

/-- All facts of D last. -/
def LastsD (R : World → World → Prop) (D : Facts) : Prop := ∀ j w w', R w w' → D j w → D j w'

theorem LastsD.upd {D : Facts} (h : LastsD R D) (hS : Lasts R S) {k : Nat} {s : Value → World → Prop} (hk : S k = some s) (v : Value) : LastsD R (upd D k (s v)) := by
  intro j w w' hw hj
  unfold Loose.upd at *
  split
  · rename_i e; simp only [e, if_true] at hj; exact hS k s hk v w w' hw hj
  · rename_i e; simp only [e, if_false] at hj; exact h j w w' hw hj

theorem upd_all {D : Facts} {k : Nat} {f : World → Prop} {w : World} (h : ∀ j, D j w) (hf : f w) : ∀ j, upd D k f j w := by
  intro j; unfold upd; split
  · exact hf
  · exact h j

theorem upd_ne {D : Facts} {k j : Nat} {f : World → Prop} {w : World} (h : j ≠ k) : upd D k f j w = D j w := by simp [upd, h]

/-- From the class to the machine. -/
theorem wpOp_of_lOp {i : Nat} {a : Act} {D : Facts} {K : Act → Facts → Prop} {K' : Act → World → Prop} {Q' : Exit → Act → World → Prop} {w : World}
    (hR : ∀ a b c, R a b → R b c → R a c) (hS : Lasts R S) (hDl : LastsD R D) (hw : R w0 w) (hD : ∀ j, D j w)
    (h : ∀ a D' w', R w0 w' → LastsD R D' → (∀ j, D' j w') → K a D' → K' a w') (hh : lOp P md ops R w0 S i K a D) : wpOp P ops Q' i K' a w := by
  unfold lOp at hh
  unfold wpOp
  split
  · rename_i ho; simp only [ho] at hh; exact h _ _ _ hw hDl hD hh
  · rename_i o ho
    simp only [ho] at hh
    split
    · rename_i hwt
      simp only [hwt, if_true] at hh
      refine .inl ?_
      unfold One at hh
      unfold Oper.wp
      split at hh
      · obtain ⟨c, h1, h2⟩ := hh
        have h3 := h1 w hw (fun e _ _ => hD _)
        generalize (execOp a.eval o).run P w = r at h3
        cases r with
        | ok n w' =>
          cases n <;> simp only [Still] at h3
          · obtain ⟨rfl, rfl⟩ := h3; simp only [Oper.upon]; exact h _ _ _ hw hDl hD h2
          · obtain ⟨rfl, rfl⟩ := h3; simp only [Oper.upon]; exact h _ _ _ hw hDl hD h2
        | halt x w' => simp only [Still] at h3
      · rename_i s hs
        obtain ⟨h1, h2⟩ := hh
        have h3 := h1 w hw (fun e _ _ => hD _)
        generalize (execOp a.eval o).run P w = r at h3
        cases r with
        | ok n w' =>
          cases n <;> simp only [Upon] at h3
          · obtain ⟨h4, h5⟩ := h3
            simp only [Oper.upon]
            have hw' := hR _ _ _ hw h4
            have hD' : ∀ j, D j w' := fun j => hDl j _ _ h4 (hD j)
            exact h _ _ _ hw' (hDl.upd hS hs _) (upd_all hD' h5) (h2 _ _ hw' hD' h5)
          · obtain ⟨h4, hc⟩ := h3
            simp only [Oper.upon]
            refine hc.mono fun e w'' ⟨u, he, h6, h5⟩ => ?_
            subst he
            have hw' := hR _ _ _ hw (hR _ _ _ h4 h6)
            have hD' : ∀ j, D j w'' := fun j => hDl j _ _ (hR _ _ _ h4 h6) (hD j)
            exact h _ _ _ hw' (hDl.upd hS hs _) (upd_all hD' h5) (h2 _ _ hw' hD' h5)
        | halt x w' => simp only [Upon] at h3
    · rename_i hwt; simp only [hwt] at hh; exact h _ _ _ hw hDl hD hh

theorem wpAny_of_wpAnyL {Q : Act → Facts → Prop} {Q' : Exit → Act → World → Prop} (hR : ∀ a b c, R a b → R b c → R a c) (hS : Lasts R S)
    (hQ : ∀ a D w, R w0 w → (∀ j, D j w) → Q a D → Q' .normal a w) : ∀ (fuel : Nat) (listed : Array Bool) (a : Act) (D : Facts) (w : World), R w0 w → LastsD R D → (∀ j, D j w) →
    wpAnyL P md ops R w0 S Q fuel listed a D → wpAny P md ops Q' fuel listed a w
  | 0, _, _, _, _, hw, _, hD, h => ⟨h.1, hQ _ _ _ hw hD h.2⟩
  | fuel + 1, _, _, _, _, hw, hl, hD, h => ⟨fun h0 => hQ _ _ _ hw hD (h.1 h0), fun i hi =>
      wpOp_of_lOp hR hS hl hw hD (fun a' D' w' hw' hl' hD' => wpAny_of_wpAnyL hR hS hQ fuel _ a' D' w' hw' hl' hD') (h.2 i hi)⟩

/-- What operation 'oi' (number i) is, in state (a, D): told apart from what follows. -/
inductive Is (P : Program) (md : Region.Mode) (ops : Array Oper) (R : World → World → Prop) (w0 : World) (S : Nat → Option (Value → World → Prop)) (i : Nat) (oi : Oper) (a : Act) (D : Facts) : Prop
  | not (h : Region.wanted oi (yielded ops a.tmps) = false)
  | still (h : Region.wanted oi (yielded ops a.tmps) = true) (hs : S i = none) (c : Value) (hc : StillAt P md R w0 oi a D c)
  | upon (h : Region.wanted oi (yielded ops a.tmps) = true) (s : Value → World → Prop) (hs : S i = some s) (hc : UponAt P md R w0 oi a D s)

theorem Needs.of {o : Oper} {D : Facts} {k : Nat} {f : World → Prop} {w : World} (hno : ∀ e ∈ o.after, Region.binds md e = true → e.on ≠ k) : Needs md o (upd D k f) w ↔ Needs md o D w := by
  unfold Needs
  constructor
  · intro h e he hb; have := h e he hb; rwa [upd_ne (hno e he hb)] at this
  · intro h e he hb; rw [upd_ne (hno e he hb)]; exact h e he hb

theorem StillAt.of {o : Oper} {a a' : Act} {D D' : Facts} {c : Value} (he : execOp a'.eval o = execOp a.eval o) (hN : ∀ w, Needs md o D' w → Needs md o D w) (h : StillAt P md R w0 o a D c) : StillAt P md R w0 o a' D' c := by
  intro w hw hn; rw [he]; exact h w hw (hN w hn)

theorem UponAt.of {o : Oper} {a a' : Act} {D D' : Facts} {s : Value → World → Prop} (he : execOp a'.eval o = execOp a.eval o) (hN : ∀ w, Needs md o D' w → Needs md o D w) (h : UponAt P md R w0 o a D s) : UponAt P md R w0 o a' D' s := by
  intro w hw hn; rw [he]; exact h w hw (hN w hn)

/-- A world in which an operation's fact holds. -/
theorem UponAt.gives {o : Oper} {a : Act} {D : Facts} {s : Value → World → Prop} (hR : ∀ a b c, R a b → R b c → R a c) (hl : LastsD R D) {w : World} (hw : R w0 w) (hD : ∀ j, D j w)
    (h : UponAt P md R w0 o a D s) : ∃ v w', R w0 w' ∧ (∀ j, D j w') ∧ s v w' := by
  have h3 := h w hw (fun e _ _ => hD _)
  generalize (execOp a.eval o).run P w = r at h3
  cases r with
  | ok n w' =>
    cases n <;> simp only [Upon] at h3
    · exact ⟨_, w', hR _ _ _ hw h3.1, fun j => hl j _ _ h3.1 (hD j), h3.2⟩
    · obtain ⟨h4, hc⟩ := h3
      obtain ⟨e, w'', fr, ⟨u, _, h5, h6⟩, _⟩ := hc []
      exact ⟨u, w'', hR _ _ _ hw (hR _ _ _ h4 h5), fun j => hl j _ _ (hR _ _ _ h4 h5) (hD j), h6⟩
  | halt x w' => simp only [Upon] at h3

/-- Still operations yield one value alone. -/
theorem StillAt.unique {o : Oper} {a : Act} {D : Facts} {c c' : Value} {w : World} (hw : R w0 w) (hD : ∀ j, D j w) (h : StillAt P md R w0 o a D c) (h' : StillAt P md R w0 o a D c') : c = c' := by
  have h1 := h w hw (fun e _ _ => hD _)
  have h2 := h' w hw (fun e _ _ => hD _)
  generalize (execOp a.eval o).run P w = r at h1 h2
  cases r with
  | ok n w' => cases n <;> simp only [Still] at h1 h2 <;> (try exact h1.2.symm.trans h2.2) <;> exact h1.2.trans h2.2.symm
  | halt x w' => simp only [Still] at h1

/-- What follows operation i. -/
def Then (P : Program) (md : Region.Mode) (ops : Array Oper) (R : World → World → Prop) (w0 : World) (S : Nat → Option (Value → World → Prop)) (i : Nat) (oi : Oper) (a : Act) (D : Facts) (K : Act → Facts → Prop) : Prop :=
  (Region.wanted oi (yielded ops a.tmps) = false → K (a.put oi.dst undef) D) ∧
  (Region.wanted oi (yielded ops a.tmps) = true → S i = none → ∀ c, StillAt P md R w0 oi a D c → K (a.put oi.dst c) D) ∧
  (Region.wanted oi (yielded ops a.tmps) = true → ∀ s, S i = some s → ∀ v w, R w0 w → (∀ j, D j w) → s v w → K (a.put oi.dst v) (upd D i (s v)))

theorem lOp_of {i : Nat} {oi : Oper} {a : Act} {D : Facts} {K : Act → Facts → Prop} (hi : ops[i]? = some oi) (h : Is P md ops R w0 S i oi a D) (hk : Then P md ops R w0 S i oi a D K) : lOp P md ops R w0 S i K a D := by
  unfold lOp
  simp only [hi]
  cases h with
  | not h => simp only [h, Bool.false_eq_true, if_false]; exact hk.1 h
  | still h hs c hc => simp only [h, if_true, One, hs]; exact ⟨c, hc, hk.2.1 h hs c hc⟩
  | upon h s hs hc => simp only [h, if_true, One, hs]; exact ⟨hc, hk.2.2 h s hs⟩

theorem of_lOp {i : Nat} {oi : Oper} {a : Act} {D : Facts} {K : Act → Facts → Prop} (hi : ops[i]? = some oi) {w : World} (hw : R w0 w) (hD : ∀ j, D j w) (h : lOp P md ops R w0 S i K a D) :
    Is P md ops R w0 S i oi a D ∧ Then P md ops R w0 S i oi a D K := by
  unfold lOp at h
  simp only [hi] at h
  by_cases hwt : Region.wanted oi (yielded ops a.tmps) = true
  · simp only [hwt, if_true, One] at h
    split at h
    · rename_i hs
      obtain ⟨c, h1, h2⟩ := h
      exact ⟨.still hwt hs c h1, fun h => by (rw [hwt] at h; cases h), fun _ _ c' h' => by rw [StillAt.unique hw hD h' h1]; exact h2, fun _ s hs' => by (rw [hs] at hs'; cases hs')⟩
    · rename_i s hs
      exact ⟨.upon hwt s hs h.1, fun h => by (rw [hwt] at h; cases h), fun _ hs' => by (rw [hs] at hs'; cases hs'), fun _ s' hs' => by rw [hs] at hs'; cases hs'; exact h.2⟩
  · simp only [hwt] at h
    have hwf : Region.wanted oi (yielded ops a.tmps) = false := by simpa using hwt
    exact ⟨.not hwf, fun _ => h, fun h => absurd h hwt, fun h => absurd h hwt⟩

theorem Is.of {i : Nat} {oi : Oper} {a a' : Act} {D D' : Facts} (hwt : Region.wanted oi (yielded ops a'.tmps) = Region.wanted oi (yielded ops a.tmps)) (he : execOp a'.eval oi = execOp a.eval oi)
    (hN : ∀ w, Needs md oi D' w → Needs md oi D w) (h : Is P md ops R w0 S i oi a D) : Is P md ops R w0 S i oi a' D' := by
  cases h with
  | not h => exact .not (hwt.trans h)
  | still h hs c hc => exact .still (hwt.trans h) hs c (hc.of he hN)
  | upon h s hs hc => exact .upon (hwt.trans h) s hs (hc.of he hN)

theorem upd_comm {D : Facts} {i j : Nat} {f g : World → Prop} (h : i ≠ j) : upd (upd D i f) j g = upd (upd D j g) i f := by
  funext k w
  unfold upd
  by_cases h1 : k = j
  · subst h1; simp [Ne.symm h]
  · simp [h1]

/-- **An operation that may come up now may be taken first.** -/
theorem wpAnyL_first {Q : Act → Facts → Prop} (hR : ∀ a b c, R a b → R b c → R a c) (hS : Lasts R S) {i : Nat} {oi : Oper} (hi : ops[i]? = some oi) (hsel : ∀ (j : Nat) (o : Oper) cs b, ops[j]? = some o → o.op ≠ .select cs b) :
    ∀ (fuel : Nat) (listed : Array Bool) (a : Act) (D : Facts),
      (∀ j oj, ops[j]? = some oj → j ≠ i → listed.getD j true = false → (∀ e ∈ oj.after, Region.binds md e = true → e.on ≠ i) → oi.apart ops oj = true) →
      (∀ k w, listed.getD k true = false → D k w) →
      i ∈ Region.ready md ops listed → LastsD R D → (∃ w, R w0 w ∧ ∀ j, D j w) → Is P md ops R w0 S i oi a D →
      Then P md ops R w0 S i oi a D (wpAnyL P md ops R w0 S Q fuel (listed.setIfInBounds i true)) → wpAnyL P md ops R w0 S Q (fuel + 1) listed a D := by
  intro fuel
  induction fuel with
  | zero =>
    intro listed a D _ _ hr hl hex hy H
    refine ⟨fun h => (by rw [h] at hr; cases hr), fun j hj => ?_⟩
    by_cases hji : j = i
    · subst hji; exact lOp_of hi hy H
    · have h1 := ready_mono hj hji
      obtain ⟨w, hw, hD⟩ := hex
      exfalso
      have h2 : Region.ready md ops (listed.setIfInBounds i true) = [] := by
        cases hy with
        | not h => exact (H.1 h).1
        | still h hs c hc => exact (H.2.1 h hs c hc).1
        | upon h s hs hc =>
          obtain ⟨v, w', hw', hD', hv⟩ := hc.gives hR hl hw hD
          exact (H.2.2 h s hs v w' hw' hD' hv).1
      rw [h2] at h1
      cases h1
  | succ fuel ih =>
    intro listed a D hfree hunl hr hl hex hy H
    refine ⟨fun h => (by rw [h] at hr; cases hr), fun j hj => ?_⟩
    by_cases hji : j = i
    · subst hji; exact lOp_of hi hy H
    have hij : i ≠ j := Ne.symm hji
    obtain ⟨hjun, oj, hoj, hall⟩ := mem_ready.1 hj
    have hnot : ∀ e ∈ oj.after, Region.binds md e = true → e.on ≠ i := fun e he hb heq => by
      have h1 := hall e he hb
      have h0 := (mem_ready.1 hr).1
      rw [heq] at h1
      rcases Nat.lt_or_ge i listed.size with h' | h'
      · simp [h'] at h0 h1; rw [h0] at h1; cases h1
      · simp [Array.getElem?_eq_none h'] at h1
    have hnoti : ∀ e ∈ oi.after, Region.binds md e = true → e.on ≠ j := fun e he hb heq => by
      obtain ⟨_, oi', hoi', halli⟩ := mem_ready.1 hr
      rw [hi] at hoi'
      cases hoi'
      have h1 := halli e he hb
      rw [heq] at h1
      rcases Nat.lt_or_ge j listed.size with h' | h'
      · simp [h'] at hjun h1; rw [hjun] at h1; cases h1
      · simp [Array.getElem?_eq_none h'] at h1
    obtain ⟨ap1, ap2, ap3⟩ := Oper.apart_spec (hfree j oj hoj hji hjun hnot)
    have hsi := fun cs b => hsel i oi cs b hi
    have hsj := fun cs b => hsel j oj cs b hoj
    have hfree' : ∀ k ok, ops[k]? = some ok → k ≠ i → (listed.setIfInBounds j true).getD k true = false →
        (∀ e ∈ ok.after, Region.binds md e = true → e.on ≠ i) → oi.apart ops ok = true := fun k ok hk hki hun hno => by
      refine hfree k ok hk hki ?_ hno
      by_cases hjk : j = k
      · subst hjk; exact hjun
      · rw [getD_set_ne true hjk] at hun; exact hun
    have hcomm : (listed.setIfInBounds i true).setIfInBounds j true = (listed.setIfInBounds j true).setIfInBounds i true := Array.setIfInBounds_comm _ _ hij
    -- operation i, behind operation j
    have keepI : ∀ u D', (∀ w, Needs md oi D' w → Needs md oi D w) → Is P md ops R w0 S i oi (a.put oj.dst u) D' := fun u D' hN =>
      hy.of (wanted_put oi a oj.dst u ap3) (execOp_put oi hsi a oj.dst u ap3) hN
    -- operation j, ahead of operation i
    have backJ : ∀ v D', (∀ w, Needs md oj D w → Needs md oj D' w) → Is P md ops R w0 S j oj (a.put oi.dst v) D' → Is P md ops R w0 S j oj a D := fun v D' hN h =>
      h.of (wanted_put oj a oi.dst v ap1).symm (execOp_put oj hsj a oi.dst v ap1).symm hN
    obtain ⟨w, hw, hD⟩ := hex
    have hrj := ready_mono hj hji
    have hri : i ∈ Region.ready md ops (listed.setIfInBounds j true) := ready_mono hr hij
    -- what follows j, behind any value of i
    have wj : ∀ v, Region.wanted oj (yielded ops (a.put oi.dst v).tmps) = Region.wanted oj (yielded ops a.tmps) := fun v => wanted_put oj a oi.dst v ap1
    have ej : ∀ v, execOp (a.put oi.dst v).eval oj = execOp a.eval oj := fun v => execOp_put oj hsj a oi.dst v ap1
    have ei : ∀ u, execOp (a.put oj.dst u).eval oi = execOp a.eval oi := fun u => execOp_put oi hsi a oj.dst u ap3
    have wi : ∀ u, Region.wanted oi (yielded ops (a.put oj.dst u).tmps) = Region.wanted oi (yielded ops a.tmps) := fun u => wanted_put oi a oj.dst u ap3
    have pc : ∀ v u, (a.put oi.dst v).put oj.dst u = (a.put oj.dst u).put oi.dst v := fun v u => Act.put_comm a v u ap2
    -- Is j at (a, D)
    have isJ : Is P md ops R w0 S j oj a D := by
      cases hy with
      | not h => exact backJ undef D (fun _ h => h) (of_lOp hoj hw hD ((H.1 h).2 j hrj)).1
      | still h hs c hc => exact backJ c D (fun _ h => h) (of_lOp hoj hw hD ((H.2.1 h hs c hc).2 j hrj)).1
      | upon h s hs hc =>
        obtain ⟨v, w', hw', hD', hv⟩ := hc.gives hR hl hw hD
        exact backJ v _ (fun _ h => (Needs.of hnot).2 h) (of_lOp hoj hw' (upd_all hD' hv) ((H.2.2 h s hs v w' hw' hD' hv).2 j hrj)).1
    refine lOp_of hoj isJ ?_
    -- what follows j at (a, D): by the induction, i first
    have main : ∀ u D', (∀ k w, (listed.setIfInBounds j true).getD k true = false → D' k w) → LastsD R D' → (∃ w, R w0 w ∧ ∀ j, D' j w) → (∀ w, Needs md oi D' w → Needs md oi D w) → (∀ w, Needs md oi D w → Needs md oi D' w) →
        (Region.wanted oi (yielded ops a.tmps) = false → wpAnyL P md ops R w0 S Q fuel ((listed.setIfInBounds i true).setIfInBounds j true) ((a.put oi.dst undef).put oj.dst u) D') →
        (Region.wanted oi (yielded ops a.tmps) = true → S i = none → ∀ c, StillAt P md R w0 oi a D c → wpAnyL P md ops R w0 S Q fuel ((listed.setIfInBounds i true).setIfInBounds j true) ((a.put oi.dst c).put oj.dst u) D') →
        (Region.wanted oi (yielded ops a.tmps) = true → ∀ s, S i = some s → ∀ v w, R w0 w → (∀ j, D' j w) → s v w → wpAnyL P md ops R w0 S Q fuel ((listed.setIfInBounds i true).setIfInBounds j true) ((a.put oi.dst v).put oj.dst u) (upd D' i (s v))) →
        wpAnyL P md ops R w0 S Q (fuel + 1) (listed.setIfInBounds j true) (a.put oj.dst u) D' := by
      intro u D' hunl' hl' hex' hN hN' h1 h2 h3
      refine ih (listed.setIfInBounds j true) (a.put oj.dst u) D' hfree' hunl' hri hl' hex' (keepI u D' hN) ⟨?_, ?_, ?_⟩
      · intro h; rw [wi u] at h; have := h1 h; rw [hcomm, pc] at this; exact this
      · intro h hs c hc
        rw [wi u] at h
        have := h2 h hs c (hc.of (ei u).symm hN')
        rw [hcomm, pc] at this; exact this
      · intro h s hs v w hw hD hv
        rw [wi u] at h
        have := h3 h s hs v w hw hD hv
        rw [hcomm, pc] at this; exact this
    have hunlD : ∀ k w, (listed.setIfInBounds j true).getD k true = false → D k w := fun k w hk => by
      by_cases hjk : j = k
      · subst hjk; exact hunl _ _ hjun
      · rw [getD_set_ne true hjk] at hk; exact hunl k w hk
    refine ⟨?_, ?_, ?_⟩
    · -- j is not wanted
      intro hjw
      refine main undef D hunlD hl ⟨w, hw, hD⟩ (fun _ h => h) (fun _ h => h) ?_ ?_ ?_
      · intro h; exact (of_lOp hoj hw hD ((H.1 h).2 j hrj)).2.1 (by rw [wj]; exact hjw)
      · intro h hs c hc; exact (of_lOp hoj hw hD ((H.2.1 h hs c hc).2 j hrj)).2.1 (by rw [wj]; exact hjw)
      · intro h s hs v w' hw' hD' hv
        exact (of_lOp hoj hw' (upd_all hD' hv) ((H.2.2 h s hs v w' hw' hD' hv).2 j hrj)).2.1 (by rw [wj]; exact hjw)
    · intro hjw hjs c hc
      refine main c D hunlD hl ⟨w, hw, hD⟩ (fun _ h => h) (fun _ h => h) ?_ ?_ ?_
      · intro h; exact (of_lOp hoj hw hD ((H.1 h).2 j hrj)).2.2.1 (by rw [wj]; exact hjw) hjs c (hc.of (ej _) (fun _ h => h))
      · intro h hs c' hc'; exact (of_lOp hoj hw hD ((H.2.1 h hs c' hc').2 j hrj)).2.2.1 (by rw [wj]; exact hjw) hjs c (hc.of (ej _) (fun _ h => h))
      · intro h s hs v w' hw' hD' hv
        exact (of_lOp hoj hw' (upd_all hD' hv) ((H.2.2 h s hs v w' hw' hD' hv).2 j hrj)).2.2.1 (by rw [wj]; exact hjw) hjs c (hc.of (ej _) (fun _ h => (Needs.of hnot).1 h))
    · intro hjw s hjs u w1 hw1 hD1 hu
      have hunlU : ∀ k w, (listed.setIfInBounds j true).getD k true = false → upd D j (s u) k w := fun k w hk => by
        have hjk : j ≠ k := fun e => by
          subst e
          have hlt : j < listed.size := by
            rcases Nat.lt_or_ge j listed.size with h' | h'
            · exact h'
            · simp [Array.getElem?_eq_none h'] at hjun
          simp [hlt] at hk
        rw [upd_ne (Ne.symm hjk)]
        exact hunlD k w hk
      refine main u (upd D j (s u)) hunlU (hl.upd hS hjs u) ⟨w1, hw1, upd_all hD1 hu⟩ (fun _ h => (Needs.of hnoti).1 h) (fun _ h => (Needs.of hnoti).2 h) ?_ ?_ ?_
      · intro h; exact (of_lOp hoj hw hD ((H.1 h).2 j hrj)).2.2.2 (by rw [wj]; exact hjw) s hjs u w1 hw1 hD1 hu
      · intro h hs c' hc'; exact (of_lOp hoj hw hD ((H.2.1 h hs c' hc').2 j hrj)).2.2.2 (by rw [wj]; exact hjw) s hjs u w1 hw1 hD1 hu
      · intro h s' hs v w' hw' hD' hv
        have hD0 : ∀ k, k ≠ j → D k w' := fun k hk => by have := hD' k; rwa [upd_ne hk] at this
        have huw : s u w' := by have := hD' j; simpa [upd] using this
        have hDw' : ∀ k, D k w' := fun k => by
          by_cases hk : k = j
          · subst hk; exact hunl _ _ hjun
          · exact hD0 k hk
        have := (of_lOp hoj hw' (upd_all hDw' hv) ((H.2.2 h s' hs v w' hw' hDw' hv).2 j hrj)).2.2.2 (by rw [wj]; exact hjw) s hjs u w' hw' (upd_all hDw' hv) huw
        rw [upd_comm hij] at this
        exact this

theorem wpAnyL_lex {Q : Act → Facts → Prop} (hR : ∀ a b c, R a b → R b c → R a c) (hS : Lasts R S) (hs : Region.noSelect ops = true) :
    ∀ (l : List Oper) (k : Nat) (listed : Array Bool) (a : Act) (D : Facts), (∀ j, l[j]? = ops[k + j]?) →
    Region.lexFrom md ops l.length k listed = true → (∀ k w, listed.getD k true = false → D k w) → LastsD R D → (∃ w, R w0 w ∧ ∀ j, D j w) → wpL P md ops R w0 S Q k l a D → wpAnyL P md ops R w0 S Q l.length listed a D
  | [], _, _, _, _, _, hB, _, _, _, h => ⟨by simpa [Region.lexFrom] using hB, h⟩
  | o :: l, k, listed, a, D, hl, hB, hun, hla, hex, h => by
    have h0 : ops[k]? = some o := by simpa using (hl 0).symm
    simp only [List.length_cons, Region.lexFrom, Bool.and_eq_true] at hB
    obtain ⟨⟨hr, hf⟩, hB'⟩ := hB
    have hr' : k ∈ Region.ready md ops listed := by simpa using hr
    have hst : lOp P md ops R w0 S k (wpL P md ops R w0 S Q (k + 1) l) a D := by unfold lOp; simp only [h0]; exact h
    obtain ⟨w, hw, hD⟩ := hex
    obtain ⟨hy, hK⟩ := of_lOp h0 hw hD hst
    have hkl : listed.getD k true = false := (mem_ready.1 hr').1
    have hlt : k < listed.size := by
      rcases Nat.lt_or_ge k listed.size with h' | h'
      · exact h'
      · simp [Array.getElem?_eq_none h'] at hkl
    have hl' : ∀ j, l[j]? = ops[k + 1 + j]? := fun j => by have := hl (j + 1); simpa [Nat.add_assoc, Nat.add_comm 1 j] using this
    have hunk : ∀ D' : Facts, (∀ j, j ≠ k → D' j = D j) → ∀ j w, (listed.setIfInBounds k true).getD j true = false → D' j w := fun D' hD' j w hj => by
      have hjk : k ≠ j := fun e => by subst e; simp [hlt] at hj
      rw [hD' j (Ne.symm hjk)]
      rw [getD_set_ne true hjk] at hj
      exact hun j w hj
    refine wpAnyL_first hR hS h0 (Region.noSelect_spec hs) l.length listed a D (Region.free_spec h0 hf) hun hr' hla ⟨w, hw, hD⟩ hy ⟨?_, ?_, ?_⟩
    · exact fun h => wpAnyL_lex hR hS hs l (k + 1) _ _ _ hl' hB' (hunk D fun _ _ => rfl) hla ⟨w, hw, hD⟩ (hK.1 h)
    · exact fun h hs' c hc => wpAnyL_lex hR hS hs l (k + 1) _ _ _ hl' hB' (hunk D fun _ _ => rfl) hla ⟨w, hw, hD⟩ (hK.2.1 h hs' c hc)
    · exact fun h s hs' v w' hw' hD' hv => wpAnyL_lex hR hS hs l (k + 1) _ _ _ hl' hB' (hunk _ fun j hj => by funext w; exact upd_ne hj) (hla.upd hS hs' v) ⟨w', hw', upd_all hD' hv⟩ (hK.2.2 h s hs' v w' hw' hD' hv)

/-- **ONE WALK OF THE LEXICAL ORDER SERVES EVERY ORDER**, up to R. -/
theorem wp_region_loose {id : Nat} {Q : Exit → Act → World → Prop} {a : Act} {w : World} (hR : ∀ a b c, R a b → R b c → R a c) (hS : Lasts R S) (hm : P.follows .mixedOrders = true)
    (hB : Region.lexB .any ops = true) (hr : R w { w with drawn := w.drawn + 1 })
    (h : wpL P .any ops R w S (fun a' D' => ∀ w', R w w' → (∀ j, D' j w') → Q .normal a' w') 0 ops.toList a (fun _ _ => True)) : (Code.region id ops true).wp P Q a w := by
  simp only [Region.lexB, Bool.and_eq_true] at hB
  refine wp_region_any hm (wpAny_of_wpAnyL (Q := fun a' D' => ∀ w', R w w' → (∀ j, D' j w') → Q .normal a' w') hR hS (fun _ _ w' hw' hD h => h w' hw' hD) _ _ _ (fun _ _ => True) _ hr (fun _ _ _ _ h => h) (fun _ => trivial) ?_)
  have := wpAnyL_lex (P := P) (md := .any) hR hS hB.1 ops.toList 0 (Array.replicate ops.size false) a (fun _ _ => True) (by simp) (by simpa using hB.2) (fun _ _ _ => trivial) (fun _ _ _ _ h => h) ⟨_, hr, fun _ => trivial⟩ h
  simpa using this

/-! ### A cheap test that the lexical order is free -/

def bitOf : Option Tmp → Nat
  | some d => 2 ^ d
  | none => 0
def maskOf (l : List Nat) : Nat := l.foldl (fun m t => m ||| 2 ^ t) 0
def aft (md : Region.Mode) (o : Oper) : Nat := maskOf ((o.after.toList.filter (Region.binds md)).map (·.on))

theorem maskOf_acc (l : List Nat) : ∀ m t, (l.foldl (fun m t => m ||| 2 ^ t) m).testBit t = (m.testBit t || decide (t ∈ l)) := by
  induction l with
  | nil => intro m t; simp
  | cons x l ih =>
    intro m t
    rw [List.foldl_cons, ih, Nat.testBit_or, Nat.testBit_two_pow]
    by_cases h : x = t
    · subst h; simp
    · simp [h, Ne.symm h]
theorem maskOf_mem (l : List Nat) (t : Nat) : (maskOf l).testBit t = decide (t ∈ l) := by
  unfold maskOf; rw [maskOf_acc]; simp

theorem and_bit {m d : Nat} (h : (m &&& 2 ^ d == 0) = true) : m.testBit d = false := by
  have h0 : m &&& 2 ^ d = 0 := by simpa using h
  have : (m &&& 2 ^ d).testBit d = false := by rw [h0]; simp
  rw [Nat.testBit_and, Nat.testBit_two_pow_self, Bool.and_true] at this
  exact this

def pairB (md : Region.Mode) (ops : Array Oper) (i : Nat) (oi oj : Oper) : Bool :=
  (aft md oj).testBit i || ((maskOf (oj.looksAt ops) &&& bitOf oi.dst == 0) && (bitOf oj.dst &&& bitOf oi.dst == 0) && (maskOf (oi.looksAt ops) &&& bitOf oj.dst == 0))

def lexFromQ (md : Region.Mode) (ops : Array Oper) : Nat → List Oper → Bool
  | _, [] => true
  | i, o :: rest => decide (aft md o < 2 ^ i) && rest.all (pairB md ops i o) && lexFromQ md ops (i + 1) rest

def lexQ (md : Region.Mode) (ops : Array Oper) : Bool := Region.noSelect ops && lexFromQ md ops 0 ops.toList

theorem aft_mem {o : Oper} {e : Edge} (he : e ∈ o.after) (hb : Region.binds md e = true) : (aft md o).testBit e.on = true := by
  unfold aft
  rw [maskOf_mem, decide_eq_true_eq, List.mem_map]
  exact ⟨e, List.mem_filter.2 ⟨by simpa using he, hb⟩, rfl⟩
theorem aft_of {o : Oper} {i : Nat} (h : (aft md o).testBit i = true) : ∃ e ∈ o.after, Region.binds md e = true ∧ e.on = i := by
  unfold aft at h
  rw [maskOf_mem, decide_eq_true_eq, List.mem_map] at h
  obtain ⟨e, he, rfl⟩ := h
  obtain ⟨h1, h2⟩ := List.mem_filter.1 he
  exact ⟨e, by simpa using h1, h2, rfl⟩

theorem pairB_apart {i : Nat} {oi oj : Oper} (h : pairB md ops i oi oj = true) (hno : ∀ e ∈ oj.after, Region.binds md e = true → e.on ≠ i) : oi.apart ops oj = true := by
  unfold pairB at h
  rw [Bool.or_eq_true] at h
  rcases h with h | h
  · obtain ⟨e, he, hb, hi⟩ := aft_of h
    exact absurd hi (hno e he hb)
  · simp only [Bool.and_eq_true] at h
    obtain ⟨⟨h1, h2⟩, h3⟩ := h
    unfold Oper.apart
    rw [Bool.and_eq_true]
    refine ⟨?_, ?_⟩
    · cases hd : oi.dst with
      | none => rfl
      | some d =>
        rw [hd] at h1 h2
        have e1 := and_bit h1
        have e2 := and_bit h2
        rw [maskOf_mem, decide_eq_false_iff_not] at e1
        simp only [Bool.and_eq_true, Bool.not_eq_true', bne_iff_ne, ne_eq]
        refine ⟨by simpa using e1, fun he => ?_⟩
        rw [he] at e2
        simp [bitOf, Nat.testBit_two_pow_self] at e2
    · cases hd : oj.dst with
      | none => rfl
      | some d =>
        rw [hd] at h3
        have e3 := and_bit h3
        rw [maskOf_mem, decide_eq_false_iff_not] at e3
        simpa using e3

/-- The listed ones are the first k. -/
def FirstK (n k : Nat) (listed : Array Bool) : Prop := listed.size = n ∧ ∀ j, j < n → listed[j]? = some (decide (j < k))

theorem FirstK.next {n k : Nat} {listed : Array Bool} (h : FirstK n k listed) (hk : k < n) : FirstK n (k + 1) (listed.setIfInBounds k true) := by
  refine ⟨by simpa using h.1, fun j hj => ?_⟩
  by_cases hjk : k = j
  · subst hjk
    rw [Array.getElem?_setIfInBounds_self, if_pos (by have := h.1; omega)]
    simp
  · rw [Array.getElem?_setIfInBounds_ne hjk, h.2 j hj]
    congr 1
    rw [decide_eq_decide]
    omega

theorem lexFrom_of (hs : ∀ j o, ops[j]? = some o → ∀ e ∈ o.after, Region.binds md e = true → e.on < j) (hp : ∀ i j oi oj, i < j → ops[i]? = some oi → ops[j]? = some oj → pairB md ops i oi oj = true) :
    ∀ (fuel k : Nat) (listed : Array Bool), k + fuel = ops.size → FirstK ops.size k listed → Region.lexFrom md ops fuel k listed = true
  | 0, k, listed, hk, hf => by
    simp only [Region.lexFrom]
    rw [List.isEmpty_iff]
    apply List.eq_nil_iff_forall_not_mem.2
    intro j hj
    obtain ⟨h0, o, ho, _⟩ := mem_ready.1 hj
    have hlt : j < ops.size := (Array.getElem?_eq_some_iff.1 ho).1
    have h1 := hf.2 j hlt
    simp [Array.getD_eq_getD_getElem?, h1] at h0
    omega
  | fuel + 1, k, listed, hk, hf => by
    have hlt : k < ops.size := by omega
    obtain ⟨o, ho⟩ : ∃ o, ops[k]? = some o := ⟨ops[k], by simp [hlt]⟩
    simp only [Region.lexFrom, Bool.and_eq_true]
    refine ⟨⟨?_, ?_⟩, lexFrom_of hs hp fuel (k + 1) _ (by omega) (hf.next hlt)⟩
    · simp only [List.contains_iff_mem]
      refine mem_ready.2 ⟨?_, o, ho, fun e he hb => ?_⟩
      · simp [Array.getD_eq_getD_getElem?, hf.2 k hlt]
      · have := hs k o ho e he hb
        simp [Array.getD_eq_getD_getElem?, hf.2 e.on (by omega), this]
    · unfold Region.free
      simp only [ho, List.all_eq_true, List.mem_range]
      intro j hj
      obtain ⟨oj, hoj⟩ : ∃ o, ops[j]? = some o := ⟨ops[j], by simp [hj]⟩
      simp only [hoj, Bool.or_eq_true, beq_iff_eq]
      rcases Nat.lt_trichotomy j k with h | h | h
      · left; right; simp [Array.getD_eq_getD_getElem?, hf.2 j hj, h]
      · left; left; exact h
      · right
        have h1 := hp k j o oj h ho hoj
        by_cases hno : ∀ e ∈ oj.after, Region.binds md e = true → e.on ≠ k
        · right; exact pairB_apart h1 hno
        · left
          simp only [Classical.not_forall] at hno
          obtain ⟨e, he, hb, hk'⟩ := hno
          rw [Array.any_eq_true']
          refine ⟨e, he, ?_⟩
          simp only [Bool.and_eq_true, beq_iff_eq]
          exact ⟨hb, Classical.not_not.1 hk'⟩

theorem lexFromQ_spec : ∀ (l : List Oper) (i : Nat), lexFromQ md ops i l = true →
    (∀ j o, l[j]? = some o → ∀ e ∈ o.after, Region.binds md e = true → e.on < i + j) ∧ (∀ a b oa ob, a < b → l[a]? = some oa → l[b]? = some ob → pairB md ops (i + a) oa ob = true)
  | [], i, _ => ⟨fun j o h => by simp at h, fun a b oa ob _ h => by simp at h⟩
  | o :: rest, i, h => by
    simp only [lexFromQ, Bool.and_eq_true, decide_eq_true_eq] at h
    obtain ⟨⟨h1, h2⟩, h3⟩ := h
    obtain ⟨r1, r2⟩ := lexFromQ_spec rest (i + 1) h3
    refine ⟨fun j oj hj e he hb => ?_, fun a b oa ob hab ha hb => ?_⟩
    · cases j with
      | zero =>
        simp at hj
        subst hj
        have h4 := aft_mem (md := md) he hb
        rcases Nat.lt_or_ge e.on i with h5 | h5
        · omega
        · have := Nat.testBit_lt_two_pow (Nat.lt_of_lt_of_le h1 (Nat.pow_le_pow_right (by decide) h5))
          rw [this] at h4
          cases h4
      | succ j =>
        have := r1 j oj (by simpa using hj) e he hb
        omega
    · cases b with
      | zero => omega
      | succ b =>
        cases a with
        | zero =>
          simp at ha
          subst ha
          have hb' : rest[b]? = some ob := by simpa using hb
          exact (List.all_eq_true.1 h2) ob (List.mem_of_getElem? hb')
        | succ a =>
          have := r2 a b oa ob (by omega) (by simpa using ha) (by simpa using hb)
          rw [show i + (a + 1) = i + 1 + a from by omega]
          exact this

theorem lexB_of_lexQ (h : lexQ md ops = true) : Region.lexB md ops = true := by
  unfold lexQ at h
  rw [Bool.and_eq_true] at h
  obtain ⟨h1, h2⟩ := h
  obtain ⟨s1, s2⟩ := lexFromQ_spec _ _ h2
  unfold Region.lexB
  rw [Bool.and_eq_true]
  refine ⟨h1, lexFrom_of (fun j o ho e he hb => by simpa using s1 j o (by simpa using ho) e he hb) (fun i j oi oj hij hi hj => by simpa using s2 i j oi oj hij (by simpa using hi) (by simpa using hj)) _ 0 _ (by simp) ⟨by simp, fun j hj => by simp [hj]⟩⟩

theorem wpL_none {Q : Act → Facts → Prop} {k : Nat} {o : Oper} {rest : List Oper} {a : Act} {D : Facts} {c : Value} (hS : S k = none) (hw : Region.wanted o (yielded ops a.tmps) = true) (hrun : StillAt P md R w0 o a D c)
    (h : ∀ K : Act → Facts → Prop, (∀ a D, wpL P md ops R w0 S Q (k + 1) rest a D → K a D) → K (a.put o.dst c) D) : wpL P md ops R w0 S Q k (o :: rest) a D := by
  simp only [wpL, hw, if_true, One, hS]
  exact ⟨c, hrun, h _ (fun _ _ h => h)⟩
theorem wpL_skip {Q : Act → Facts → Prop} {k : Nat} {o : Oper} {rest : List Oper} {a : Act} {D : Facts} (hw : Region.wanted o (yielded ops a.tmps) = false)
    (h : ∀ K : Act → Facts → Prop, (∀ a D, wpL P md ops R w0 S Q (k + 1) rest a D → K a D) → K (a.put o.dst undef) D) : wpL P md ops R w0 S Q k (o :: rest) a D := by
  simp only [wpL, hw, Bool.false_eq_true, if_false]
  exact h _ (fun _ _ h => h)
theorem wpL_some {Q : Act → Facts → Prop} {k : Nat} {o : Oper} {rest : List Oper} {a : Act} {D : Facts} {s : Value → World → Prop} (hS : S k = some s) (hw : Region.wanted o (yielded ops a.tmps) = true) (hrun : UponAt P md R w0 o a D s)
    (h : ∀ v w, R w0 w → (∀ j, D j w) → s v w → ∀ K : Act → Facts → Prop, (∀ a D, wpL P md ops R w0 S Q (k + 1) rest a D → K a D) → K (a.put o.dst v) (upd D k (s v))) : wpL P md ops R w0 S Q k (o :: rest) a D := by
  simp only [wpL, hw, if_true, One, hS]
  exact ⟨hrun, fun v w h1 h2 h3 => h v w h1 h2 h3 _ (fun _ _ h => h)⟩
theorem wpL_nil {Q : Act → Facts → Prop} {k : Nat} {a : Act} {D : Facts} (h : Q a D) : wpL P md ops R w0 S Q k [] a D := h

/-- The facts, as a list. -/
def lk : List (Nat × (Value → World → Prop)) → Nat → Option (Value → World → Prop)
  | [], _ => none
  | (i, s) :: L, k => if k = i then some s else lk L k
theorem lasts_nil : Lasts R (lk []) := fun k s h => by cases h
theorem lasts_cons {i : Nat} {s : Value → World → Prop} {L : List (Nat × (Value → World → Prop))} (h : ∀ v w w', R w w' → s v w → s v w') (hL : Lasts R (lk L)) : Lasts R (lk ((i, s) :: L)) := by
  intro k t hk
  simp only [lk] at hk
  split at hk
  · cases hk; exact h
  · exact hL k t hk
/-- One value. -/
def is (c : Value) : Value → World → Prop := fun v _ => v = c
theorem lasts_is {i : Nat} {c : Value} {L : List (Nat × (Value → World → Prop))} (hL : Lasts R (lk L)) : Lasts R (lk ((i, is c) :: L)) := lasts_cons (fun _ _ _ _ h => h) hL

/-- The same at the relation 'the world has grown'. -/
theorem wp_region_grow {id : Nat} {Q : Exit → Act → World → Prop} {a : Act} {w : World} {l : List Oper} (L : List (Nat × (Value → World → Prop)))
    (hS : Lasts (fun w w' : World => RowKit.Below w.heap.size w w') (lk L)) (hm : P.follows .mixedOrders = true) (hB : lexQ .any l.toArray = true)
    (h : wpL P .any l.toArray (fun w w' : World => RowKit.Below w.heap.size w w') w (lk L) (fun a' D' => ∀ w' : World, RowKit.Below w.heap.size w w' → (∀ j, D' j w') → Q .normal a' w') 0 l a (fun _ _ => True)) :
    (Code.region id l.toArray true).wp P Q a w :=
  wp_region_loose (R := fun w w' : World => RowKit.Below w.heap.size w w') (fun _ _ _ h k => RowKit.Below.trans h (k.mono h.size)) hS hm (lexB_of_lexQ hB) ⟨rfl, rfl, rfl, Nat.le_refl _, fun _ _ => rfl⟩ (by simpa using h)
end
end Go.Loose
