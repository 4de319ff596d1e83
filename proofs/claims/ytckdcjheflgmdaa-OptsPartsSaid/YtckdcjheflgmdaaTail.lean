/-
  Proved here, over any program: a region that draws its order and whose stores come last may be walked once: its head in the order of the text over
  worlds that grow, then its tail exactly. Conditions: the head's order is free, each operation of the tail waits for the head (but for moves) and for the one before.
-/
import Derived.Test.YtckdcjheflgmdaaLoose
namespace Go.Loose
open Go
set_option linter.unusedVariables false

/-- A move, or a component of a tuple: no world in it. -/
def lateB (o : Oper) : Bool := match o.op with | .move _ => true | .assign _ => true | .extract _ _ => true | _ => false

theorem late_run {P : Program} {o : Oper} (h : lateB o = true) (ev : Operand → Value) {w w1 w2 : World} {n : Next} (hr : (execOp ev o).run P w = .ok n w1) : w1 = w ∧ (execOp ev o).run P w2 = .ok n w2 ∧ ∃ v, n = .value v := by
  unfold lateB at h
  unfold execOp at hr ⊢
  split at h
  · rename_i x hx; simp only [hx] at hr ⊢; cases hr; exact ⟨rfl, rfl, _, rfl⟩
  · rename_i x hx; simp only [hx] at hr ⊢; cases hr; exact ⟨rfl, rfl, _, rfl⟩
  · rename_i t ix hx
    simp only [hx] at hr ⊢
    generalize ev t = u at *
    cases u <;> simp [Instr.extract] at hr ⊢
    rename_i vs
    cases hv : vs[ix]? <;> simp [hv] at hr ⊢
    exact ⟨hr.2.symm, hr.1, _, hr.1.symm⟩
  · cases h

theorem getD_both {listed : Array Bool} {i : Nat} (h : listed.getD i true = false) : listed.getD i false = false := by
  rcases Nat.lt_or_ge i listed.size with h' | h'
  · simp [h'] at h ⊢; exact h
  · simp [Array.getElem?_eq_none h'] at h

section
variable (P : Program) (md : Region.Mode) (ops : Array Oper) (R : World → World → Prop) (w0 : World) (S : Nat → Option (Value → World → Prop)) (Q : Exit → Act → World → Prop)

/-- Operations that yield a value or nothing, or call. -/
def vUpon (o : Oper) (a : Act) (next : Act → World → Prop) : Result Next → Prop
  | .ok (.value v) w' => next (a.put o.dst v) w'
  | .ok .skip w' => next (a.put o.dst undef) w'
  | .ok (.enter f args) w' => Calls P f args w' (fun e w'' => ∃ u, e = .returned u ∧ next (a.put o.dst u) w'')
  | _ => False
def vOp (i : Nat) (K : Act → World → Prop) (a : Act) (w : World) : Prop :=
  match ops[i]? with
  | none => K a w
  | some o => if Region.wanted o (yielded ops a.tmps) then vUpon P o a K ((execOp a.eval o).run P w) else K (a.put o.dst undef) w
def wpAnyV : Nat → Array Bool → Act → World → Prop
  | 0, listed, a, w => Region.ready md ops listed = [] ∧ Q .normal a w
  | fuel + 1, listed, a, w => (Region.ready md ops listed = [] → Q .normal a w) ∧ ∀ i ∈ Region.ready md ops listed, vOp P ops i (wpAnyV fuel (listed.setIfInBounds i true)) a w
def wpVL : List Oper → Act → World → Prop
  | [], a, w => Q .normal a w
  | o :: rest, a, w => if Region.wanted o (yielded ops a.tmps) then vUpon P o a (wpVL rest) ((execOp a.eval o).run P w) else wpVL rest (a.put o.dst undef) w

/-- The head over a class of worlds; the tail exactly. -/
def wpAnyT (n : Nat) : Nat → Array Bool → Act → Facts → Prop
  | 0, listed, a, D => ∀ w, R w0 w → (∀ j, D j w) → wpAnyV P md ops Q 0 listed a w
  | f + 1, listed, a, D => Region.ready md ops listed ≠ [] ∧ ((∃ j ∈ Region.ready md ops listed, n ≤ j) → ∀ w, R w0 w → (∀ j, D j w) → wpAnyV P md ops Q (f + 1) listed a w) ∧
    ∀ i ∈ Region.ready md ops listed, i < n → lOp P md ops R w0 S i (wpAnyT n f (listed.setIfInBounds i true)) a D
end

section
variable {P : Program} {md : Region.Mode} {ops : Array Oper} {R : World → World → Prop} {w0 : World} {S : Nat → Option (Value → World → Prop)} {Q : Exit → Act → World → Prop}

theorem vUpon.mono {o : Oper} {a : Act} {K K' : Act → World → Prop} {r : Result Next} (h : ∀ a w, K a w → K' a w) (hh : vUpon P o a K r) : vUpon P o a K' r := by
  unfold vUpon at *
  split at hh <;> first | exact h _ _ hh | exact hh.mono fun e w ⟨u, h1, h2⟩ => ⟨u, h1, h _ _ h2⟩ | exact hh
theorem vOp.wp {i : Nat} {K K' : Act → World → Prop} {a : Act} {w : World} (h : ∀ a w, K a w → K' a w) (hh : vOp P ops i K a w) : wpOp P ops Q i K' a w := by
  unfold vOp at hh
  unfold wpOp
  split
  · rename_i ho; simp only [ho] at hh; exact h _ _ hh
  · rename_i o ho
    simp only [ho] at hh
    split
    · rename_i hw
      rw [if_pos hw] at hh
      left
      unfold Oper.wp
      generalize (execOp a.eval o).run P w = r at *
      unfold vUpon at hh
      split at hh
      · exact h _ _ hh
      · exact h _ _ hh
      · exact hh.mono fun e w ⟨u, h1, h2⟩ => by subst h1; exact h _ _ h2
      · exact hh.elim
    · rename_i hw; rw [if_neg hw] at hh; exact h _ _ hh
theorem wpAny_of_V : ∀ (fuel : Nat) (listed : Array Bool) (a : Act) (w : World), wpAnyV P md ops Q fuel listed a w → wpAny P md ops Q fuel listed a w
  | 0, _, _, _, h => h
  | fuel + 1, listed, a, w, h => ⟨h.1, fun i hi => (h.2 i hi).wp (fun a w h => wpAny_of_V fuel _ a w h)⟩

/-- A move may be taken first. -/
theorem wpAnyV_first {i : Nat} {oi : Oper} {c : Value} (hi : ops[i]? = some oi) (hsel : ∀ (j : Nat) (o : Oper) cs b, ops[j]? = some o → o.op ≠ .select cs b) :
    ∀ (fuel : Nat) (listed : Array Bool) (a : Act) (w : World),
      (∀ j oj, ops[j]? = some oj → j ≠ i → listed.getD j true = false → (∀ e ∈ oj.after, Region.binds md e = true → e.on ≠ i) → oi.apart ops oj = true) →
      i ∈ Region.ready md ops listed →
      ((Region.wanted oi (yielded ops a.tmps) = false ∧ c = undef) ∨ (Region.wanted oi (yielded ops a.tmps) = true ∧ ∀ w, (execOp a.eval oi).run P w = .ok (.value c) w)) →
      wpAnyV P md ops Q fuel (listed.setIfInBounds i true) (a.put oi.dst c) w → wpAnyV P md ops Q (fuel + 1) listed a w := by
  intro fuel
  induction fuel with
  | zero =>
    intro listed a w hfree hr hy H
    refine ⟨fun h => (by rw [h] at hr; cases hr), fun j hj => ?_⟩
    by_cases hji : j = i
    · subst hji
      unfold vOp
      simp only [hi]
      rcases hy with ⟨h1, rfl⟩ | ⟨h1, h2⟩
      · simp only [h1, Bool.false_eq_true, if_false]; exact H
      · simp only [h1, if_true, h2 w, vUpon]; exact H
    · have h1 := ready_mono hj hji
      rw [H.1] at h1
      cases h1
  | succ fuel ih =>
    intro listed a w hfree hr hy H
    refine ⟨fun h => (by rw [h] at hr; cases hr), fun j hj => ?_⟩
    by_cases hji : j = i
    · subst hji
      unfold vOp
      simp only [hi]
      rcases hy with ⟨h1, rfl⟩ | ⟨h1, h2⟩
      · simp only [h1, Bool.false_eq_true, if_false]; exact H
      · simp only [h1, if_true, h2 w, vUpon]; exact H
    have hij : i ≠ j := Ne.symm hji
    obtain ⟨hjun, oj, hoj, hall⟩ := mem_ready.1 hj
    have hnot : ∀ e ∈ oj.after, Region.binds md e = true → e.on ≠ i := fun e he hb heq => by
      have h1 := hall e he hb
      have h0 := (mem_ready.1 hr).1
      rw [heq] at h1
      rcases Nat.lt_or_ge i listed.size with h' | h'
      · simp [h'] at h0 h1; rw [h0] at h1; cases h1
      · simp [Array.getElem?_eq_none h'] at h1
    obtain ⟨ap1, ap2, ap3⟩ := Oper.apart_spec (hfree j oj hoj hji hjun hnot)
    have hsi := fun cs b => hsel i oi cs b hi
    have hsj := fun cs b => hsel j oj cs b hoj
    have hfree' : ∀ k ok, ops[k]? = some ok → k ≠ i → (listed.setIfInBounds j true).getD k true = false →
        (∀ e ∈ ok.after, Region.binds md e = true → e.on ≠ i) → oi.apart ops ok = true := fun k ok hk hki hun hno => by
      refine hfree k ok hk hki ?_ hno
      by_cases hjk : j = k
      · subst hjk; exact hjun
      · rw [getD_set_ne true hjk] at hun; exact hun
    have hcomm : (listed.setIfInBounds i true).setIfInBounds j true = (listed.setIfInBounds j true).setIfInBounds i true := Array.setIfInBounds_comm _ _ hij
    have H2 := H.2 j (ready_mono hj hji)
    have hri : i ∈ Region.ready md ops (listed.setIfInBounds j true) := ready_mono hr hij
    have step : ∀ u w', wpAnyV P md ops Q fuel ((listed.setIfInBounds i true).setIfInBounds j true) ((a.put oi.dst c).put oj.dst u) w' → wpAnyV P md ops Q (fuel + 1) (listed.setIfInBounds j true) (a.put oj.dst u) w' := fun u w' h => by
      refine ih _ _ _ hfree' hri ?_ ?_
      · rw [wanted_put oi a oj.dst u ap3, execOp_put oi hsi a oj.dst u ap3]; exact hy
      · rw [← hcomm, ← Act.put_comm a c u ap2]; exact h
    unfold vOp at H2 ⊢
    simp only [hoj] at H2 ⊢
    rw [wanted_put oj a oi.dst c ap1, execOp_put oj hsj a oi.dst c ap1] at H2
    by_cases hw : Region.wanted oj (yielded ops a.tmps) = true
    · rw [if_pos hw] at H2 ⊢
      generalize (execOp a.eval oj).run P w = r at *
      unfold vUpon at H2 ⊢
      split at H2
      · exact step _ _ H2
      · exact step _ _ H2
      · exact H2.mono fun e w ⟨u, h1, h2⟩ => ⟨u, h1, step _ _ h2⟩
      · exact H2.elim
    · rw [if_neg hw] at H2 ⊢
      exact step _ _ H2

theorem wpAny_of_T {n : Nat} (hR : ∀ a b c, R a b → R b c → R a c) (hS : Lasts R S) : ∀ (fuel : Nat) (listed : Array Bool) (a : Act) (D : Facts) (w : World), R w0 w → LastsD R D → (∀ j, D j w) →
    wpAnyT P md ops R w0 S Q n fuel listed a D → wpAny P md ops Q fuel listed a w
  | 0, _, _, _, _, hw, _, hD, h => wpAny_of_V _ _ _ _ (h _ hw hD)
  | fuel + 1, listed, a, D, w, hw, hl, hD, h => by
    by_cases ht : ∃ j ∈ Region.ready md ops listed, n ≤ j
    · exact wpAny_of_V _ _ _ _ (h.2.1 ht w hw hD)
    · refine ⟨fun h0 => absurd h0 h.1, fun i hi => ?_⟩
      have hin : i < n := by
        rcases Nat.lt_or_ge i n with h' | h'
        · exact h'
        · exact absurd ⟨i, hi, h'⟩ ht
      exact wpOp_of_lOp hR hS hl hw hD (fun a' D' w' hw' hl' hD' => wpAny_of_T hR hS fuel _ a' D' w' hw' hl' hD') (h.2.2 i hi hin)

/-- What is listed has all that it waits for listed. -/
def Closed (md : Region.Mode) (ops : Array Oper) (listed : Array Bool) : Prop := ∀ j oj, ops[j]? = some oj → listed.getD j false = true → ∀ e ∈ oj.after, Region.binds md e = true → listed.getD e.on false = true

theorem getD_set_true {listed : Array Bool} {i j : Nat} (h : listed.getD j false = true) : (listed.setIfInBounds i true).getD j false = true := by
  by_cases hij : i = j
  · subst hij
    have hlt : i < listed.size := by
      rcases Nat.lt_or_ge i listed.size with h' | h'
      · exact h'
      · simp [Array.getElem?_eq_none h'] at h
    simp [hlt]
  · rw [getD_set_ne false hij]; exact h

theorem Closed.set {listed : Array Bool} {i : Nat} (h : Closed md ops listed) (hi : i ∈ Region.ready md ops listed) : Closed md ops (listed.setIfInBounds i true) := by
  intro j oj hoj hj e he hb
  by_cases hij : i = j
  · subst hij
    obtain ⟨_, oj', hoj', hall⟩ := mem_ready.1 hi
    rw [hoj] at hoj'
    cases hoj'
    exact getD_set_true (hall e he hb)
  · rw [getD_set_ne false hij] at hj
    exact getD_set_true (h j oj hoj hj e he hb)

/-- What an operation waits for, directly or through others. -/
def reachM (md : Region.Mode) (ops : Array Oper) : Nat → Nat → Nat
  | 0, c => c
  | f + 1, c => reachM md ops f ((List.range ops.size).foldl (fun a m => if c.testBit m then a ||| (match ops[m]? with | some o => aft md o | none => 0) else a) c)

theorem reach_listed {listed : Array Bool} (hcl : Closed md ops listed) : ∀ (f c : Nat), (∀ m, c.testBit m = true → listed.getD m false = true) → ∀ i, (reachM md ops f c).testBit i = true → listed.getD i false = true
  | 0, c, hc, i, h => hc i h
  | f + 1, c, hc, i, h => by
    refine reach_listed hcl f _ ?_ i h
    have key : ∀ (l : List Nat) (a : Nat), (∀ m, a.testBit m = true → listed.getD m false = true) → ∀ m, (l.foldl (fun a m => if c.testBit m then a ||| (match ops[m]? with | some o => aft md o | none => 0) else a) a).testBit m = true → listed.getD m false = true := by
      intro l
      induction l with
      | nil => intro a ha m hm; exact ha m hm
      | cons x l ih =>
        intro a ha m hm
        refine ih _ ?_ m hm
        intro m' hm'
        dsimp only at hm'
        split at hm'
        · rename_i hx
          rw [Nat.testBit_or, Bool.or_eq_true] at hm'
          rcases hm' with hm' | hm'
          · exact ha m' hm'
          · split at hm'
            · rename_i o ho
              obtain ⟨e, he, hb, rfl⟩ := aft_of hm'
              exact hcl x o ho (hc x hx) e he hb
            · simp at hm'
        · exact ha m' hm'
    exact key _ c hc

theorem closed_first {k : Nat} {listed : Array Bool} (hf : FirstK ops.size k listed) (hs : ∀ j o, ops[j]? = some o → ∀ e ∈ o.after, Region.binds md e = true → e.on < j) : Closed md ops listed := by
  intro j oj hoj hj e he hb
  have hjl : j < ops.size := (Array.getElem?_eq_some_iff.1 hoj).1
  have h1 := hf.2 j hjl
  have h2 := hs j oj hoj e he hb
  have h3 := hf.2 e.on (by omega)
  simp [Array.getD_eq_getD_getElem?, h1] at hj
  simp [Array.getD_eq_getD_getElem?, h3]
  omega

/-- A head's operation may be taken first. -/
theorem wpAnyT_first {n : Nat} (hR : ∀ a b c, R a b → R b c → R a c) (hS : Lasts R S) {i : Nat} {oi : Oper} (hi : ops[i]? = some oi) (hin : i < n) (hsel : ∀ (j : Nat) (o : Oper) cs b, ops[j]? = some o → o.op ≠ .select cs b)
    (hlate : ∀ j oj, n ≤ j → ops[j]? = some oj → lateB oi = true ∨ (reachM md ops 8 (aft md oj)).testBit i = true) :
    ∀ (fuel : Nat) (listed : Array Bool) (a : Act) (D : Facts),
      Closed md ops listed →
      (∀ j oj, ops[j]? = some oj → j ≠ i → listed.getD j true = false → (∀ e ∈ oj.after, Region.binds md e = true → e.on ≠ i) → oi.apart ops oj = true) →
      (∀ k w, listed.getD k true = false → D k w) →
      i ∈ Region.ready md ops listed → LastsD R D → (∃ w, R w0 w ∧ ∀ j, D j w) → Is P md ops R w0 S i oi a D →
      Then P md ops R w0 S i oi a D (wpAnyT P md ops R w0 S Q n fuel (listed.setIfInBounds i true)) → wpAnyT P md ops R w0 S Q n (fuel + 1) listed a D := by
  intro fuel
  -- a tail's operation ready now: the head's operation is a move
  have hV : ∀ (fuel : Nat) (listed : Array Bool) (a : Act) (D : Facts),
      Closed md ops listed →
      (∀ j oj, ops[j]? = some oj → j ≠ i → listed.getD j true = false → (∀ e ∈ oj.after, Region.binds md e = true → e.on ≠ i) → oi.apart ops oj = true) →
      i ∈ Region.ready md ops listed → LastsD R D → Is P md ops R w0 S i oi a D →
      Then P md ops R w0 S i oi a D (wpAnyT P md ops R w0 S Q n fuel (listed.setIfInBounds i true)) →
      (∃ j ∈ Region.ready md ops listed, n ≤ j) → ∀ w, R w0 w → (∀ j, D j w) → wpAnyV P md ops Q (fuel + 1) listed a w := by
    intro fuel listed a D hcl hfree hr hl hy H ⟨j, hj, hnj⟩ w hw hD
    have hji : j ≠ i := by omega
    have hrj := ready_mono hj hji
    obtain ⟨_, oj, hoj, hall⟩ := mem_ready.1 hj
    have hun := (mem_ready.1 hr).1
    have hla : lateB oi = true := by
      rcases hlate j oj hnj hoj with h | h
      · exact h
      · have h1 := reach_listed hcl 8 _ (fun m hm => by obtain ⟨e, he, hb, rfl⟩ := aft_of hm; exact hall e he hb) i h
        rw [getD_both hun] at h1
        cases h1
    have fin : ∀ (c : Value) (D' : Facts), (∀ j, D' j w) → wpAnyT P md ops R w0 S Q n fuel (listed.setIfInBounds i true) (a.put oi.dst c) D' → wpAnyV P md ops Q fuel (listed.setIfInBounds i true) (a.put oi.dst c) w := by
      intro c D' hD' h
      cases fuel with
      | zero => exact h w hw hD'
      | succ f => exact h.2.1 ⟨j, hrj, hnj⟩ w hw hD'
    cases hy with
    | not h => exact wpAnyV_first hi hsel _ _ _ _ hfree hr (.inl ⟨h, rfl⟩) (fin _ _ hD (H.1 h))
    | still h hs c hc =>
      have h3 := hc w hw (fun e _ _ => hD _)
      cases hrun : (execOp a.eval oi).run P w with
      | ok nx w' =>
        obtain ⟨rfl, hall', v, rfl⟩ := (fun w2 => late_run (w2 := w2) hla a.eval hrun) w
        rw [hrun] at h3
        simp only [Still] at h3
        obtain ⟨_, rfl⟩ := h3
        exact wpAnyV_first hi hsel _ _ _ _ hfree hr (.inr ⟨h, fun w2 => (late_run (w2 := w2) hla a.eval hrun).2.1⟩) (fin _ _ hD (H.2.1 h hs _ hc))
      | halt x w' => rw [hrun] at h3; simp only [Still] at h3
    | upon h s hs hc =>
      have h3 := hc w hw (fun e _ _ => hD _)
      cases hrun : (execOp a.eval oi).run P w with
      | ok nx w' =>
        obtain ⟨rfl, hall', v, rfl⟩ := (fun w2 => late_run (w2 := w2) hla a.eval hrun) w
        rw [hrun] at h3
        simp only [Upon] at h3
        exact wpAnyV_first hi hsel _ _ _ _ hfree hr (.inr ⟨h, fun w2 => (late_run (w2 := w2) hla a.eval hrun).2.1⟩) (fin _ _ (upd_all hD h3.2) (H.2.2 h s hs v _ hw hD h3.2))
      | halt x w' => rw [hrun] at h3; simp only [Upon] at h3
  induction fuel with
  | zero =>
    intro listed a D hcl hfree hunl hr hl hex hy H
    refine ⟨fun h => (by rw [h] at hr; cases hr), hV 0 listed a D hcl hfree hr hl hy H, fun j hj hjn => ?_⟩
    by_cases hji : j = i
    · subst hji; exact lOp_of hi hy H
    · have h1 := ready_mono hj hji
      obtain ⟨w, hw, hD⟩ := hex
      exfalso
      have h2 : Region.ready md ops (listed.setIfInBounds i true) = [] := by
        cases hy with
        | not h => exact (H.1 h w hw hD).1
        | still h hs c hc => exact (H.2.1 h hs c hc w hw hD).1
        | upon h s hs hc =>
          obtain ⟨v, w', hw', hD', hv⟩ := hc.gives hR hl hw hD
          exact (H.2.2 h s hs v w' hw' hD' hv w' hw' (upd_all hD' hv)).1
      rw [h2] at h1
      cases h1
  | succ fuel ih =>
    intro listed a D hcl hfree hunl hr hl hex hy H
    refine ⟨fun h => (by rw [h] at hr; cases hr), hV (fuel + 1) listed a D hcl hfree hr hl hy H, fun j hj hjn => ?_⟩
    by_cases hji : j = i
    · subst hji; exact lOp_of hi hy H
    have hij : i ≠ j := Ne.symm hji
    obtain ⟨hjun, oj, hoj, hall⟩ := mem_ready.1 hj
    have hnot : ∀ e ∈ oj.after, Region.binds md e = true → e.on ≠ i := fun e he hb heq => by
      have h1 := hall e he hb
      have h0 := (mem_ready.1 hr).1
      rw [heq] at h1
      rcases Nat.lt_or_ge i listed.size with h' | h'
      · simp [h'] at h0 h1; rw [h0] at h1; cases h1
      · simp [Array.getElem?_eq_none h'] at h1
    have hnoti : ∀ e ∈ oi.after, Region.binds md e = true → e.on ≠ j := fun e he hb heq => by
      obtain ⟨_, oi', hoi', halli⟩ := mem_ready.1 hr
      rw [hi] at hoi'
      cases hoi'
      have h1 := halli e he hb
      rw [heq] at h1
      rcases Nat.lt_or_ge j listed.size with h' | h'
      · simp [h'] at hjun h1; rw [hjun] at h1; cases h1
      · simp [Array.getElem?_eq_none h'] at h1
    obtain ⟨ap1, ap2, ap3⟩ := Oper.apart_spec (hfree j oj hoj hji hjun hnot)
    have hsi := fun cs b => hsel i oi cs b hi
    have hsj := fun cs b => hsel j oj cs b hoj
    have hfree' : ∀ k ok, ops[k]? = some ok → k ≠ i → (listed.setIfInBounds j true).getD k true = false →
        (∀ e ∈ ok.after, Region.binds md e = true → e.on ≠ i) → oi.apart ops ok = true := fun k ok hk hki hun hno => by
      refine hfree k ok hk hki ?_ hno
      by_cases hjk : j = k
      · subst hjk; exact hjun
      · rw [getD_set_ne true hjk] at hun; exact hun
    have hcomm : (listed.setIfInBounds i true).setIfInBounds j true = (listed.setIfInBounds j true).setIfInBounds i true := Array.setIfInBounds_comm _ _ hij
    have keepI : ∀ u D', (∀ w, Needs md oi D' w → Needs md oi D w) → Is P md ops R w0 S i oi (a.put oj.dst u) D' := fun u D' hN =>
      hy.of (wanted_put oi a oj.dst u ap3) (execOp_put oi hsi a oj.dst u ap3) hN
    have backJ : ∀ v D', (∀ w, Needs md oj D w → Needs md oj D' w) → Is P md ops R w0 S j oj (a.put oi.dst v) D' → Is P md ops R w0 S j oj a D := fun v D' hN h =>
      h.of (wanted_put oj a oi.dst v ap1).symm (execOp_put oj hsj a oi.dst v ap1).symm hN
    obtain ⟨w, hw, hD⟩ := hex
    have hrj := ready_mono hj hji
    have hri : i ∈ Region.ready md ops (listed.setIfInBounds j true) := ready_mono hr hij
    have wj : ∀ v, Region.wanted oj (yielded ops (a.put oi.dst v).tmps) = Region.wanted oj (yielded ops a.tmps) := fun v => wanted_put oj a oi.dst v ap1
    have ej : ∀ v, execOp (a.put oi.dst v).eval oj = execOp a.eval oj := fun v => execOp_put oj hsj a oi.dst v ap1
    have ei : ∀ u, execOp (a.put oj.dst u).eval oi = execOp a.eval oi := fun u => execOp_put oi hsi a oj.dst u ap3
    have wi : ∀ u, Region.wanted oi (yielded ops (a.put oj.dst u).tmps) = Region.wanted oi (yielded ops a.tmps) := fun u => wanted_put oi a oj.dst u ap3
    have pc : ∀ v u, (a.put oi.dst v).put oj.dst u = (a.put oj.dst u).put oi.dst v := fun v u => Act.put_comm a v u ap2
    have isJ : Is P md ops R w0 S j oj a D := by
      cases hy with
      | not h => exact backJ undef D (fun _ h => h) (of_lOp hoj hw hD ((H.1 h).2.2 j hrj hjn)).1
      | still h hs c hc => exact backJ c D (fun _ h => h) (of_lOp hoj hw hD ((H.2.1 h hs c hc).2.2 j hrj hjn)).1
      | upon h s hs hc =>
        obtain ⟨v, w', hw', hD', hv⟩ := hc.gives hR hl hw hD
        exact backJ v _ (fun _ h => (Needs.of hnot).2 h) (of_lOp hoj hw' (upd_all hD' hv) ((H.2.2 h s hs v w' hw' hD' hv).2.2 j hrj hjn)).1
    refine lOp_of hoj isJ ?_
    have main : ∀ u D', (∀ k w, (listed.setIfInBounds j true).getD k true = false → D' k w) → LastsD R D' → (∃ w, R w0 w ∧ ∀ j, D' j w) → (∀ w, Needs md oi D' w → Needs md oi D w) → (∀ w, Needs md oi D w → Needs md oi D' w) →
        (Region.wanted oi (yielded ops a.tmps) = false → wpAnyT P md ops R w0 S Q n fuel ((listed.setIfInBounds i true).setIfInBounds j true) ((a.put oi.dst undef).put oj.dst u) D') →
        (Region.wanted oi (yielded ops a.tmps) = true → S i = none → ∀ c, StillAt P md R w0 oi a D c → wpAnyT P md ops R w0 S Q n fuel ((listed.setIfInBounds i true).setIfInBounds j true) ((a.put oi.dst c).put oj.dst u) D') →
        (Region.wanted oi (yielded ops a.tmps) = true → ∀ s, S i = some s → ∀ v w, R w0 w → (∀ j, D' j w) → s v w → wpAnyT P md ops R w0 S Q n fuel ((listed.setIfInBounds i true).setIfInBounds j true) ((a.put oi.dst v).put oj.dst u) (upd D' i (s v))) →
        wpAnyT P md ops R w0 S Q n (fuel + 1) (listed.setIfInBounds j true) (a.put oj.dst u) D' := by
      intro u D' hunl' hl' hex' hN hN' h1 h2 h3
      refine ih (listed.setIfInBounds j true) (a.put oj.dst u) D' (hcl.set hj) hfree' hunl' hri hl' hex' (keepI u D' hN) ⟨?_, ?_, ?_⟩
      · intro h; rw [wi u] at h; have := h1 h; rw [hcomm, pc] at this; exact this
      · intro h hs c hc
        rw [wi u] at h
        have := h2 h hs c (hc.of (ei u).symm hN')
        rw [hcomm, pc] at this; exact this
      · intro h s hs v w hw hD hv
        rw [wi u] at h
        have := h3 h s hs v w hw hD hv
        rw [hcomm, pc] at this; exact this
    have hunlD : ∀ k w, (listed.setIfInBounds j true).getD k true = false → D k w := fun k w hk => by
      by_cases hjk : j = k
      · subst hjk; exact hunl _ _ hjun
      · rw [getD_set_ne true hjk] at hk; exact hunl k w hk
    refine ⟨?_, ?_, ?_⟩
    · intro hjw
      refine main undef D hunlD hl ⟨w, hw, hD⟩ (fun _ h => h) (fun _ h => h) ?_ ?_ ?_
      · intro h; exact (of_lOp hoj hw hD ((H.1 h).2.2 j hrj hjn)).2.1 (by rw [wj]; exact hjw)
      · intro h hs c hc; exact (of_lOp hoj hw hD ((H.2.1 h hs c hc).2.2 j hrj hjn)).2.1 (by rw [wj]; exact hjw)
      · intro h s hs v w' hw' hD' hv
        exact (of_lOp hoj hw' (upd_all hD' hv) ((H.2.2 h s hs v w' hw' hD' hv).2.2 j hrj hjn)).2.1 (by rw [wj]; exact hjw)
    · intro hjw hjs c hc
      refine main c D hunlD hl ⟨w, hw, hD⟩ (fun _ h => h) (fun _ h => h) ?_ ?_ ?_
      · intro h; exact (of_lOp hoj hw hD ((H.1 h).2.2 j hrj hjn)).2.2.1 (by rw [wj]; exact hjw) hjs c (hc.of (ej _) (fun _ h => h))
      · intro h hs c' hc'; exact (of_lOp hoj hw hD ((H.2.1 h hs c' hc').2.2 j hrj hjn)).2.2.1 (by rw [wj]; exact hjw) hjs c (hc.of (ej _) (fun _ h => h))
      · intro h s hs v w' hw' hD' hv
        exact (of_lOp hoj hw' (upd_all hD' hv) ((H.2.2 h s hs v w' hw' hD' hv).2.2 j hrj hjn)).2.2.1 (by rw [wj]; exact hjw) hjs c (hc.of (ej _) (fun _ h => (Needs.of hnot).1 h))
    · intro hjw s hjs u w1 hw1 hD1 hu
      have hunlU : ∀ k w, (listed.setIfInBounds j true).getD k true = false → upd D j (s u) k w := fun k w hk => by
        have hjk : j ≠ k := fun e => by
          subst e
          have hlt : j < listed.size := by
            rcases Nat.lt_or_ge j listed.size with h' | h'
            · exact h'
            · simp [Array.getElem?_eq_none h'] at hjun
          simp [hlt] at hk
        rw [upd_ne (Ne.symm hjk)]
        exact hunlD k w hk
      refine main u (upd D j (s u)) hunlU (hl.upd hS hjs u) ⟨w1, hw1, upd_all hD1 hu⟩ (fun _ h => (Needs.of hnoti).1 h) (fun _ h => (Needs.of hnoti).2 h) ?_ ?_ ?_
      · intro h; exact (of_lOp hoj hw hD ((H.1 h).2.2 j hrj hjn)).2.2.2 (by rw [wj]; exact hjw) s hjs u w1 hw1 hD1 hu
      · intro h hs c' hc'; exact (of_lOp hoj hw hD ((H.2.1 h hs c' hc').2.2 j hrj hjn)).2.2.2 (by rw [wj]; exact hjw) s hjs u w1 hw1 hD1 hu
      · intro h s' hs' v w' hw' hD' hv
        have hD0 : ∀ k, k ≠ j → D k w' := fun k hk => by have := hD' k; rwa [upd_ne hk] at this
        have huw : s u w' := by have := hD' j; simpa [upd] using this
        have hDw' : ∀ k, D k w' := fun k => by
          by_cases hk : k = j
          · subst hk; exact hunl _ _ hjun
          · exact hD0 k hk
        have := (of_lOp hoj hw' (upd_all hDw' hv) ((H.2.2 h s' hs' v w' hw' hDw' hv).2.2 j hrj hjn)).2.2.2 (by rw [wj]; exact hjw) s hjs u w' hw' (upd_all hDw' hv) huw
        rw [upd_comm hij] at this
        exact this

/-- The tail's operations wait for the head's (but moves), each for the one before. -/
def tailB (md : Region.Mode) (ops : Array Oper) (n : Nat) : Bool :=
  decide (n < ops.size) && (List.range ops.size).all fun j => decide (j < n) || match ops[j]? with
    | some oj => (decide (j = n) || (aft md oj).testBit (j - 1)) && (List.range n).all fun i => (match ops[i]? with | some oi => lateB oi | none => true) || (reachM md ops 8 (aft md oj)).testBit i
    | none => true

theorem ready_first {k : Nat} {listed : Array Bool} (hk : k < ops.size) (hf : FirstK ops.size k listed) (hs : ∀ j o, ops[j]? = some o → ∀ e ∈ o.after, Region.binds md e = true → e.on < j) : k ∈ Region.ready md ops listed := by
  refine mem_ready.2 ⟨by simp [Array.getD_eq_getD_getElem?, hf.2 k hk], ops[k], by simp [hk], fun e he hb => ?_⟩
  have := hs k ops[k] (by simp [hk]) e he hb
  simp [Array.getD_eq_getD_getElem?, hf.2 e.on (by omega), this]

theorem ready_tail {n k : Nat} {listed : Array Bool} (hnk : n ≤ k) (hf : FirstK ops.size k listed) (hc : ∀ j oj, n < j → ops[j]? = some oj → ∃ e ∈ oj.after, Region.binds md e = true ∧ e.on = j - 1) {j : Nat} (hj : j ∈ Region.ready md ops listed) : j = k := by
  obtain ⟨h0, oj, hoj, hall⟩ := mem_ready.1 hj
  have hlt : j < ops.size := (Array.getElem?_eq_some_iff.1 hoj).1
  have h1 := hf.2 j hlt
  rcases Nat.lt_trichotomy j k with h | h | h
  · simp [Array.getD_eq_getD_getElem?, h1, h] at h0
  · exact h
  · obtain ⟨e, he, hb, hon⟩ := hc j oj (by omega) hoj
    have h2 := hall e he hb
    rw [hon] at h2
    have h3 := hf.2 (j - 1) (by omega)
    simp [Array.getD_eq_getD_getElem?, h3] at h2
    omega

theorem wpAnyV_seq {n : Nat} (hs : ∀ j o, ops[j]? = some o → ∀ e ∈ o.after, Region.binds md e = true → e.on < j) (hc : ∀ j oj, n < j → ops[j]? = some oj → ∃ e ∈ oj.after, Region.binds md e = true ∧ e.on = j - 1) :
    ∀ (l : List Oper) (k : Nat) (listed : Array Bool) (a : Act) (w : World), (∀ j, l[j]? = ops[k + j]?) → k + l.length = ops.size → n ≤ k → FirstK ops.size k listed → wpVL P ops Q l a w → wpAnyV P md ops Q l.length listed a w
  | [], k, listed, a, w, hl, hk, hnk, hf, h => by
    refine ⟨?_, h⟩
    apply List.eq_nil_iff_forall_not_mem.2
    intro j hj
    have hjk := ready_tail hnk hf hc hj
    obtain ⟨_, oj, hoj, _⟩ := mem_ready.1 hj
    have hlt : j < ops.size := (Array.getElem?_eq_some_iff.1 hoj).1
    simp at hk
    omega
  | o :: l, k, listed, a, w, hl, hk, hnk, hf, h => by
    have h0 : ops[k]? = some o := by simpa using (hl 0).symm
    have hlt : k < ops.size := (Array.getElem?_eq_some_iff.1 h0).1
    refine ⟨fun h1 => ?_, fun i hi => ?_⟩
    · have := ready_first (md := md) hlt hf hs
      rw [h1] at this
      cases this
    · obtain rfl := ready_tail hnk hf hc hi
      unfold vOp
      simp only [h0]
      have ih := fun a' w' => wpAnyV_seq hs hc l (i + 1) (listed.setIfInBounds i true) a' w' (fun j => by have := hl (j + 1); simpa [Nat.add_assoc, Nat.add_comm 1 j] using this) (by simp only [List.length_cons] at hk; omega) (by omega) (hf.next hlt)
      unfold wpVL at h
      split
      · rename_i hw; rw [if_pos hw] at h; exact h.mono ih
      · rename_i hw; rw [if_neg hw] at h; exact ih _ _ h

theorem wpAnyT_lex {n : Nat} (hR : ∀ a b c, R a b → R b c → R a c) (hS : Lasts R S) (hsel : Region.noSelect ops = true)
    (hs : ∀ j o, ops[j]? = some o → ∀ e ∈ o.after, Region.binds md e = true → e.on < j) (hp : ∀ i j oi oj, i < j → ops[i]? = some oi → ops[j]? = some oj → pairB md ops i oi oj = true)
    (hc : ∀ j oj, n < j → ops[j]? = some oj → ∃ e ∈ oj.after, Region.binds md e = true ∧ e.on = j - 1) (hn : n < ops.size)
    (hlate : ∀ i oi j oj, i < n → ops[i]? = some oi → n ≤ j → ops[j]? = some oj → lateB oi = true ∨ (reachM md ops 8 (aft md oj)).testBit i = true) (tl : List Oper) (htl : ∀ j, tl[j]? = ops[n + j]?) :
    ∀ (l : List Oper) (k : Nat) (listed : Array Bool) (a : Act) (D : Facts), (∀ j, j < l.length → l[j]? = ops[k + j]?) → k + l.length = n → FirstK ops.size k listed →
      (∀ k w, listed.getD k true = false → D k w) → LastsD R D → (∃ w, R w0 w ∧ ∀ j, D j w) →
      wpL P md ops R w0 S (fun a' D' => ∀ w, R w0 w → (∀ j, D' j w) → wpVL P ops Q tl a' w) k l a D → wpAnyT P md ops R w0 S Q n (l.length + tl.length) listed a D
  | [], k, listed, a, D, _, hk, hf, hun, hla, hex, h => by
    obtain rfl : k = n := by simpa using hk
    have hlen : tl.length = ops.size - k := by
      have h1 := htl (ops.size - k)
      rw [show k + (ops.size - k) = ops.size by omega, Array.getElem?_eq_none (Nat.le_refl _)] at h1
      have h2 : tl.length ≤ ops.size - k := by simpa using h1
      have h3 := htl (ops.size - k - 1)
      rw [show k + (ops.size - k - 1) = ops.size - 1 by omega, Array.getElem?_eq_getElem (by omega)] at h3
      have h4 : ops.size - k - 1 < tl.length := by
        rcases Nat.lt_or_ge (ops.size - k - 1) tl.length with h | h
        · exact h
        · rw [List.getElem?_eq_none h] at h3; cases h3
      omega
    have main : ∀ w, R w0 w → (∀ j, D j w) → wpAnyV P md ops Q tl.length listed a w := fun w hw hD => wpAnyV_seq hs hc tl k listed a w htl (by omega) (Nat.le_refl _) hf (h w hw hD)
    obtain ⟨t, ht⟩ : ∃ t, tl.length = t + 1 := ⟨tl.length - 1, by omega⟩
    rw [List.length_nil, Nat.zero_add, ht]
    rw [ht] at main
    refine ⟨fun h1 => ?_, fun _ => main, fun i hi hin => ?_⟩
    · have := ready_first (md := md) hn hf hs
      rw [h1] at this
      cases this
    · have := ready_tail (Nat.le_refl _) hf hc hi
      omega
  | o :: l, k, listed, a, D, hl, hk, hf, hun, hla, hex, h => by
    have h0 : ops[k]? = some o := by simpa using (hl 0 (by simp)).symm
    have hkn : k < n := by simp only [List.length_cons] at hk; omega
    have hr : k ∈ Region.ready md ops listed := ready_first (by omega) hf hs
    have hst : lOp P md ops R w0 S k (wpL P md ops R w0 S (fun a' D' => ∀ w, R w0 w → (∀ j, D' j w) → wpVL P ops Q tl a' w) (k + 1) l) a D := by unfold lOp; simp only [h0]; exact h
    obtain ⟨w, hw, hD⟩ := hex
    obtain ⟨hy, hK⟩ := of_lOp h0 hw hD hst
    have hlt : k < listed.size := by rw [hf.1]; omega
    have hl' : ∀ j, j < l.length → l[j]? = ops[k + 1 + j]? := fun j hj => by have := hl (j + 1) (by simp; omega); simpa [Nat.add_assoc, Nat.add_comm 1 j] using this
    have hunk : ∀ D' : Facts, (∀ j, j ≠ k → D' j = D j) → ∀ j w, (listed.setIfInBounds k true).getD j true = false → D' j w := fun D' hD' j w hj => by
      have hjk : k ≠ j := fun e => by subst e; simp [hlt] at hj
      rw [hD' j (Ne.symm hjk)]
      rw [getD_set_ne true hjk] at hj
      exact hun j w hj
    have hfree : ∀ j oj, ops[j]? = some oj → j ≠ k → listed.getD j true = false → (∀ e ∈ oj.after, Region.binds md e = true → e.on ≠ k) → o.apart ops oj = true := fun j oj hoj hjk hun' hno => by
      have hjl : j < ops.size := (Array.getElem?_eq_some_iff.1 hoj).1
      have h1 := hf.2 j hjl
      have hkj : k < j := by
        rcases Nat.lt_or_ge k j with h | h
        · exact h
        · simp [Array.getD_eq_getD_getElem?, h1, show j < k by omega] at hun'
      exact pairB_apart (hp k j o oj hkj h0 hoj) hno
    have hk' : k + 1 + l.length = n := by simp only [List.length_cons] at hk; omega
    rw [List.length_cons, show l.length + 1 + tl.length = (l.length + tl.length) + 1 by omega]
    refine wpAnyT_first hR hS h0 hkn (Region.noSelect_spec hsel) (fun j oj => hlate k o j oj hkn h0) (l.length + tl.length) listed a D (closed_first hf hs) hfree hun hr hla ⟨w, hw, hD⟩ hy ⟨?_, ?_, ?_⟩
    · exact fun h => wpAnyT_lex hR hS hsel hs hp hc hn hlate tl htl l (k + 1) _ _ _ hl' hk' (hf.next (by omega)) (hunk D fun _ _ => rfl) hla ⟨w, hw, hD⟩ (hK.1 h)
    · exact fun h hs' c hc' => wpAnyT_lex hR hS hsel hs hp hc hn hlate tl htl l (k + 1) _ _ _ hl' hk' (hf.next (by omega)) (hunk D fun _ _ => rfl) hla ⟨w, hw, hD⟩ (hK.2.1 h hs' c hc')
    · exact fun h s hs' v w' hw' hD' hv => wpAnyT_lex hR hS hsel hs hp hc hn hlate tl htl l (k + 1) _ _ _ hl' hk' (hf.next (by omega)) (hunk _ fun j hj => by funext w; exact upd_ne hj) (hla.upd hS hs' v) ⟨w', hw', upd_all hD' hv⟩ (hK.2.2 h s hs' v w' hw' hD' hv)

/-- A region whose stores come last, over worlds that grow. -/
theorem wp_region_tail {id : Nat} {Q : Exit → Act → World → Prop} {a : Act} {w : World} {l : List Oper} (n : Nat) (L : List (Nat × (Value → World → Prop)))
    (hS : Lasts (fun w w' : World => RowKit.Below w.heap.size w w') (lk L)) (hm : P.follows .mixedOrders = true) (hB : lexQ .any l.toArray = true) (hT : tailB .any l.toArray n = true)
    (h : wpL P .any l.toArray (fun w w' : World => RowKit.Below w.heap.size w w') w (lk L) (fun a' D' => ∀ w' : World, RowKit.Below w.heap.size w w' → (∀ j, D' j w') → wpVL P l.toArray Q (l.drop n) a' w') 0 (l.take n) a (fun _ _ => True)) :
    (Code.region id l.toArray true).wp P Q a w := by
  unfold lexQ at hB
  rw [Bool.and_eq_true] at hB
  obtain ⟨h1, h2⟩ := hB
  obtain ⟨s1, s2⟩ := lexFromQ_spec _ _ h2
  unfold tailB at hT
  rw [Bool.and_eq_true, decide_eq_true_eq] at hT
  obtain ⟨hn, hall⟩ := hT
  have hR : ∀ a b c : World, RowKit.Below a.heap.size a b → RowKit.Below b.heap.size b c → RowKit.Below a.heap.size a c := fun _ _ _ h k => RowKit.Below.trans h (k.mono h.size)
  have htail : ∀ j oj, n ≤ j → l.toArray[j]? = some oj → (j = n ∨ (aft .any oj).testBit (j - 1) = true) ∧ ∀ i oi, i < n → l.toArray[i]? = some oi → lateB oi = true ∨ (reachM .any l.toArray 8 (aft .any oj)).testBit i = true := by
    intro j oj hj hoj
    have hlt : j < l.toArray.size := (Array.getElem?_eq_some_iff.1 hoj).1
    have h3 := List.all_eq_true.1 hall j (List.mem_range.2 hlt)
    simp only [hoj, Bool.or_eq_true, Bool.and_eq_true, decide_eq_true_eq] at h3
    rcases h3 with h3 | ⟨h3, h4⟩
    · omega
    · refine ⟨h3, fun i oi hi hoi => ?_⟩
      have h5 := List.all_eq_true.1 h4 i (List.mem_range.2 hi)
      simp only [hoi, Bool.or_eq_true] at h5
      exact h5
  have htk : (l.take n).length = n := by rw [List.length_take]; simp at hn; omega
  have H := wpAnyT_lex (P := P) (md := .any) (ops := l.toArray) (Q := Q) (n := n) (S := lk L) (w0 := w) hR hS h1 (fun j o ho e he hb => by simpa using s1 j o (by simpa using ho) e he hb) (fun i j oi oj hij hi hj => by simpa using s2 i j oi oj hij (by simpa using hi) (by simpa using hj))
    (fun j oj hj hoj => by
      rcases (htail j oj (by omega) hoj).1 with h | h
      · omega
      · exact aft_of h) hn
    (fun i oi j oj hi hoi hj hoj => by
      exact (htail j oj hj hoj).2 i oi hi hoi) (l.drop n) (fun j => by simp [List.getElem?_drop])
    (l.take n) 0 (Array.replicate l.toArray.size false) a (fun _ _ => True) (fun j hj => by rw [htk] at hj; simp [hj]) (by omega) ⟨by simp, fun j hj => by simp at hj ⊢; simp [hj]⟩
    (fun _ _ _ => trivial) (fun _ _ _ _ h => h) ⟨w, RowKit.Below.refl _ _, fun _ => trivial⟩ h
  refine wp_region_any hm ?_
  have hlen : (l.take n).length + (l.drop n).length = l.toArray.size := by simp at hn ⊢; omega
  rw [hlen] at H
  exact wpAny_of_T (w0 := w) hR hS _ _ _ (fun _ _ => True) _ ⟨rfl, rfl, rfl, Nat.le_refl _, fun _ _ => rfl⟩ (fun _ _ _ _ h => h) (fun _ => trivial) H

theorem wpVL_step {o : Oper} {rest : List Oper} {a : Act} {w : World} (hw : Region.wanted o (yielded ops a.tmps) = true) (h : ∀ K : Act → World → Prop, (∀ a w, wpVL P ops Q rest a w → K a w) → vUpon P o a K ((execOp a.eval o).run P w)) : wpVL P ops Q (o :: rest) a w := by
  unfold wpVL
  rw [if_pos hw]
  exact h _ (fun _ _ h => h)
theorem wpVL_nil {a : Act} {w : World} (h : Q .normal a w) : wpVL P ops Q [] a w := h
end
end Go.Loose
