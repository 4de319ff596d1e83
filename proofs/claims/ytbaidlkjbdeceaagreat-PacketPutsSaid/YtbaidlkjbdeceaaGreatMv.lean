/-
  Proved here, over any program: a region that draws its order, makes memory, and stores into known blocks (each store into a block that no other operation of the region looks at or writes), walked once in text order.
-/
import Derived.Test.YtbaidlkjbdeceaaGreatRow
import Derived.Test.YtbaidlkjbdeceaaGreatRegion
namespace Go.Cul
open Go Go.RowKit Go.Loose
set_option linter.unusedVariables false

/-- As it was, but for the blocks of S, which keep their sizes, and what is new. -/
structure Mvz (S : Nat → Prop) (w w' : World) : Prop where
  mv : Mvs S w w'
  sz : ∀ (b : Nat) (c : Array Value) (t : TypeId), w.heap[b]? = some (.cells c t) → ∃ c', w'.heap[b]? = some (.cells c' t) ∧ c'.size = c.size

theorem Mvz.ofExt {S : Nat → Prop} {w w' : World} (h : Ext w w') : Mvz S w w' := ⟨Mvs.ofExt h, fun b c t hb => ⟨c, h.block hb, rfl⟩⟩
theorem Mvz.refl (S : Nat → Prop) (w : World) : Mvz S w w := .ofExt (Ext.rfl' w)
theorem Mvz.tr {S : Nat → Prop} {a b c : World} (h : Mvz S a b) (k : Mvz S b c) : Mvz S a c :=
  ⟨h.mv.tr k.mv, fun i x t hi => by
    obtain ⟨c1, h1, h2⟩ := h.sz i x t hi
    obtain ⟨c2, h3, h4⟩ := k.sz i c1 t h1
    exact ⟨c2, h3, h4.trans h2⟩⟩
theorem Mvz.mono {S S' : Nat → Prop} {w w' : World} (h : Mvz S w w') (hS : ∀ k, S k → S' k) : Mvz S' w w' := ⟨h.mv.mono (fun k _ hk => hS k hk), h.sz⟩
theorem Mvz.cell {S : Nat → Prop} {w w' : World} (h : Mvz S w w') {a : Addr} {v : Value} (hc : w.cell? a = some v) (hS : ¬ S a.block) : w'.cell? a = some v := by
  have hb := h.mv.block a.block (lt_of_cell hc) hS
  rw [← hc]
  simp only [World.cell?, hb]
theorem Mvz.blk {S : Nat → Prop} {w w' : World} (h : Mvz S w w') {k : Nat} {o : Obj} (hk : w.heap[k]? = some o) (hS : ¬ S k) : w'.heap[k]? = some o := h.mv.keep hk hS
theorem Mvz.of {w w' : World} {b : Nat} {c C : Array Value} {t : TypeId} (hk : w.heap[b]? = some (.cells c t)) (hs : c.size = C.size) (h1 : w'.heap[b]? = some (.cells C t)) (h2 : Mvs (fun k => k = b) w w') : Mvz (fun k => k = b) w w' :=
  ⟨h2, fun i x s hi => by
    by_cases hib : i = b
    · subst hib
      rw [hk] at hi
      cases hi
      exact ⟨C, h1, hs.symm⟩
    · exact ⟨x, h2.keep hi hib, rfl⟩⟩

/-- What operation k of the region does to worlds, X telling which block it writes. -/
def tmv (X : List (Nat × Nat)) (k : Nat) (w w' : World) : Prop := Mvz (fun b => (k, b) ∈ X) w w'
/-- The blocks that are written. -/
def inX (X : List (Nat × Nat)) (b : Nat) : Prop := ∃ i, (i, b) ∈ X
theorem notX_nil (b : Nat) : ¬ inX [] b := fun ⟨_, h⟩ => by cases h
theorem notX_cons {X : List (Nat × Nat)} {i c b : Nat} (h : b ≠ c) (hX : ¬ inX X b) : ¬ inX ((i, c) :: X) b := fun ⟨j, hj⟩ => by
  rcases List.mem_cons.1 hj with hj | hj
  · cases hj; exact h rfl
  · exact hX ⟨j, hj⟩

theorem lastsM_nil {X : List (Nat × Nat)} : LooseT.Lasts (tmv X) (lk []) := fun k s h => by cases h
theorem lastsM_cons {X : List (Nat × Nat)} {i : Nat} {s : Value → World → Prop} {L : List (Nat × (Value → World → Prop))} (h : ∀ j v w w', j ≠ i → tmv X j w w' → s v w → s v w') (hL : LooseT.Lasts (tmv X) (lk L)) : LooseT.Lasts (tmv X) (lk ((i, s) :: L)) := by
  intro k t hk
  simp only [lk] at hk
  split at hk
  · rename_i e; cases hk; intro j v w w' hj; exact h j v w w' (by rw [← e]; exact hj)
  · exact hL k t hk
theorem lastsM_is {X : List (Nat × Nat)} {i : Nat} {c : Value} {L : List (Nat × (Value → World → Prop))} (hL : LooseT.Lasts (tmv X) (lk L)) : LooseT.Lasts (tmv X) (lk ((i, is c) :: L)) := lastsM_cons (fun _ _ _ _ _ _ h => h) hL
/-- A block as it is behind operation i. -/
def isB (b : Nat) (C : Array Value) (t : TypeId) : Value → World → Prop := fun _ w => w.heap[b]? = some (.cells C t)
theorem lastsM_blk {X : List (Nat × Nat)} {i b : Nat} {C : Array Value} {t : TypeId} {L : List (Nat × (Value → World → Prop))} (hX : ∀ j, (j, b) ∈ X → j = i) (hL : LooseT.Lasts (tmv X) (lk L)) : LooseT.Lasts (tmv X) (lk ((i, isB b C t) :: L)) :=
  lastsM_cons (fun j _ _ _ hj h hs => h.mv.keep hs (fun hm => hj (hX j hm))) hL

variable {P : Program}
theorem wp_region_mv {id : Nat} {Q : Exit → Act → World → Prop} {a : Act} {w : World} {l : List Oper} (n : Nat) (X : List (Nat × Nat)) (L : List (Nat × (Value → World → Prop)))
    (hS : LooseT.Lasts (tmv X) (lk L)) (hm : P.follows .mixedOrders = true) (hB : lexQ .any l.toArray = true) (hT : tailB .any l.toArray n = true)
    (h : LooseT.wpL P .any l.toArray (Mvz (inX X)) (tmv X) w (lk L) (fun a' D' => ∀ w' : World, Mvz (inX X) w w' → (∀ j, D' j w') → wpVL P l.toArray Q (l.drop n) a' w') 0 (l.take n) a (fun _ _ => True)) :
    (Code.region id l.toArray true).wp P Q a w :=
  LooseT.wp_region_tailR n (Mvz (inX X)) (tmv X) L (Mvz.refl _ _) (Mvz.ofExt ⟨rfl, rfl, rfl, Nat.le_refl _, fun _ _ => rfl⟩) (fun k a b c h1 h2 => h1.tr (h2.mono (fun b hb => ⟨k, hb⟩))) hS hm hB hT h

section
variable {md : Region.Mode} {ops : Array Oper} {w0 : World} {X : List (Nat × Nat)} {S : Nat → Option (Value → World → Prop)}

theorem wpL_put_rowM (ty : TypeId) {dst : Option Tmp} {x y : Operand} {tt : TypeId} {pos : String} {after : Array Edge} {Q : Act → Facts → Prop} {k : Nat} {rest : List Oper} {a : Act} {D : Facts}
    (b : Nat) (c C : Array Value) (t : TypeId) (hX : (k, b) ∈ X) (hSk : S k = some (isB b C t)) (hx : a.eval x = .pointer (some ⟨b, 0, none⟩)) (hy : a.eval y = .agg C) (hk : w0.heap[b]? = some (.cells c t))
    (hi : (P.info? ty).map (·.size) = some C.size) (hs : c.size = C.size) (h1 : C.all (·.oneCell') = true)
    (h : ∀ v w, Mvz (inX X) w0 w → (∀ j, D j w) → w.heap[b]? = some (.cells C t) → ∀ K : Act → Facts → Prop, (∀ a D, LooseT.wpL P md ops (Mvz (inX X)) (tmv X) w0 S Q (k + 1) rest a D → K a D) → K (a.put dst v) (upd D k (isB b C t v))) :
    LooseT.wpL P md ops (Mvz (inX X)) (tmv X) w0 S Q k ({ dst := dst, op := .store ty x y, type := tt, pos := pos, after := after, guard := none } :: rest) a D := by
  refine LooseT.wpL_some hSk rfl ?_ h
  intro w' hw' hn'
  obtain ⟨c', hk', hs'⟩ := hw'.sz b c t hk
  unfold execOp
  simp only [hx, hy, Instr.storeAt, Instr.sureAddr, Sem.run_bind, Sem.run_pure, Result.andThen_ok, run_storeVar_row w' b t ty c' C hk' hi (hs'.trans hs) h1, Upon]
  exact ⟨(Mvz.of hk' (hs'.trans hs) (setRow_facts hk' C).1 (setRow_facts hk' C).2).mono (fun k hk => by subst hk; exact hX), (setRow_facts hk' C).1⟩
end

/-- Three results: two variables of their own, and a value. -/
theorem results_cct {fn : Func} {t1 t2 t3 : Tmp} {ty1 ty2 : TypeId} {a1 a2 : Addr} {v1 v2 : Value} {w : World} (h : fn.results = #[.cell t1 ty1, .cell t2 ty2, .tmp t3]) (tmps : Array Value)
    (hp1 : tmps.getD t1 undef = .pointer (some a1)) (hp2 : tmps.getD t2 undef = .pointer (some a2)) (hl1 : Sem.run P (loadVar ty1 a1) w = .ok v1 w) (hl2 : Sem.run P (loadVar ty2 a2) w = .ok v2 w) :
    (results fn tmps).run P w = .ok (.tuple #[v1, v2, tmps.getD t3 undef]) w := by
  have hp1' : tmps[t1]?.getD undef = .pointer (some a1) := by simpa using hp1
  have hp2' : tmps[t2]?.getD undef = .pointer (some a2) := by simpa using hp2
  simp [results, h, hp1', hp2', hl1, hl2, asAddr]
end Go.Cul
