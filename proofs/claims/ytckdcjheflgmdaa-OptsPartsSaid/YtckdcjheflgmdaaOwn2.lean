/-
  Proved here: make of integers, and stores into a slice that the call itself made. Over any program.
-/
import Derived.Test.YtckdcjheflgmdaaOwn
namespace Go.Cul
open Go Go.RowKit
set_option linter.unusedVariables false

theorem madeCells_one (z : Value) (hz : z.cells = #[z]) (n : Nat) : (madeCells z.cells n).toList = List.replicate n z := by
  apply List.ext_getElem?
  intro i
  rw [hz]
  by_cases hi : i < n
  · simp [madeCells, hi, Nat.mod_one]
  · simp [madeCells, hi]

theorem Ext.of_grown {w w' : World} (h : w.grownBy w' none) : Ext w w' := ⟨h.os, h.tape, h.output, h.size, fun k hk => h.block k hk (by simp)⟩

theorem run_mk {P : Program} {k : IntKind} {t e : TypeId} {bytes : Nat} (is : IS P k t e bytes) (w : World) (base : Nat) (kl kc : IntKind) (n : Nat) (hn : bytes * n ≤ 281474976710656) (h63 : n ≤ maxLen) (hbase : base ≤ w.heap.size) :
    ∃ w', (Instr.makeSlice t (.int kl n) (.int kc n)).run P w = .ok (.slice (some ⟨w.heap.size, 0, none⟩) n n) w' ∧ Own w' base e k (.slice (some ⟨w.heap.size, 0, none⟩) n n) (List.replicate n 0) ∧ Ext w w' := by
  obtain ⟨i, hi, hz, hs, hb⟩ := is.hi
  obtain ⟨w', h1, h2, h3⟩ := run_make_full (P := P) w base t e i _ 1 is.ht hi hz hs kl kc n (by rw [hb]; exact hn) h63 hbase
  refine ⟨w', h1, ?_, Ext.of_grown h3⟩
  rw [madeCells_one _ rfl, Nat.mul_one] at h2
  unfold Own
  rw [List.length_replicate, List.map_replicate]
  exact h2

theorem Own.open {w : World} {base : Nat} {e : TypeId} {k : IntKind} {v : Value} {l : List Int} (h : Own w base e k v l) (hl : 0 < l.length) :
    ∃ g cap, v = .slice (some ⟨g, 0, none⟩) l.length cap ∧ base ≤ g ∧ g < w.heap.size ∧ (∀ i, i < l.length → w.cell? ⟨g, i, none⟩ = some (.int k (l.getD i 0))) ∧ (∀ i, w.frozen? ⟨g, i, none⟩ = false) ∧ l.length ≤ cap ∧ cap ≤ maxLen ∧
      (∀ (x : Int) i, i < l.length → Own (w.setCell ⟨g, i, none⟩ (.int k x)) base e k v (l.set i x)) := by
  rcases h.2 with ⟨rfl, h0⟩ | ⟨g, cap, cur, rfl, hb, hh, hn, hm, hsz, htake⟩
  · omega
  · have hcell : ∀ i, i < l.length → w.cell? ⟨g, i, none⟩ = some (.int k (l.getD i 0)) := fun i hi => by
      rw [cell_of_row w g i cur e (0, 0) hh]
      have h1 : (cur.toList.take (l.length * 1))[i]? = (l.map (Value.int k))[i]? := by rw [htake]
      rw [Nat.mul_one, List.getElem?_take, if_pos hi] at h1
      simp [List.getD, hi] at h1 ⊢
      exact h1
    refine ⟨g, cap, rfl, hb, lt_of_block hh, hcell, fun i => by simp [World.frozen?, hh], hn, hm, fun x i hi => ⟨by simp, .inr ⟨g, cap, cur.setIfInBounds i (.int k x), by simp, hb, ?_, by simpa using hn, hm, by simpa using hsz, ?_⟩⟩⟩
    · simp [World.setCell, Array.getElem?_modify, hh]
    · rw [Nat.mul_one] at htake
      rw [List.length_set, Nat.mul_one, Array.toList_setIfInBounds, List.take_set, htake, List.map_set]

/-- An own slice of another block stays as it is behind a store. -/
theorem Own.other {w : World} {base : Nat} {e : TypeId} {k : IntKind} {v : Value} {l : List Int} (h : Own w base e k v l) {a : Addr} (ha : v.ownBlock ≠ some a.block) (u : Value) : Own (w.setCell a u) base e k v l :=
  ownsRow_setCell_other h ha u
theorem nil_grow {W w w' : World} (hg : w.grownBy w' (Value.slice none 0 0).ownBlock) (hb : Ext W w) : Ext W w' := Below.grown hb hg hb.size (fun j hj => by simp [Value.ownBlock] at hj)
theorem Own.grow {W w w' : World} {e : TypeId} {k : IntKind} {v : Value} {l : List Int} (h : Own w W.heap.size e k v l) (hg : w.grownBy w' v.ownBlock) (hb : Ext W w) : Ext W w' := h.below hg hb hb.size

/-- append at a step of a region that draws its order. -/
theorem step_app {P : Program} {k : IntKind} {t e : TypeId} {bytes : Nat} (is : IS P k t e bytes) {w : World} {ops : Array Oper} {o : Oper} {a : Act} {K : Act → World → Prop} {Q : Exit → Act → World → Prop} {E : Prop} (hgd : o.guard = none) (s x : Operand)
    (ho : o.op = .call { callee := .builtin .append, args := #[s, x], argTypes := #[t, t] }) (base : Nat) (v : Value) (l : List Int) (hs : a.eval s = v) (hown : Own w base e k v l) (u : Value) (r : List Int) (hx : a.eval x = u) (hr : Rd k w u r)
    (hlen : (l.length + r.length) * bytes ≤ 140737488355328) (h63 : l.length + r.length ≤ maxLen) (hbase : base ≤ w.heap.size)
    (h : ∀ v' w', Own w' base e k v' (l ++ r) → w.grownBy w' v.ownBlock → (v'.ownBlock = v.ownBlock ∨ v'.ownBlock = some w.heap.size) → K (a.put o.dst v') w') :
    if Region.wanted o (yielded ops a.tmps) = true then Oper.wp P o a w K Q else E := by
  have hw : Region.wanted o (yielded ops a.tmps) = true := by simp [Region.wanted, hgd]
  rw [if_pos hw]
  exact wp_app is s x ho base v l hs hown u r hx hr hlen h63 hbase h

/-- The first numbers of a slice; the others. -/
theorem Rd.take {k : IntKind} {w : World} {a : Option Addr} {n cap m : Nat} {l : List Int} (h : Rd k w (.slice a n cap) l) (hm : m ≤ n) : Rd k w (.slice a m cap) (l.take m) := by
  obtain ⟨a', cap', he, h1, h2, h3⟩ := h
  cases he
  have hl : (l.take m).length = m := by rw [List.length_take]; omega
  refine ⟨_, _, by rw [hl], by omega, h2, ?_⟩
  rw [hl]
  rcases h3 with h3 | ⟨b, o, rfl, h3⟩
  · left; simp [h3]
  · right
    refine ⟨b, o, rfl, fun i hi => ?_⟩
    rw [h3 i (by omega)]
    simp [List.getD, hi]
theorem Rd.drop {k : IntKind} {w : World} {b o n cap m : Nat} {l : List Int} (h : Rd k w (.slice (some ⟨b, o, none⟩) n cap) l) (hm : m ≤ n) : Rd k w (.slice (some ⟨b, o + m, none⟩) (n - m) (cap - m)) (l.drop m) := by
  obtain ⟨a', cap', he, h1, h2, h3⟩ := h
  cases he
  have hl : (l.drop m).length = l.length - m := by rw [List.length_drop]
  refine ⟨_, _, by rw [hl], by omega, by omega, ?_⟩
  rw [hl]
  rcases h3 with h3 | ⟨b', o', he, h3⟩
  · left; simp [h3]
  · cases he
    right
    refine ⟨b, o + m, rfl, fun i hi => ?_⟩
    rw [Nat.add_assoc, h3 (m + i) (by omega)]
    simp [List.getD, List.getElem?_drop]
end Go.Cul
