/-
  Proved here: laws on worlds of which only some blocks have turned. No program in sight.
-/
import Derived.Test.YtckdcjheflgmdaaBase
namespace Go.Cul
open Go Go.RowKit
set_option linter.unusedVariables false

/-- As it was, but for the blocks of S and what is new. -/
structure Mvs (S : Nat → Prop) (w w' : World) : Prop where
  os : w'.os = w.os
  tape : w'.tape = w.tape
  output : w'.output = w.output
  size : w.heap.size ≤ w'.heap.size
  block : ∀ k, k < w.heap.size → ¬ S k → w'.heap[k]? = w.heap[k]?

theorem Mvs.refl (S : Nat → Prop) (w : World) : Mvs S w w := ⟨rfl, rfl, rfl, Nat.le_refl _, fun _ _ _ => rfl⟩
theorem Mvs.tr {S : Nat → Prop} {a b c : World} (h : Mvs S a b) (k : Mvs S b c) : Mvs S a c :=
  ⟨k.os.trans h.os, k.tape.trans h.tape, k.output.trans h.output, Nat.le_trans h.size k.size, fun i hi hS => (k.block i (Nat.lt_of_lt_of_le hi h.size) hS).trans (h.block i hi hS)⟩
theorem Mvs.ofExt {S : Nat → Prop} {w w' : World} (h : Ext w w') : Mvs S w w' := ⟨h.os, h.tape, h.output, h.size, fun k hk _ => Below.block h k hk⟩
theorem Mvs.set {S : Nat → Prop} (w : World) (a : Addr) (u : Value) (hS : S a.block) : Mvs S w (w.setCell a u) :=
  ⟨rfl, rfl, rfl, by simp [World.setCell], fun k _ hk => Below.heap_setCell _ _ _ _ (fun e => hk (e ▸ hS))⟩
theorem Mvs.ext {S : Nat → Prop} {w w' : World} (h : Mvs S w w') {w0 : World} (h0 : Ext w0 w) (hS : ∀ k, S k → w0.heap.size ≤ k) : Ext w0 w' :=
  ⟨h.os.trans h0.os, h.tape.trans h0.tape, h.output.trans h0.output, Nat.le_trans h0.size h.size, fun k hk => (h.block k (Nat.lt_of_lt_of_le hk h0.size) (fun hs => by have := hS k hs; omega)).trans (Below.block h0 k hk)⟩
theorem Mvs.keep {S : Nat → Prop} {w w' : World} (h : Mvs S w w') {k : Nat} {o : Obj} (hk : w.heap[k]? = some o) (hS : ¬ S k) : w'.heap[k]? = some o := (h.block k (lt_of_block hk) hS).trans hk
theorem Mvs.mono {S S' : Nat → Prop} {w w' : World} (h : Mvs S w w') (hS : ∀ k, k < w.heap.size → S k → S' k) : Mvs S' w w' := ⟨h.os, h.tape, h.output, h.size, fun k hk hn => h.block k hk (fun hs => hn (hS k hk hs))⟩

theorem cell_blk {w : World} {b : Nat} {C : Array Value} {t : TypeId} (h : w.heap[b]? = some (.cells C t)) (i : Nat) : w.cell? ⟨b, i, none⟩ = C[i]? := by
  simp only [World.cell?, h]; rfl
theorem fz_blk {w : World} {b : Nat} {C : Array Value} {t : TypeId} (h : w.heap[b]? = some (.cells C t)) (i : Nat) : w.frozen? ⟨b, i, none⟩ = false := by
  simp [World.frozen?, h]
theorem set_blk {w : World} {b : Nat} {C : Array Value} {t : TypeId} (h : w.heap[b]? = some (.cells C t)) (i : Nat) (u : Value) : (w.setCell ⟨b, i, none⟩ u).heap[b]? = some (.cells (C.setIfInBounds i u) t) := by
  simp [World.setCell, Array.getElem?_modify, h]
theorem Rd.shape {k : IntKind} {w : World} {v : Value} {l : List Int} (h : Rd k w v l) : ∃ a n c, v = .slice a n c := by
  obtain ⟨a, c, rfl, -, -, -⟩ := h; exact ⟨a, _, c, rfl⟩
theorem fz_of {w : World} {b : Nat} {C : Array Value} {t : TypeId} (h : w.heap[b]? = some (.cells C t)) (i : Nat) : w.frozen? ⟨b, i, none⟩ = false := fz_blk h i
theorem set_oth {w : World} {b k : Nat} {o : Obj} (h : w.heap[k]? = some o) (hk : k ≠ b) (i : Nat) (u : Value) : (w.setCell ⟨b, i, none⟩ u).heap[k]? = some o := by
  rw [Below.heap_setCell _ _ _ _ hk]; exact h
theorem heap_alloc_at (w : World) (o : Obj) (k : Nat) : (w.alloc o).heap[k]? = if k = w.heap.size then some o else w.heap[k]? := by
  show (w.heap.push o)[k]? = _
  rw [Array.getElem?_push]
theorem new_blk (w : World) (o : Obj) {B : Nat} (h : w.heap.size = B) : (w.alloc o).heap[B]? = some o := by subst h; exact heap_alloc_new w o

end Go.Cul
