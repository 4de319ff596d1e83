/-
  Proved here: laws on worlds of which only some blocks have turned, and wire.Read over a closure that turns only some blocks of its caller's.
-/
import Derived.Test.YthhkdjoonnofdaaRead
namespace Go.Proofs.Ythhkdjoonnofdaa
open Go.ChangeShapes Go.WideShapes Go.ChangeAt Go.RowKit Go.Cul
set_option linter.unusedVariables false

/-- As it was, but for the blocks of S and what is new. -/
structure Mvs (S : Nat → Prop) (w w' : World) : Prop where
  os : w'.os = w.os
  tape : w'.tape = w.tape
  output : w'.output = w.output
  size : w.heap.size ≤ w'.heap.size
  block : ∀ k, k < w.heap.size → ¬ S k → w'.heap[k]? = w.heap[k]?

theorem Mvs.refl (S : Nat → Prop) (w : World) : Mvs S w w := ⟨rfl, rfl, rfl, Nat.le_refl _, fun _ _ _ => rfl⟩
theorem Mvs.tr {S : Nat → Prop} {a b c : World} (h : Mvs S a b) (k : Mvs S b c) : Mvs S a c :=
  ⟨k.os.trans h.os, k.tape.trans h.tape, k.output.trans h.output, Nat.le_trans h.size k.size, fun i hi hS => (k.block i (Nat.lt_of_lt_of_le hi h.size) hS).trans (h.block i hi hS)⟩
theorem Mvs.ofExt {S : Nat → Prop} {w w' : World} (h : Ext w w') : Mvs S w w' := ⟨h.os, h.tape, h.output, h.size, fun k hk _ => Below.block h k hk⟩
theorem Mvs.ofMv {S : Nat → Prop} {B : Nat} {w w' : World} (h : Mv B w w') (hB : S B) : Mvs S w w' := ⟨h.os, h.tape, h.output, h.size, fun k hk hS => h.block k hk (fun e => hS (e ▸ hB))⟩
theorem Mvs.set {S : Nat → Prop} (w : World) (a : Addr) (u : Value) (hS : S a.block) : Mvs S w (w.setCell a u) :=
  ⟨rfl, rfl, rfl, by simp [World.setCell], fun k _ hk => Below.heap_setCell _ _ _ _ (fun e => hk (e ▸ hS))⟩
theorem Mvs.ext {S : Nat → Prop} {w w' : World} (h : Mvs S w w') {w0 : World} (h0 : Ext w0 w) (hS : ∀ k, S k → w0.heap.size ≤ k) : Ext w0 w' :=
  ⟨h.os.trans h0.os, h.tape.trans h0.tape, h.output.trans h0.output, Nat.le_trans h0.size h.size, fun k hk => (h.block k (Nat.lt_of_lt_of_le hk h0.size) (fun hs => by have := hS k hs; omega)).trans (Below.block h0 k hk)⟩
theorem Mvs.keep {S : Nat → Prop} {w w' : World} (h : Mvs S w w') {k : Nat} {o : Obj} (hk : w.heap[k]? = some o) (hS : ¬ S k) : w'.heap[k]? = some o := (h.block k (lt_of_block hk) hS).trans hk
theorem Mvs.mono {S S' : Nat → Prop} {w w' : World} (h : Mvs S w w') (hS : ∀ k, k < w.heap.size → S k → S' k) : Mvs S' w w' := ⟨h.os, h.tape, h.output, h.size, fun k hk hn => h.block k hk (fun hs => hn (hS k hk hs))⟩

theorem cell_blk {w : World} {b : Nat} {C : Array Value} {t : TypeId} (h : w.heap[b]? = some (.cells C t)) (i : Nat) : w.cell? ⟨b, i, none⟩ = C[i]? := by
  simp only [World.cell?, h]; rfl
theorem fz_blk {w : World} {b : Nat} {C : Array Value} {t : TypeId} (h : w.heap[b]? = some (.cells C t)) (i : Nat) : w.frozen? ⟨b, i, none⟩ = false := by
  simp [World.frozen?, h]
theorem set_blk {w : World} {b : Nat} {C : Array Value} {t : TypeId} (h : w.heap[b]? = some (.cells C t)) (i : Nat) (u : Value) : (w.setCell ⟨b, i, none⟩ u).heap[b]? = some (.cells (C.setIfInBounds i u) t) := by
  simp [World.setCell, Array.getElem?_modify, h]
theorem _root_.Go.Cul.Rd.shape {k : IntKind} {w : World} {v : Value} {l : List Int} (h : Rd k w v l) : ∃ a n c, v = .slice a n c := by
  obtain ⟨a, c, rfl, -, -, -⟩ := h; exact ⟨a, _, c, rfl⟩
theorem fz_of {w : World} {b : Nat} {C : Array Value} {t : TypeId} (h : w.heap[b]? = some (.cells C t)) (i : Nat) : w.frozen? ⟨b, i, none⟩ = false := fz_blk h i
theorem set_oth {w : World} {b k : Nat} {o : Obj} (h : w.heap[k]? = some o) (hk : k ≠ b) (i : Nat) (u : Value) : (w.setCell ⟨b, i, none⟩ u).heap[k]? = some o := by
  rw [Below.heap_setCell _ _ _ _ hk]; exact h
theorem heap_alloc_at (w : World) (o : Obj) (k : Nat) : (w.alloc o).heap[k]? = if k = w.heap.size then some o else w.heap[k]? := by
  show (w.heap.push o)[k]? = _
  rw [Array.getElem?_push]
theorem new_blk (w : World) (o : Obj) {B : Nat} (h : w.heap.size = B) : (w.alloc o).heap[B]? = some o := by subst h; exact heap_alloc_new w o

theorem Out.fr {w w1 w2 w' : World} (h : Out w w1 w2 w') {base : Nat} {e : TypeId} {k : IntKind} {v : Value} {l : List Int} (hf : Fr w2 base e k v l) (hb : w1.heap.size ≤ base) : Fr w' base e k v l := by
  rcases hf with hf | hf
  · left
    refine ⟨hf.1, ?_⟩
    rcases hf.2 with h0 | ⟨g, cap, cur, rfl, hg, hh, r⟩
    · exact .inl h0
    · exact .inr ⟨g, cap, cur, rfl, hg, (h.block g (lt_of_block hh) (.inr (Nat.le_trans hb hg))).trans hh, r⟩
  · exact .inr hf

theorem Rdr.mvs {S : Nat → Prop} {w w' : World} {B : Nat} {bv : Value} {l : List Int} {k : Nat} (h : Rdr w B bv l k) (hm : Mvs S w w') (hB : ¬ S B) {base : Nat} (ha : Away bv l base) (hS : ∀ k, S k → k < base) : Rdr w' B bv l k := by
  refine ⟨hm.keep h.blk hB, ?_, h.le, h.bound⟩
  obtain ⟨a, cap, rfl, h1, h2, h3⟩ := h.rd
  refine ⟨a, cap, rfl, h1, h2, ?_⟩
  rcases h3 with h3 | ⟨b, o, rfl, h3⟩
  · exact .inl h3
  · rcases ha with ha | ha
    · exact .inl ha
    · refine .inr ⟨b, o, rfl, fun i hi => ?_⟩
      have hb := ha _ _ _ _ rfl
      rw [World.cell?_of_block (w := w) (hm.block b (lt_of_cell (h3 i hi)) (fun hs => by have := hS b hs; omega))]
      exact h3 i hi

/-- wire.Read over a closure that turns the reader and some blocks S that were there before. -/
theorem read_cl (F : FuncId) (cap : Array Value) (bv : Value) (l : List Int) (w : World) (hv : Rd .u8 w bv l) (hn : l.length ≤ 140737488351232) (S : Nat → Prop) (hS : ∀ k, S k → k < w.heap.size) (Q : World → Int → World → Prop)
    (hF : ∀ (args : Array Value) (w : World), (callFunc F args).run Try.prog w = .ok (.enter F args) w)
    (hdo : ∀ (B : Nat) (bu : Value) (w1 : World), Ext w w1 → w.heap.size ≤ B → Rdr w1 B bu l 0 → Away bu l w.heap.size → Calls Try.prog F (#[rp B] ++ cap) w1 fun x w2 => Mvs (fun k => k = B ∨ S k) w1 w2 ∧ (∃ bv k, Rdr w2 B bv l k) ∧ ((x = .returned (.tuple #[]) ∧ Q w1 0 w2) ∨ ∃ e, x = .panicked [{ v := gone B e, recovered := false }] ∧ Q w1 e w2)) :
    Calls Try.prog 20 #[bv, .func (.func F) #[] cap] w fun x w' => ∃ e w1 w2, x = .returned (.int .i64 e) ∧ Ext w w1 ∧ Q w1 e w2 ∧ Out w w1 w2 w' ∧ Mvs S w w' := by
  refine (read_any F cap bv l w hv (by omega) (fun w1 e w2 => Q w1 e w2 ∧ ∃ B, w.heap.size ≤ B ∧ Mvs (fun k => k = B ∨ S k) w1 w2) hF ?_).mono ?_
  · intro B bu w1 hx hB hR hA
    refine (hdo B bu w1 hx hB hR hA).mono ?_
    rintro x w2 ⟨hm, hr, hc⟩
    refine ⟨⟨hr, hm.size, fun k hk hk1 hkB => hm.block k hk1 (fun h => ?_)⟩, ?_⟩
    · rcases h with h | h
      · exact hkB h
      · have := hS k h; omega
    · rcases hc with ⟨h1, h2⟩ | ⟨e, h1, h2⟩
      · exact .inl ⟨h1, h2, B, hB, hm⟩
      · exact .inr ⟨e, h1, h2, B, hB, hm⟩
  · rintro x w' ⟨e, w1, w2, h1, h2, ⟨h3, B, hB, hm⟩, h4⟩
    refine ⟨e, w1, w2, h1, h2, h3, h4, h4.os.trans (hm.os.trans h2.os), h4.tape.trans (hm.tape.trans h2.tape), h4.output.trans (hm.output.trans h2.output), Nat.le_trans h2.size (Nat.le_trans hm.size h4.size), fun k hk hS' => ?_⟩
    have hk1 : k < w1.heap.size := Nat.lt_of_lt_of_le hk h2.size
    rw [h4.block k (Nat.lt_of_lt_of_le hk1 hm.size) (.inl hk), hm.block k hk1 (fun h => by rcases h with h | h; (· omega); exact hS' h)]
    exact Below.block h2 k hk
end Go.Proofs.Ythhkdjoonnofdaa
