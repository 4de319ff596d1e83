/-
  Proved here: laws on worlds of which only some blocks have turned, and wire.Read over a closure that turns only some blocks of its caller's.
-/
import Derived.Test.YtckdcjheflgmdaaRead
import Derived.Test.YtckdcjheflgmdaaMvs
namespace Go.Proofs.Ytckdcjheflgmdaa
set_option maxRecDepth 16000
open Go.ChangeShapes Go.WideShapes Go.ChangeAt Go.RowKit Go.Cul
set_option linter.unusedVariables false

theorem _root_.Go.Cul.Mvs.ofMv {S : Nat → Prop} {B : Nat} {w w' : World} (h : Mv B w w') (hB : S B) : Mvs S w w' := ⟨h.os, h.tape, h.output, h.size, fun k hk hS => h.block k hk (fun e => hS (e ▸ hB))⟩
theorem Out.fr {w w1 w2 w' : World} (h : Out w w1 w2 w') {base : Nat} {e : TypeId} {k : IntKind} {v : Value} {l : List Int} (hf : Fr w2 base e k v l) (hb : w1.heap.size ≤ base) : Fr w' base e k v l := by
  rcases hf with hf | hf
  · left
    refine ⟨hf.1, ?_⟩
    rcases hf.2 with h0 | ⟨g, cap, cur, rfl, hg, hh, r⟩
    · exact .inl h0
    · exact .inr ⟨g, cap, cur, rfl, hg, (h.block g (lt_of_block hh) (.inr (Nat.le_trans hb hg))).trans hh, r⟩
  · exact .inr hf

theorem Rdr.mvs {S : Nat → Prop} {w w' : World} {B : Nat} {bv : Value} {l : List Int} {k : Nat} (h : Rdr w B bv l k) (hm : Mvs S w w') (hB : ¬ S B) {base : Nat} (ha : Away bv l base) (hS : ∀ k, S k → k < base) : Rdr w' B bv l k := by
  refine ⟨hm.keep h.blk hB, ?_, h.le, h.bound⟩
  obtain ⟨a, cap, rfl, h1, h2, h3⟩ := h.rd
  refine ⟨a, cap, rfl, h1, h2, ?_⟩
  rcases h3 with h3 | ⟨b, o, rfl, h3⟩
  · exact .inl h3
  · rcases ha with ha | ha
    · exact .inl ha
    · refine .inr ⟨b, o, rfl, fun i hi => ?_⟩
      have hb := ha _ _ _ _ rfl
      rw [World.cell?_of_block (w := w) (hm.block b (lt_of_cell (h3 i hi)) (fun hs => by have := hS b hs; omega))]
      exact h3 i hi

/-- wire.Read over a closure that turns the reader and some blocks S that were there before. -/
theorem read_cl (F : FuncId) (cap : Array Value) (bv : Value) (l : List Int) (w : World) (hv : Rd .u8 w bv l) (hn : l.length ≤ 140737488351232) (S : Nat → Prop) (hS : ∀ k, S k → k < w.heap.size) (Q : World → Int → World → Prop)
    (hF : ∀ (args : Array Value) (w : World), (callFunc F args).run Try.prog w = .ok (.enter F args) w)
    (hdo : ∀ (B : Nat) (bu : Value) (w1 : World), Ext w w1 → w.heap.size ≤ B → Rdr w1 B bu l 0 → Away bu l w.heap.size → Calls Try.prog F (#[rp B] ++ cap) w1 fun x w2 => Mvs (fun k => k = B ∨ S k) w1 w2 ∧ (∃ bv k, Rdr w2 B bv l k) ∧ ((x = .returned (.tuple #[]) ∧ Q w1 0 w2) ∨ ∃ e, x = .panicked [{ v := gone B e, recovered := false }] ∧ Q w1 e w2)) :
    Calls Try.prog 38 #[bv, .func (.func F) #[] cap] w fun x w' => ∃ e w1 w2, x = .returned (.int .i64 e) ∧ Ext w w1 ∧ Q w1 e w2 ∧ Out w w1 w2 w' ∧ Mvs S w w' := by
  refine (read_any F cap bv l w hv (by omega) (fun w1 e w2 => Q w1 e w2 ∧ ∃ B, w.heap.size ≤ B ∧ Mvs (fun k => k = B ∨ S k) w1 w2) hF ?_).mono ?_
  · intro B bu w1 hx hB hR hA
    refine (hdo B bu w1 hx hB hR hA).mono ?_
    rintro x w2 ⟨hm, hr, hc⟩
    refine ⟨⟨hr, hm.size, fun k hk hk1 hkB => hm.block k hk1 (fun h => ?_)⟩, ?_⟩
    · rcases h with h | h
      · exact hkB h
      · have := hS k h; omega
    · rcases hc with ⟨h1, h2⟩ | ⟨e, h1, h2⟩
      · exact .inl ⟨h1, h2, B, hB, hm⟩
      · exact .inr ⟨e, h1, h2, B, hB, hm⟩
  · rintro x w' ⟨e, w1, w2, h1, h2, ⟨h3, B, hB, hm⟩, h4⟩
    refine ⟨e, w1, w2, h1, h2, h3, h4, h4.os.trans (hm.os.trans h2.os), h4.tape.trans (hm.tape.trans h2.tape), h4.output.trans (hm.output.trans h2.output), Nat.le_trans h2.size (Nat.le_trans hm.size h4.size), fun k hk hS' => ?_⟩
    have hk1 : k < w1.heap.size := Nat.lt_of_lt_of_le hk h2.size
    rw [h4.block k (Nat.lt_of_lt_of_le hk1 hm.size) (.inl hk), hm.block k hk1 (fun h => by rcases h with h | h; (· omega); exact hS' h)]
    exact Below.block h2 k hk
end Go.Proofs.Ytckdcjheflgmdaa
