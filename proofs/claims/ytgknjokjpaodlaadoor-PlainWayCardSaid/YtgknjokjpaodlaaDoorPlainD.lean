/-
  Proved here: what a flow that is only translated goes through, as plain mathematics: laws on takeM. No walk.
-/
import Derived.Test.YtgknjokjpaodlaaDoorPlainW
namespace Go.Proofs.YtgknjokjpaodlaaDoor
open Go Go.Cul
set_option linter.unusedVariables false

theorem take3_proto (m : Fl) (r : Bool) : (take3 m r).proto = m.proto := by unfold take3; split <;> rfl
theorem take3_sides (m : Fl) (r : Bool) : (take3 m r).o = m.o ∧ (take3 m r).i = m.i ∧ (take3 m r).last = m.last ∧ (take3 m r).idle = m.idle ∧ (take3 m r).wait = m.wait := by unfold take3; split <;> exact ⟨rfl, rfl, rfl, rfl, rfl⟩
theorem set_proto (m : Fl) (ins : Bool) (s : Sd) : (m.set ins s).proto = m.proto := by unfold Fl.set; split <;> rfl
theorem take2_proto (m : Fl) (p : Pk) (ins : Bool) : (take2 m p ins).1.proto = m.proto := by
  unfold take2; split
  · exact set_proto _ _ _
  · rfl
theorem takeM_proto (m : Fl) (p : Pk) (ins : Bool) (now : Int) : (takeM m p ins now).proto = m.proto := by
  unfold takeM; split
  · rw [take3_proto, take2_proto]; unfold take1; exact set_proto _ _ _
  · rfl
theorem set_ok {m : Fl} {ins : Bool} {s : Sd} (hm : m.ok) (hs : s.ok) : (m.set ins s).ok := by
  unfold Fl.set; split
  · exact ⟨hm.1, hs⟩
  · exact ⟨hs, hm.2⟩
theorem side_ok {m : Fl} {ins : Bool} (hm : m.ok) : (m.side ins).ok := by
  unfold Fl.side; split
  · exact hm.2
  · exact hm.1
theorem takeM_ok {m : Fl} {p : Pk} {ins : Bool} {now : Int} (hm : m.ok) (hp : p.ok) : (takeM m p ins now).ok := by
  unfold takeM; split
  · have h1 : (take1 m ins now).ok := by
      unfold take1
      refine set_ok ⟨hm.1, hm.2⟩ ?_
      have := side_ok (ins := ins) (m := { m with last := max m.last now }) ⟨hm.1, hm.2⟩
      exact this
    have h2 : (take2 (take1 m ins now) p ins).1.ok := by
      unfold take2; split
      · exact set_ok h1 (segM_ok (side_ok h1) hp.2.2.1 hp.2.2.2)
      · exact h1
    have h3 := take3_sides (take2 (take1 m ins now) p ins).1 (take2 (take1 m ins now) p ins).2
    unfold Fl.ok
    rw [h3.1, h3.2.1]
    exact h2
  · exact hm

/-- Two sides that open, send and close: the numbers. -/
structure Cl where
  a : Int
  b : Int
  n : Nat
  m : Nat
  first : Bool
  ax : Option Addr
  cx : Nat
  ay : Option Addr
  cy : Nat
def nx (x : Int) : Int := (x + 1) % 4294967296
def Cl.A (c : Cl) : Int := (nx c.a + c.n) % 4294967296
def Cl.B (c : Cl) : Int := (nx c.b + c.m) % 4294967296
def Cl.p (c : Cl) : Int := if c.first then c.A else c.B
def Cl.q (c : Cl) : Int := if c.first then c.B else c.A
/-- Send k: from inside, number, ack, flags. -/
def Cl.s (c : Cl) : Nat → Bool × Int × Int × Int
  | 0 => (true, c.a, 0, 2)
  | 1 => (true, c.a, 0, 2)
  | 2 => (false, c.b, nx c.a, 18)
  | 3 => (true, nx c.a, nx c.b, 16)
  | 4 => (true, nx c.a, nx c.b, 16)
  | 5 => (false, nx c.b, c.A, 16)
  | 6 => (true, c.A, c.B, 16)
  | 7 => (c.first, c.p, c.q, 17)
  | 8 => (c.first, c.p, c.q, 17)
  | 9 => (!c.first, c.q, nx c.p, 16)
  | 10 => (!c.first, c.q, nx c.p, 17)
  | 11 => (!c.first, c.q, nx c.p, 17)
  | 12 => (c.first, nx c.p, c.q, 16)
  | 13 => (c.first, nx c.p, nx c.q, 16)
  | 14 => (c.first, nx c.p, nx c.q, 16)
  | _ => (true, c.a, 0, 2)
def Cl.d (c : Cl) : Nat → Option Addr × Nat × Nat
  | 4 => (c.ax, c.n, c.cx)
  | 5 => (c.ay, c.m, c.cy)
  | _ => (none, 0, 0)
def Cl.P (c : Cl) (k : Nat) : Pk := pkP 6 (c.s k).2.1 (c.s k).2.2.1 (c.s k).2.2.2 0 (c.d k).1 (c.d k).2.1 (c.d k).2.2
def Cl.F (c : Cl) : Nat → Fl
  | 0 => flNew 80 5 6 0
  | k + 1 => takeM (c.F k) (c.P k) (c.s k).1 1
def clS : List Int := [1, 1, 2, 3, 3, 3, 3, 4, 4, 4, 4, 4, 4, 5, 5, 5]

theorem nx_bd (x : Int) : 0 ≤ nx x ∧ nx x ≤ 4294967295 := by unfold nx; omega
theorem sLess_nx {x : Int} (h : 0 ≤ x ∧ x ≤ 4294967295) : sLess x (nx x) = true := by
  unfold sLess nx
  rw [decide_eq_true_eq]
  omega
theorem sLess_self (x : Int) : sLess x x = false := by
  unfold sLess; simp

theorem cl_proto (c : Cl) : ∀ k, (c.F k).proto = 6
  | 0 => rfl
  | k + 1 => by rw [Cl.F, takeM_proto]; exact cl_proto c k
theorem cl_E (c : Cl) (k : Nat) : takeE (c.F k) (c.P k) = 0 := by
  unfold takeE
  rw [cl_proto]
  rfl
theorem cl_Pok (c : Cl) (ha : 0 ≤ c.a ∧ c.a ≤ 4294967295) (hb : 0 ≤ c.b ∧ c.b ≤ 4294967295) (k : Nat) : (c.P k).ok := by
  have hA : 0 ≤ c.A ∧ c.A ≤ 4294967295 := by unfold Cl.A; omega
  have hB : 0 ≤ c.B ∧ c.B ≤ 4294967295 := by unfold Cl.B; omega
  have hp : 0 ≤ c.p ∧ c.p ≤ 4294967295 := by unfold Cl.p; split <;> assumption
  have hq : 0 ≤ c.q ∧ c.q ≤ 4294967295 := by unfold Cl.q; split <;> assumption
  have h1 := nx_bd c.a
  have h2 := nx_bd c.b
  have h3 := nx_bd c.p
  have h4 := nx_bd c.q
  unfold Cl.P Pk.ok pkP
  dsimp only
  unfold Cl.s
  split <;> dsimp only <;> omega
theorem cl_ok (c : Cl) (ha : 0 ≤ c.a ∧ c.a ≤ 4294967295) (hb : 0 ≤ c.b ∧ c.b ≤ 4294967295) : ∀ k, (c.F k).ok
  | 0 => by show (flNew 80 5 6 0).ok; exact Fl.ok_of (by decide +kernel)
  | k + 1 => takeM_ok (cl_ok c ha hb k) (cl_Pok c ha hb k)

/-- One side, behind what it did. -/
def sdA (acks ended : Bool) (acked behind : Int) : Sd := ⟨true, acks, ended, acked, behind, 0⟩
theorem sLen01 : sLen ((0 : Nat) : Int) 17 = 1 := by decide +kernel

theorem cl_7 (c : Cl) : c.F 7 = ⟨80, 5, 6, sdA true false c.A 0, sdA true false c.B 0, 1, false, 0⟩ ∧ stM (c.F 1) = 1 ∧ stM (c.F 2) = 1 ∧ stM (c.F 3) = 2 ∧ stM (c.F 4) = 3 ∧ stM (c.F 5) = 3 ∧ stM (c.F 6) = 3 ∧ stM (c.F 7) = 3 := by
  have f2_4 : fl 2 4 = false := by decide
  have f2_16 : fl 2 16 = false := by decide
  have f2_1 : fl 2 1 = false := by decide
  have f18_4 : fl 18 4 = false := by decide
  have f18_16 : fl 18 16 = true := by decide
  have f18_1 : fl 18 1 = false := by decide
  have f16_4 : fl 16 4 = false := by decide
  have f16_16 : fl 16 16 = true := by decide
  have f16_1 : fl 16 1 = false := by decide
  have e0 : c.F 0 = ⟨80, 5, 6, ⟨false, false, false, 0, 0, 0⟩, ⟨false, false, false, 0, 0, 0⟩, 0, false, 0⟩ := by
    show flNew 80 5 6 0 = _
    simp only [flNew]
    congr 1
  have e1 : c.F 1 = ⟨80, 5, 6, ⟨false, false, false, 0, 0, 0⟩, sdA false false 0 0, 1, false, 0⟩ := by
    rw [Cl.F, e0]; simp [takeM, takeE, take1, take2, take3, Cl.P, Cl.s, Cl.d, pkP, Fl.set, Fl.side, segM, overM, sdA, f2_4, f2_16, f2_1]; omega
  have e2 : c.F 2 = ⟨80, 5, 6, ⟨false, false, false, 0, 0, 0⟩, sdA false false 0 0, 1, false, 0⟩ := by
    rw [Cl.F, e1]; simp [takeM, takeE, take1, take2, take3, Cl.P, Cl.s, Cl.d, pkP, Fl.set, Fl.side, segM, overM, sdA, f2_4, f2_16, f2_1]
  have e3 : c.F 3 = ⟨80, 5, 6, sdA true false (nx c.a) 0, sdA false false 0 0, 1, false, 0⟩ := by
    rw [Cl.F, e2]; simp [takeM, takeE, take1, take2, take3, Cl.P, Cl.s, Cl.d, pkP, Fl.set, Fl.side, segM, overM, sdA, f18_4, f18_16, f18_1]
  have e4 : c.F 4 = ⟨80, 5, 6, sdA true false (nx c.a) 0, sdA true false (nx c.b) 0, 1, false, 0⟩ := by
    rw [Cl.F, e3]; simp [takeM, takeE, take1, take2, take3, Cl.P, Cl.s, Cl.d, pkP, Fl.set, Fl.side, segM, overM, sdA, f16_4, f16_16, f16_1]
  have e5 : c.F 5 = ⟨80, 5, 6, sdA true false (nx c.a) 0, sdA true false (nx c.b) 0, 1, false, 0⟩ := by
    rw [Cl.F, e4]; simp [takeM, takeE, take1, take2, take3, Cl.P, Cl.s, Cl.d, pkP, Fl.set, Fl.side, segM, overM, sdA, f16_4, f16_16, f16_1]
  have e6 : c.F 6 = ⟨80, 5, 6, sdA true false c.A 0, sdA true false (nx c.b) 0, 1, false, 0⟩ := by
    rw [Cl.F, e5]; simp [takeM, takeE, take1, take2, take3, Cl.P, Cl.s, Cl.d, pkP, Fl.set, Fl.side, segM, overM, sdA, f16_4, f16_16, f16_1]
  have e7 : c.F 7 = ⟨80, 5, 6, sdA true false c.A 0, sdA true false c.B 0, 1, false, 0⟩ := by
    rw [Cl.F, e6]; simp [takeM, takeE, take1, take2, take3, Cl.P, Cl.s, Cl.d, pkP, Fl.set, Fl.side, segM, overM, sdA, f16_4, f16_16, f16_1]
  refine ⟨e7, ?_, ?_, ?_, ?_, ?_, ?_, ?_⟩
  · rw [e1]; simp [stM, sdA]
  · rw [e2]; simp [stM, sdA]
  · rw [e3]; simp [stM, sdA]
  · rw [e4]; simp [stM, sdA]
  · rw [e5]; simp [stM, sdA]
  · rw [e6]; simp [stM, sdA]
  · rw [e7]; simp [stM, sdA]

theorem cl_16 (c : Cl) (ha : 0 ≤ c.a ∧ c.a ≤ 4294967295) (hb : 0 ≤ c.b ∧ c.b ≤ 4294967295) : stM (c.F 8) = 4 ∧ stM (c.F 9) = 4 ∧ stM (c.F 10) = 4 ∧ stM (c.F 11) = 4 ∧ stM (c.F 12) = 4 ∧ stM (c.F 13) = 4 ∧ stM (c.F 14) = 5 ∧ stM (c.F 15) = 5 ∧ stM (c.F 16) = 5 := by
  have f2_4 : fl 2 4 = false := by decide
  have f2_16 : fl 2 16 = false := by decide
  have f2_1 : fl 2 1 = false := by decide
  have f17_4 : fl 17 4 = false := by decide
  have f17_16 : fl 17 16 = true := by decide
  have f17_1 : fl 17 1 = true := by decide
  have f16_4 : fl 16 4 = false := by decide
  have f16_16 : fl 16 16 = true := by decide
  have f16_1 : fl 16 1 = false := by decide
  have L17 : sLen 0 17 = 1 := by decide +kernel
  have hA : 0 ≤ c.A ∧ c.A ≤ 4294967295 := by unfold Cl.A; omega
  have hB : 0 ≤ c.B ∧ c.B ≤ 4294967295 := by unfold Cl.B; omega
  have e7 := (cl_7 c).1
  have hnp : (c.p + 1) % 4294967296 = nx c.p := rfl
  have hnq : (c.q + 1) % 4294967296 = nx c.q := rfl
  have lp : sLess c.p (nx c.p) = true := sLess_nx (by unfold Cl.p; split <;> assumption)
  have lq : sLess c.q (nx c.q) = true := sLess_nx (by unfold Cl.q; split <;> assumption)
  have ls := sLess_self
  cases hf : c.first
  · have hp : c.B = c.p := by simp [Cl.p, hf]
    have hq : c.A = c.q := by simp [Cl.q, hf]
    rw [hp, hq] at e7
    clear hA hB
    have e8 : c.F 8 = ⟨80, 5, 6, sdA true true c.q (nx c.p), sdA true false c.p 0, 1, false, 0⟩ := by
      rw [Cl.F, e7]; simp [takeM, takeE, take1, take2, take3, Cl.P, Cl.s, Cl.d, pkP, Fl.set, Fl.side, segM, overM, sdA, *]
    have e9 : c.F 9 = ⟨80, 5, 6, sdA true true c.q (nx c.p), sdA true false c.p 0, 1, false, 0⟩ := by
      rw [Cl.F, e8]; simp [takeM, takeE, take1, take2, take3, Cl.P, Cl.s, Cl.d, pkP, Fl.set, Fl.side, segM, overM, sdA, *]
    have e10 : c.F 10 = ⟨80, 5, 6, sdA true true c.q (nx c.p), sdA true false (nx c.p) 0, 1, false, 0⟩ := by
      rw [Cl.F, e9]; simp [takeM, takeE, take1, take2, take3, Cl.P, Cl.s, Cl.d, pkP, Fl.set, Fl.side, segM, overM, sdA, *]
    have e11 : c.F 11 = ⟨80, 5, 6, sdA true true c.q (nx c.p), sdA true true (nx c.p) (nx c.q), 1, false, 0⟩ := by
      rw [Cl.F, e10]; simp [takeM, takeE, take1, take2, take3, Cl.P, Cl.s, Cl.d, pkP, Fl.set, Fl.side, segM, overM, sdA, *]
    have e12 : c.F 12 = ⟨80, 5, 6, sdA true true c.q (nx c.p), sdA true true (nx c.p) (nx c.q), 1, false, 0⟩ := by
      rw [Cl.F, e11]; simp [takeM, takeE, take1, take2, take3, Cl.P, Cl.s, Cl.d, pkP, Fl.set, Fl.side, segM, overM, sdA, *]
    have e13 : c.F 13 = ⟨80, 5, 6, sdA true true c.q (nx c.p), sdA true true (nx c.p) (nx c.q), 1, false, 0⟩ := by
      rw [Cl.F, e12]; simp [takeM, takeE, take1, take2, take3, Cl.P, Cl.s, Cl.d, pkP, Fl.set, Fl.side, segM, overM, sdA, *]
    have e14 : c.F 14 = ⟨80, 5, 6, sdA true true (nx c.q) (nx c.p), sdA true true (nx c.p) (nx c.q), 1, true, 1⟩ := by
      rw [Cl.F, e13]; simp [takeM, takeE, take1, take2, take3, Cl.P, Cl.s, Cl.d, pkP, Fl.set, Fl.side, segM, overM, sdA, *]
    have e15 : c.F 15 = ⟨80, 5, 6, sdA true true (nx c.q) (nx c.p), sdA true true (nx c.p) (nx c.q), 1, true, 1⟩ := by
      rw [Cl.F, e14]; simp [takeM, takeE, take1, take2, take3, Cl.P, Cl.s, Cl.d, pkP, Fl.set, Fl.side, segM, overM, sdA, *]
    have e16 : c.F 16 = ⟨80, 5, 6, sdA true true (nx c.q) (nx c.p), sdA true true (nx c.p) (nx c.q), 1, true, 1⟩ := by
      rw [Cl.F, e15]; simp [takeM, takeE, take1, take2, take3, Cl.P, Cl.s, Cl.d, pkP, Fl.set, Fl.side, segM, overM, sdA, *]
    refine ⟨?_, ?_, ?_, ?_, ?_, ?_, ?_, ?_, ?_⟩
    · rw [e8]; simp [stM, sdA]
    · rw [e9]; simp [stM, sdA]
    · rw [e10]; simp [stM, sdA]
    · rw [e11]; simp [stM, sdA]
    · rw [e12]; simp [stM, sdA]
    · rw [e13]; simp [stM, sdA]
    · rw [e14]; simp [stM]
    · rw [e15]; simp [stM]
    · rw [e16]; simp [stM]
  · have hp : c.A = c.p := by simp [Cl.p, hf]
    have hq : c.B = c.q := by simp [Cl.q, hf]
    rw [hp, hq] at e7
    clear hA hB
    have e8 : c.F 8 = ⟨80, 5, 6, sdA true false c.p 0, sdA true true c.q (nx c.p), 1, false, 0⟩ := by
      rw [Cl.F, e7]; simp [takeM, takeE, take1, take2, take3, Cl.P, Cl.s, Cl.d, pkP, Fl.set, Fl.side, segM, overM, sdA, *]
    have e9 : c.F 9 = ⟨80, 5, 6, sdA true false c.p 0, sdA true true c.q (nx c.p), 1, false, 0⟩ := by
      rw [Cl.F, e8]; simp [takeM, takeE, take1, take2, take3, Cl.P, Cl.s, Cl.d, pkP, Fl.set, Fl.side, segM, overM, sdA, *]
    have e10 : c.F 10 = ⟨80, 5, 6, sdA true false (nx c.p) 0, sdA true true c.q (nx c.p), 1, false, 0⟩ := by
      rw [Cl.F, e9]; simp [takeM, takeE, take1, take2, take3, Cl.P, Cl.s, Cl.d, pkP, Fl.set, Fl.side, segM, overM, sdA, *]
    have e11 : c.F 11 = ⟨80, 5, 6, sdA true true (nx c.p) (nx c.q), sdA true true c.q (nx c.p), 1, false, 0⟩ := by
      rw [Cl.F, e10]; simp [takeM, takeE, take1, take2, take3, Cl.P, Cl.s, Cl.d, pkP, Fl.set, Fl.side, segM, overM, sdA, *]
    have e12 : c.F 12 = ⟨80, 5, 6, sdA true true (nx c.p) (nx c.q), sdA true true c.q (nx c.p), 1, false, 0⟩ := by
      rw [Cl.F, e11]; simp [takeM, takeE, take1, take2, take3, Cl.P, Cl.s, Cl.d, pkP, Fl.set, Fl.side, segM, overM, sdA, *]
    have e13 : c.F 13 = ⟨80, 5, 6, sdA true true (nx c.p) (nx c.q), sdA true true c.q (nx c.p), 1, false, 0⟩ := by
      rw [Cl.F, e12]; simp [takeM, takeE, take1, take2, take3, Cl.P, Cl.s, Cl.d, pkP, Fl.set, Fl.side, segM, overM, sdA, *]
    have e14 : c.F 14 = ⟨80, 5, 6, sdA true true (nx c.p) (nx c.q), sdA true true (nx c.q) (nx c.p), 1, true, 1⟩ := by
      rw [Cl.F, e13]; simp [takeM, takeE, take1, take2, take3, Cl.P, Cl.s, Cl.d, pkP, Fl.set, Fl.side, segM, overM, sdA, *]
    have e15 : c.F 15 = ⟨80, 5, 6, sdA true true (nx c.p) (nx c.q), sdA true true (nx c.q) (nx c.p), 1, true, 1⟩ := by
      rw [Cl.F, e14]; simp [takeM, takeE, take1, take2, take3, Cl.P, Cl.s, Cl.d, pkP, Fl.set, Fl.side, segM, overM, sdA, *]
    have e16 : c.F 16 = ⟨80, 5, 6, sdA true true (nx c.p) (nx c.q), sdA true true (nx c.q) (nx c.p), 1, true, 1⟩ := by
      rw [Cl.F, e15]; simp [takeM, takeE, take1, take2, take3, Cl.P, Cl.s, Cl.d, pkP, Fl.set, Fl.side, segM, overM, sdA, *]
    refine ⟨?_, ?_, ?_, ?_, ?_, ?_, ?_, ?_, ?_⟩
    · rw [e8]; simp [stM, sdA]
    · rw [e9]; simp [stM, sdA]
    · rw [e10]; simp [stM, sdA]
    · rw [e11]; simp [stM, sdA]
    · rw [e12]; simp [stM, sdA]
    · rw [e13]; simp [stM, sdA]
    · rw [e14]; simp [stM]
    · rw [e15]; simp [stM]
    · rw [e16]; simp [stM]
end Go.Proofs.YtgknjokjpaodlaaDoor
