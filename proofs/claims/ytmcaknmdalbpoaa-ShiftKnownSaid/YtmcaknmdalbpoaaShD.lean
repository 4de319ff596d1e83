/-
  Proved here: the plain law of ShiftBack: there and back, and two shifts one behind the other.
-/
import Derived.Test.YtmcaknmdalbpoaaShC
namespace Go.Proofs.Ytmcaknmdalbpoaa
set_option maxRecDepth 16000
open Go Go.Cul
set_option linter.unusedVariables false

def backX (X : Shf) : Shf := ⟨(-X.sq) % 4294967296, (-X.ak) % 4294967296, true, 0, 0, 1460⟩
def bothX (X Y : Shf) : Shf := ⟨(X.sq + Y.sq) % 4294967296, (X.ak + Y.ak) % 4294967296, true, 0, 0, 1460⟩
theorem backX_ok (X : Shf) : (backX X).ok := ⟨by show 0 ≤ (-X.sq) % 4294967296 ∧ (-X.sq) % 4294967296 ≤ 4294967295; omega, by show 0 ≤ (-X.ak) % 4294967296 ∧ (-X.ak) % 4294967296 ≤ 4294967295; omega,
  by show -9223372036854775808 ≤ (0 : Int) ∧ (0 : Int) ≤ 9223372036854775807; decide, by show -9223372036854775808 ≤ (0 : Int) ∧ (0 : Int) ≤ 9223372036854775807; decide, by show -9223372036854775808 ≤ (1460 : Int) ∧ (1460 : Int) ≤ 9223372036854775807; decide⟩
theorem bothX_ok (X Y : Shf) : (bothX X Y).ok := ⟨by show 0 ≤ (X.sq + Y.sq) % 4294967296 ∧ (X.sq + Y.sq) % 4294967296 ≤ 4294967295; omega, by show 0 ≤ (X.ak + Y.ak) % 4294967296 ∧ (X.ak + Y.ak) % 4294967296 ≤ 4294967295; omega,
  by show -9223372036854775808 ≤ (0 : Int) ∧ (0 : Int) ≤ 9223372036854775807; decide, by show -9223372036854775808 ≤ (0 : Int) ∧ (0 : Int) ≤ 9223372036854775807; decide, by show -9223372036854775808 ≤ (1460 : Int) ∧ (1460 : Int) ≤ 9223372036854775807; decide⟩

structure BackL (X Y : Shf) (S P1 P2 P3 P4 : Sg) : Prop where
  o1 : overL X S = ([P1], 0)
  o2 : overL (backX X) P1 = ([P2], 0)
  o3 : overL Y P1 = ([P3], 0)
  o4 : overL (bothX X Y) S = ([P4], 0)
  k1 : P1.ok
  k2 : P2.ok
  k3 : P3.ok
  k4 : P4.ok
  n1 : P1.os.length ≤ 50000
  d1 : ∀ o ∈ P1.os, o.2.length ≤ 1000000
  l1 : P1.data.length ≤ 1000000
  sq2 : P2.seq = S.seq
  ak2 : P2.ack = S.ack
  sq3 : P3.seq = P4.seq
  ak3 : P3.ack = P4.ack
  os3 : P3.os = P4.os
  sk : osacks P2.os = osacks S.os

theorem back_laws {X Y : Shf} {S : Sg} (hXm : X.may = true) (hXs : X.mss = 1460 ∧ X.sack = true) (hYm : Y.may = true) (hYs : Y.mss = 1460 ∧ Y.sack = true) (hS : S.ok) (hf2 : fl S.f 2 = false) (hf16 : fl S.f 16 = true) (hp : (oput S.os).2 = 0) (hd : S.data.length ≤ 500)
    (hn : S.os.length ≤ 20) (hdl : ∀ o ∈ S.os, o.2.length ≤ 60) :
    BackL X Y S (overS X S) (overS (backX X) (overS X S)) (overS Y (overS X S)) (overS (bothX X Y) S) := by
  have hB : (backX X).may = true := rfl
  have hC : (bothX X Y).may = true := rfl
  have k1 := overS_ok (x := X) hS
  have p1 : (oput (overS X S).os).2 = 0 := (sov_good hp).1
  have f1 : fl (overS X S).f 2 = false := hf2
  have g1 : fl (overS X S).f 16 = true := hf16
  have d1 : (overS X S).data.length ≤ 500 := hd
  have a1 : (overS X S).ack = (S.ack + X.ak) % 4294967296 := by show (if fl S.f 16 = true then _ else _) = _; rw [if_pos hf16]
  have s1 : (overS X S).seq = (S.seq + X.sq) % 4294967296 := rfl
  have q1 := hS.seq
  have q2 := hS.ack
  refine ⟨?_, ?_, ?_, ?_, k1, overS_ok k1, overS_ok k1, overS_ok hS, ?_, ?_, by omega, ?_, ?_, ?_, ?_, ?_, ?_⟩
  · rw [one_piece hXm hXs.1 hp hf2 hd, piece_whole hp hS.urg.1 hS.seq]
  · rw [one_piece hB rfl p1 f1 d1, piece_whole p1 k1.urg.1 k1.seq]
  · rw [one_piece hYm hYs.1 p1 f1 d1, piece_whole p1 k1.urg.1 k1.seq]
  · rw [one_piece hC rfl hp hf2 hd, piece_whole hp hS.urg.1 hS.seq]
  · show (sov X S.os).length ≤ 50000
    have := sovG_len X S.os false
    unfold sov
    omega
  · show ∀ o ∈ sov X S.os, _
    exact sov_dl (fun o ho => by have := hdl o ho; omega)
  · show ((overS X S).seq + (backX X).sq) % 4294967296 = S.seq
    rw [s1]
    show ((S.seq + X.sq) % 4294967296 + (-X.sq) % 4294967296) % 4294967296 = S.seq
    omega
  · show (if fl (overS X S).f 16 = true then ((overS X S).ack + (backX X).ak) % 4294967296 else 0) = S.ack
    rw [if_pos g1, a1]
    show ((S.ack + X.ak) % 4294967296 + (-X.ak) % 4294967296) % 4294967296 = S.ack
    omega
  · show ((overS X S).seq + Y.sq) % 4294967296 = (S.seq + (bothX X Y).sq) % 4294967296
    rw [s1]
    show ((S.seq + X.sq) % 4294967296 + Y.sq) % 4294967296 = (S.seq + (X.sq + Y.sq) % 4294967296) % 4294967296
    omega
  · show (if fl (overS X S).f 16 = true then ((overS X S).ack + Y.ak) % 4294967296 else 0) = (if fl S.f 16 = true then (S.ack + (bothX X Y).ak) % 4294967296 else 0)
    rw [if_pos g1, if_pos hf16, a1]
    show ((S.ack + X.ak) % 4294967296 + Y.ak) % 4294967296 = (S.ack + (X.ak + Y.ak) % 4294967296) % 4294967296
    omega
  · show sovG Y false (sovG X false S.os) = sovG (bothX X Y) false S.os
    refine sovG_two hXs.2 hYs.2 rfl ?_ _ _
    show (X.ak + Y.ak) % 4294967296 % 4294967296 = _
    omega
  · show osacks (sovG (backX X) false (sovG X false S.os)) = osacks S.os
    rw [sovG_two (z := ⟨0, 0, true, 0, 0, 1460⟩) hXs.2 rfl rfl (by show (0 : Int) % 4294967296 = (X.ak + (-X.ak) % 4294967296) % 4294967296; omega)]
    exact osacks_zero rfl rfl hS.os
end Go.Proofs.Ytmcaknmdalbpoaa
