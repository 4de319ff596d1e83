/-
  Proved here: what seq's Less, Add, Within, tcp's Length and plain's counts compute. No condition but the numbers' own bounds.
-/
import Derived.Test.YtgbbpibcmpeneaaRows
import Derived.Test.YtgbbpibcmpeneaaCore
import Derived.WalkSpells
import Derived.RegionTactic
import Derived.Handy
import Derived.Deep.DeepMust
namespace Go.Proofs.Ytgbbpibcmpeneaa
set_option maxRecDepth 200000
open Go.ChangeShapes Go.WideShapes Go.ChangeAt Go.RowKit Go.Cul
set_option linter.unusedVariables false

def sLess (a b : Int) : Bool := decide (0 < (b - a) % 4294967296 ∧ (b - a) % 4294967296 < 2147483648)
def sWithin (x f l : Int) : Bool := decide ((x - f) % 4294967296 < l)
/-- Bit k (1, 2, 4 ..) of a byte. -/
def fl (x k : Int) : Bool := decide (x / k % 2 = 1)

theorem less_any (a b : Int) (w : World) (ha : 0 ≤ a ∧ a ≤ 4294967295) (hb : 0 ≤ b ∧ b ≤ 4294967295) :
    Calls Try.prog 35 #[.int .u32 a, .int .u32 b] w fun e w' => e = .returned (.bool (sLess a b)) ∧ w' = w := by
  go_enter Try.func35, Try.ntmps35
  go_wp2
  go_ret
  refine ⟨ret_bool ?_, rfl⟩
  unfold sLess wrap32
  have : (b - a) % 4294967296 < 4294967296 := Int.emod_lt_of_pos _ (by decide)
  have : 0 ≤ (b - a) % 4294967296 := Int.emod_nonneg _ (by decide)
  generalize (b - a) % 4294967296 = d at *
  congr 1
  rw [eq_iff_iff]
  omega

theorem sadd_any (a n : Int) (w : World) :
    Calls Try.prog 39 #[.int .u32 a, .int .i64 n] w fun e w' => e = .returned (.int .u32 ((a + n) % 4294967296)) ∧ w' = w := by
  go_enter Try.func39, Try.ntmps39
  go_wp2
  go_ret
  exact ⟨ret_int (by omega), rfl⟩

theorem within_any (x f l : Int) (w : World) :
    Calls Try.prog 34 #[.int .u32 x, .int .u32 f, .int .u32 l] w fun e w' => e = .returned (.bool (sWithin x f l)) ∧ w' = w := by
  go_enter Try.func34, Try.ntmps34
  go_wp2
  go_ret
  exact ⟨rfl, rfl⟩

/-- A side: has it sent, acknowledged, ended; what, behind what, its window. -/
structure Sd where
  sent : Bool
  acks : Bool
  ended : Bool
  acked : Int
  behind : Int
  win : Int

def Sd.v (s : Sd) : Value := .agg #[.bool s.sent, .bool s.acks, .bool s.ended, .int .u32 s.acked, .int .u32 s.behind, .int .u16 s.win]
def sCounts (q : Int) (o : Sd) : Bool := !o.acks || (q == o.acked) || sWithin q o.acked o.win

/-- A byte's bit, by the machine's 'and'. -/
theorem and_pow (f : Int) (hf : 0 ≤ f ∧ f ≤ 255) (i : Nat) (hi : i < 8) : bits BinOp.and IntKind.u8 f (2 ^ i : Nat) = if fl f (2 ^ i : Nat) then ((2 ^ i : Nat) : Int) else 0 := by
  obtain ⟨n, rfl⟩ := Int.eq_ofNat_of_zero_le hf.1
  have hn : n < 256 := by omega
  clear hf
  revert i n
  decide +kernel
theorem and1 (f : Int) (hf : 0 ≤ f ∧ f ≤ 255) : bits BinOp.and IntKind.u8 f 1 = if fl f 1 then 1 else 0 := and_pow f hf 0 (by decide)
theorem and2 (f : Int) (hf : 0 ≤ f ∧ f ≤ 255) : bits BinOp.and IntKind.u8 f 2 = if fl f 2 then 2 else 0 := and_pow f hf 1 (by decide)
theorem and4 (f : Int) (hf : 0 ≤ f ∧ f ≤ 255) : bits BinOp.and IntKind.u8 f 4 = if fl f 4 then 4 else 0 := and_pow f hf 2 (by decide)
theorem and16 (f : Int) (hf : 0 ≤ f ∧ f ≤ 255) : bits BinOp.and IntKind.u8 f 16 = if fl f 16 then 16 else 0 := and_pow f hf 4 (by decide)

def sLen (n f : Int) : Int := (n + (if fl f 2 then 1 else 0) + (if fl f 1 then 1 else 0)) % 4294967296

theorem length_any (sp dp q ack win ug op : Value) (f : Int) (a : Option Addr) (n c : Nat) (w : World) (hf : 0 ≤ f ∧ f ≤ 255) :
    Calls Try.prog 33 #[.agg #[sp, dp, q, ack, .int .u8 f, win, ug, op, .slice a n c]] w fun e w' => e = .returned (.int .u32 (sLen n f)) ∧ Ext w w' := by
  have h1 := and1 f hf
  have h2 := and2 f hf
  unfold sLen
  generalize fl f 1 = b1 at *
  generalize fl f 2 = b2 at *
  have i0 : ∀ w, Sem.run Try.prog (Instr.index 101 (.agg #[.int .u8 2, .int .u8 1]) (.int .i64 0)) w = .ok (.int .u8 2) w := fun w => by kernel_rfl
  have i1 : ∀ w, Sem.run Try.prog (Instr.index 101 (.agg #[.int .u8 2, .int .u8 1]) (.int .i64 1)) w = .ok (.int .u8 1) w := fun w => by kernel_rfl
  go_enter Try.func33, Try.ntmps33
  cases b1 <;> cases b2 <;> simp only [if_true, if_false, Bool.false_eq_true] at h1 h2 ⊢ <;>
  · go_wp2
    refine wp_loop_rounds 3 ?_
    rw [rounds_succ]
    go_wp2
    rw [rounds_succ]
    go_wp2
    rw [rounds_succ]
    go_wp2
    go_ret
    exact ⟨ret_int (by omega), Ext.new _ _⟩
end Go.Proofs.Ytgbbpibcmpeneaa
