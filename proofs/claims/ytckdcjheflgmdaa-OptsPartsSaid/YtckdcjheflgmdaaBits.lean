/-
  Proved here: small laws on the model's bit operations at unsigned kinds: not, and with a mask, or of parts that lie apart. No program in sight.
-/
import Derived.WalkKit
import Derived.Lib.Hide
import Derived.IntWalk
namespace Go.Cul
open Go

theorem nat_not (n x : Nat) (h : x < 2 ^ n) : (2 ^ n - 1) ^^^ x = 2 ^ n - 1 - x := by
  apply Nat.eq_of_testBit_eq
  intro i
  rw [Nat.testBit_xor, Nat.testBit_two_pow_sub_one, show 2 ^ n - 1 - x = 2 ^ n - (x + 1) from by omega, Nat.testBit_two_pow_sub_succ h]
  by_cases hi : i < n
  · simp [hi]
  · have : x.testBit i = false := Nat.testBit_lt_two_pow (Nat.lt_of_lt_of_le h (Nat.pow_le_pow_right (by decide) (by omega)))
    simp [hi, this]

theorem not_u8 (x : Int) (h : 0 ≤ x) (h' : x ≤ 255) : bits BinOp.xor IntKind.u8 IntKind.u8.max x = 255 - x := by
  have := u8_xor 255 x (by decide) (by decide) h (by omega)
  rw [show IntKind.u8.max = (255 : Int) from rfl, this, show (255 : Int).toNat = 2 ^ 8 - 1 from rfl, nat_not 8 x.toNat (by omega)]
  omega
theorem not_u16 (x : Int) (h : 0 ≤ x) (h' : x ≤ 65535) : bits BinOp.xor IntKind.u16 IntKind.u16.max x = 65535 - x := by
  have := u16_xor 65535 x (by decide) (by decide) h (by omega)
  rw [show IntKind.u16.max = (65535 : Int) from rfl, this, show (65535 : Int).toNat = 2 ^ 16 - 1 from rfl, nat_not 16 x.toNat (by omega)]
  omega

/-- 'x | y' where x is a multiple of 2^i and y lies below it. -/
theorem nat_join (i x y : Nat) (hx : x % 2 ^ i = 0) (hy : y < 2 ^ i) : x ||| y = x + y := by
  obtain ⟨q, rfl⟩ : ∃ q, x = 2 ^ i * q := ⟨x / 2 ^ i, by have := Nat.div_add_mod x (2 ^ i); omega⟩
  rw [Nat.two_pow_add_eq_or_of_lt hy]

theorem or8_u16 (x y : Int) (h : 0 ≤ x) (h' : x ≤ 255) (hy : 0 ≤ y) (hy' : y ≤ 255) : bits BinOp.or IntKind.u16 (x * 256) y = x * 256 + y := by
  rw [u16_or _ _ (by omega) (by omega) hy (by omega), nat_join 8 _ _ (by omega) (by omega)]
  omega
theorem mask16_u64 (x : Int) (h : 0 ≤ x) (h' : x ≤ 18446744073709551615) : bits BinOp.and IntKind.u64 x 65535 = x % 65536 := by
  have h := u64_and x 65535 (by omega) (by omega) (by decide) (by decide)
  rw [show (65535 : Int).toNat = 2 ^ 16 - 1 from rfl, Nat.and_two_pow_sub_one_eq_mod] at h
  rw [h]; omega
theorem mask16_u32 (x : Int) (h : 0 ≤ x) (h' : x ≤ 4294967295) : bits BinOp.and IntKind.u32 x 65535 = x % 65536 := by
  have h := u32_and x 65535 (by omega) (by omega) (by decide) (by decide)
  rw [show (65535 : Int).toNat = 2 ^ 16 - 1 from rfl, Nat.and_two_pow_sub_one_eq_mod] at h
  rw [h]; omega
end Go.Cul
