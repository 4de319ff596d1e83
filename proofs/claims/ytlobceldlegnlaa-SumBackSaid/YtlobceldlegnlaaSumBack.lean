/-
  Proved here: the law SumBack: for every field and every two numbers of 32 bits it returns true. No condition.
-/
import Derived.Test.YtlobceldlegnlaaSumWakes
import Derived.OpenShut
namespace Go.Proofs.Ytlobceldlegnlaa.sumBack
open Go.ChangeShapes Go.WideShapes Go.ChangeAt Go.RowKit Go.Cul
set_option linter.unusedVariables false



theorem walk (f : Int) (hf : 0 ≤ f ∧ f ≤ 65535) (a : Int) (ha : 0 ≤ a ∧ a ≤ 4294967295) (b : Int) (hb : 0 ≤ b ∧ b ≤ 4294967295) (w : World) :
    Calls Try.prog 7 #[.int .u16 f, .int .u32 a, .int .u32 b] w fun e w' => e = .returned (.bool true) ∧ Ext w w' := by
  have w1 : Hid (∀ w, Calls Try.prog 20 #[.int .u16 f, .int .u16 (a % 65536), .int .u16 (b % 65536)] w fun e w' => e = .returned (.int .u16 (cword f (a % 65536) (b % 65536))) ∧ w' = w) :=
    fun w => word_any _ _ _ w hf.1 hf.2 (by omega) (by omega) (by omega) (by omega)
  have a1 : Hid (0 ≤ cword f (a % 65536) (b % 65536) ∧ cword f (a % 65536) (b % 65536) ≤ 65535) := cword_bd hf.1 hf.2 (by omega) (by omega) (by omega)
  have a2 := Lib.hid (clong_bd hf ha hb)
  have la : Hid (0 ≤ a % 65536 ∧ a % 65536 ≤ 65535) := by exact ⟨by omega, by omega⟩
  have lb : Hid (0 ≤ b % 65536 ∧ b % 65536 ≤ 65535) := by exact ⟨by omega, by omega⟩
  have l1 := Lib.hid (like_same hf la.out)
  have l2 := Lib.hid (like_back hf la.out lb.out)
  have l3 := Lib.hid (like_long_back hf ha hb)
  have l4 := Lib.hid (like_long_words hf ha hb)
  go_enter Try.func7, Try.ntmps7
  go_wp2_with fail
  simp only [IntKind.wrap_u16]
  refine (w1.out _).mono ?_
  rintro e w' ⟨rfl, rfl⟩
  go_wp2_with fail
  refine (long_any _ _ _ _ hf.1 hf.2 ha.1 ha.2 hb.1 hb.2).mono ?_
  rintro e w' ⟨rfl, rfl⟩
  go_wp2_with fail
  refine (word_any _ _ _ _ hf.1 hf.2 la.out.1 la.out.2 la.out.1 la.out.2).mono ?_
  rintro e w' ⟨rfl, rfl⟩
  go_wp2_with fail
  refine (like_any _ _ _).mono ?_
  rintro e w' ⟨rfl, rfl⟩
  rw [l1.out]
  go_wp2_with fail
  refine (word_any _ _ _ _ a1.out.1 a1.out.2 lb.out.1 lb.out.2 la.out.1 la.out.2).mono ?_
  rintro e w' ⟨rfl, rfl⟩
  go_wp2_with fail
  refine (like_any _ _ _).mono ?_
  rintro e w' ⟨rfl, rfl⟩
  rw [l2.out]
  go_wp2_with fail
  refine (long_any _ _ _ _ a2.out.1 a2.out.2 hb.1 hb.2 ha.1 ha.2).mono ?_
  rintro e w' ⟨rfl, rfl⟩
  go_wp2_with fail
  refine (like_any _ _ _).mono ?_
  rintro e w' ⟨rfl, rfl⟩
  rw [l3.out]
  go_wp2_with fail
  simp only [IntKind.wrap_u16]
  refine (w1.out _).mono ?_
  rintro e w' ⟨rfl, rfl⟩
  go_wp2_with fail
  refine (word_any _ _ _ _ a1.out.1 a1.out.2 (by omega) (by omega) (by omega) (by omega)).mono ?_
  rintro e w' ⟨rfl, rfl⟩
  go_wp2_with fail
  refine (like_any _ _ _).mono ?_
  rintro e w' ⟨rfl, rfl⟩
  rw [l4.out]
  go_wp2_with fail
  refine (wakes_any _).mono ?_
  rintro e w' ⟨rfl, hx⟩
  go_wp2
  go_ret
  exact ⟨rfl, hx⟩
end Go.Proofs.Ytlobceldlegnlaa.sumBack
