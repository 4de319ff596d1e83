/-
  Proved here: the law PacketSums: whatever the input, it returns true and the input reads as it did.
-/
import Derived.Test.YtbaidlkjbdeceaaPacketSums
import Derived.Test.YtbaidlkjbdeceaaFrame
import Derived.Test.YtbaidlkjbdeceaaShape
namespace Go.Proofs.Ytbaidlkjbdeceaa.packetSums
set_option maxRecDepth 200000
open Go.ChangeShapes Go.WideShapes Go.ChangeAt Go.RowKit Go.Cul
set_option linter.unusedVariables false

theorem own : ownKnob Try.prog.godebug = none := by kernel_rfl
theorem laidOut : laidOutB Try.prog = true := by kernel_rfl

set_option maxRecDepth 100000 in
theorem lifted (os : Os) (started : os.Started) (H : Type) (enc : TypeId × Value → H) :
    ReturnsInHanded {} Try.checked os 3 .any (Rows.packetSumsSpec.pre6 enc Try.prog Try.f3 Rows.packetSumsRow.domain false) (Rows.packetSumsSpec.post enc Try.prog Try.f3 false true false false) := by
  refine returnsInHanded_of_change_sized (C := Try.checked) own started (by kernel_rfl) Try.func3
    (ChangeSpec.witness6 (enc := enc) (C := Try.checked) false ⟨#[], #[.agg #[.int .u8 0, .int .u16 0, .bool false, .int .u8 0, .int .u8 0, .int .u32 0, .int .u32 0, .slice none 0 0, .int .u16 0, .int .u16 0, .int .u32 0, .int .u32 0, .int .u8 0, .int .u16 0, .int .u16 0, .slice none 0 0, .slice none 0 0, .int .u16 0, .int .u16 0, .slice none 0 0, .int .u8 0, .int .u8 0, .int .u32 0, .slice none 0 0]], []⟩ 8 (by kernel_rfl) (by kernel_rfl) (by kernel_rfl) (by kernel_rfl)) ?_
  intro W base args ds gs before hval0 hW hcnd hsz0 _
  have hsz : (DataW.weightsEach Try.prog (Try.f3.params.toList ++ Rows.packetSumsSpec.plain.varTypes Try.prog) (ds ++ gs)).all (· ≤ reachBytes) = true := hsz0
  have hval : ∀ (j : Nat) t v, Try.f3.params[j]? = some t → args[j]? = some v → Value.okWide Try.prog W .any base t v := hval0
  have hW' := hW
  obtain ⟨p, q, hA0, hV, rfl, hfz, hnd⟩ := hW
  have hA : DataW.TrodAll enc Try.prog W 0 (fun _ => true) true Try.f3.params.toList args.toList ds p := hA0
  rw [Try.params3] at hA hval hsz
  obtain ⟨v0, vs0, d0, ds0, p0, q0, hargs, rfl, rfl, h0, r0⟩ := trodAll_cons hA
  obtain ⟨rfl, rfl, rfl⟩ := trodAll_nil r0
  obtain rfl : args = #[v0] := by cases args; simp_all
  obtain ⟨rfl, rfl⟩ := trodVars_none hV
  have k0 := h0
  obtain ⟨cs0, rfl, -⟩ := okWide_struct Try.underlying35 (hval 0 35 v0 rfl rfl)
  have g0 : Reads W (.agg 24 (.more 8 (.agg 8 (.more 1 (.int .u8) (.more 1 (.int .u16) (.more 1 .bool (.more 1 (.int .u8) (.more 1 (.int .u8) (.more 1 (.int .u32) (.more 1 (.int .u32) (.more 1 (.ints .u8 1) .done))))))))) (.more 9 (.agg 9 (.more 1 (.int .u16) (.more 1 (.int .u16) (.more 1 (.int .u32) (.more 1 (.int .u32) (.more 1 (.int .u8) (.more 1 (.int .u16) (.more 1 (.int .u16) (.more 1 (.rows 2 32 (.agg 2 (.more 1 (.int .u8) (.more 1 (.ints .u8 1) .done)))) (.more 1 (.ints .u8 1) .done)))))))))) (.more 3 (.agg 3 (.more 1 (.int .u16) (.more 1 (.int .u16) (.more 1 (.ints .u8 1) .done)))) (.more 4 (.agg 4 (.more 1 (.int .u8) (.more 1 (.int .u8) (.more 1 (.int .u32) (.more 1 (.ints .u8 1) .done))))) .done))))) cs0.toList := open_sh hsz (j := 0) rfl rfl h0 _ rfl (by kernel_rfl)
  clear hA0 hval0
  refine (walk W cs0 g0).mono fun e W' ⟨he, bel⟩ => ?_
  subst he
  exact ⟨_, rfl, _, _, _, [], _, [], hW', trodAll_mk1 (shut_bool Try.underlying4 _), (trodAll_cons_mk (Below.trod laidOut (by kernel_rfl) (of_decide_eq_true (by kernel_rfl)) k0 bel (lt_of_trod k0)) trodAll_mk0), rfl, bel.frame _, fun h => by cases h⟩

theorem proved : Rows.PacketSumsSaid :=
  OpenClaim.holds_of_wide 3 Try.f3 rfl rfl rfl rfl rfl rfl rfl ⟨rfl, rfl, rfl, rfl, rfl⟩ rfl rfl rfl rfl rfl (by kernel_rfl) Try.func3 (by kernel_rfl)
    (of_decide_eq_true (by kernel_rfl)) (by unfold Func.isWrapper; first | (rw [if_pos (by decide +kernel)]; kernel_rfl) | (rw [if_neg (by decide +kernel)]; exact ⟨rfl, rfl⟩))
    (fun os started H enc _ => lifted os started H enc)
#print axioms proved
end Go.Proofs.Ytbaidlkjbdeceaa.packetSums
