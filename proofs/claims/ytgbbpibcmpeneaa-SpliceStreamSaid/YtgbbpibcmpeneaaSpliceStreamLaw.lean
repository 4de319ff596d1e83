/-
  Proved here: the law SpliceStream: whatever the input, it returns true and the input reads as it did.
-/
import Derived.Test.YtgbbpibcmpeneaaStrE
import Derived.Test.YtgbbpibcmpeneaaFrame
import Derived.Test.YtgbbpibcmpeneaaShape
namespace Go.Proofs.Ytgbbpibcmpeneaa.spliceStream
set_option maxRecDepth 200000
open Go.ChangeShapes Go.WideShapes Go.ChangeAt Go.RowKit Go.Cul
set_option linter.unusedVariables false

theorem okWide_array {P : Program} {w : World} {r : Reach} {base : Nat} {t e : TypeId} {n : Nat} {v : Value} (ht : P.underlying t = some (.array n e)) (h : Value.okWide P w r base t v) : ∃ cs, v = .agg cs ∧ cs.size = P.cellsOf t := by
  cases v <;> simp_all [Value.okWide]
theorem own : ownKnob Try.prog.godebug = none := by kernel_rfl
theorem laidOut : laidOutB Try.prog = true := by kernel_rfl

set_option maxRecDepth 100000 in
theorem lifted (os : Os) (started : os.Started) (H : Type) (enc : TypeId × Value → H) :
    ReturnsInHanded {} Try.checked os 3 .any (Rows.spliceStreamSpec.pre6 enc Try.prog Try.f3 Rows.spliceStreamRow.domain false) (Rows.spliceStreamSpec.post enc Try.prog Try.f3 false true false false) := by
  refine returnsInHanded_of_change_sized (C := Try.checked) own started (by kernel_rfl) Try.func3
    (ChangeSpec.witness6 (enc := enc) (C := Try.checked) false ⟨#[], #[.agg #[.int .u32 0, .int .u32 0, .int .u16 0, .int .i64 0, .bool false, .int .u32 0, .int .u32 0, .int .u32 0, .int .u16 0, .int .i64 0, .bool false, .int .u32 0, .int .u16 0, .int .u16 0, .int .u32 0, .int .u16 0, .int .i64 0, .bool false, .int .i64 0, .int .u64 0, .int .i64 0, .int .u16 0, .int .u16 0, .int .u32 0, .int .u16 0, .int .i64 0, .bool false, .int .i64 0, .int .u64 0, .int .i64 0, .int .i64 0], .agg #[.slice none 0 0, .slice none 0 0], .slice none 0 0], []⟩ 8 (by kernel_rfl) (by kernel_rfl) (by kernel_rfl) (by kernel_rfl)) ?_
  intro W base args ds gs before hval0 hW hcnd hsz0 _
  have hsz : (DataW.weightsEach Try.prog (Try.f3.params.toList ++ Rows.spliceStreamSpec.plain.varTypes Try.prog) (ds ++ gs)).all (· ≤ reachBytes) = true := hsz0
  have hval : ∀ (j : Nat) t v, Try.f3.params[j]? = some t → args[j]? = some v → Value.okWide Try.prog W .any base t v := hval0
  have hW' := hW
  obtain ⟨p, q, hA0, hV, rfl, hfz, hnd⟩ := hW
  have hA : DataW.TrodAll enc Try.prog W 0 (fun _ => true) true Try.f3.params.toList args.toList ds p := hA0
  rw [Try.params3] at hA hval hsz
  obtain ⟨v0, vs0, d0, ds0, p0, q0, hargs, rfl, rfl, h0, r0⟩ := trodAll_cons hA
  obtain ⟨v1, vs1, d1, ds1, p1, q1, rfl, rfl, rfl, h1, r1⟩ := trodAll_cons r0
  obtain ⟨v2, vs2, d2, ds2, p2, q2, rfl, rfl, rfl, h2, r2⟩ := trodAll_cons r1
  obtain ⟨rfl, rfl, rfl⟩ := trodAll_nil r2
  obtain rfl : args = #[v0, v1, v2] := by cases args; simp_all
  obtain ⟨rfl, rfl⟩ := trodVars_none hV
  have k0 := h0
  obtain ⟨cs0, rfl, -⟩ := okWide_struct Try.underlying30 (hval 0 30 v0 rfl rfl)
  have g0 : Reads W (.agg 31 (.more 6 (.agg 6 (.more 1 (.int .u32) (.more 1 (.int .u32) (.more 1 (.int .u16) (.more 1 (.int .i64) (.more 1 .bool (.more 1 (.int .u32) .done))))))) (.more 6 (.agg 6 (.more 1 (.int .u32) (.more 1 (.int .u32) (.more 1 (.int .u16) (.more 1 (.int .i64) (.more 1 .bool (.more 1 (.int .u32) .done))))))) (.more 9 (.agg 9 (.more 1 (.int .u16) (.more 1 (.int .u16) (.more 1 (.int .u32) (.more 1 (.int .u16) (.more 1 (.int .i64) (.more 1 .bool (.more 1 (.int .i64) (.more 1 (.int .u64) (.more 1 (.int .i64) .done)))))))))) (.more 9 (.agg 9 (.more 1 (.int .u16) (.more 1 (.int .u16) (.more 1 (.int .u32) (.more 1 (.int .u16) (.more 1 (.int .i64) (.more 1 .bool (.more 1 (.int .i64) (.more 1 (.int .u64) (.more 1 (.int .i64) .done)))))))))) (.more 1 (.int .i64) .done)))))) cs0.toList := open_sh hsz (j := 0) rfl rfl h0 _ rfl (by kernel_rfl)
  have k1 := h1
  obtain ⟨cs1, rfl, -⟩ := okWide_array Try.underlying32 (hval 1 32 v1 rfl rfl)
  have g1 : Reads W (.arr 2 1 (.ints .u8 1)) cs1.toList := open_sh hsz (j := 1) rfl rfl h1 _ rfl (by kernel_rfl)
  have k2 := h2
  obtain ⟨x2, y2, z2, rfl⟩ := okWide_slice Try.underlying33 (hval 2 33 v2 rfl rfl)
  have g2 : Reads W (.rows 6 12 (.agg 6 (.more 1 .bool (.more 1 (.int .u16) (.more 1 (.int .u16) (.more 1 (.int .u16) (.more 1 (.int .u16) (.more 1 (.int .u8) .done)))))))) [.slice x2 y2 z2] := open_sh hsz (j := 2) rfl rfl h2 _ rfl (by kernel_rfl)
  clear hA0 hval0
  refine (walk W cs0 g0 cs1 g1 (.slice x2 y2 z2) g2).mono fun e W' ⟨he, bel⟩ => ?_
  subst he
  exact ⟨_, rfl, _, _, _, [], _, [], hW', trodAll_mk1 (shut_bool Try.underlying4 _), (trodAll_cons_mk (Below.trod laidOut (by kernel_rfl) (of_decide_eq_true (by kernel_rfl)) k0 bel (lt_of_trod k0)) (trodAll_cons_mk (Below.trod laidOut (by kernel_rfl) (of_decide_eq_true (by kernel_rfl)) k1 bel (lt_of_trod k1)) (trodAll_cons_mk (Below.trod laidOut (by kernel_rfl) (of_decide_eq_true (by kernel_rfl)) k2 bel (lt_of_trod k2)) trodAll_mk0))), rfl, bel.frame _, fun h => by cases h⟩

theorem proved : Rows.SpliceStreamSaid :=
  OpenClaim.holds_of_wide 3 Try.f3 rfl rfl rfl rfl rfl rfl rfl ⟨rfl, rfl, rfl, rfl, rfl⟩ rfl rfl rfl rfl rfl (by kernel_rfl) Try.func3 (by kernel_rfl)
    (of_decide_eq_true (by kernel_rfl)) (by unfold Func.isWrapper; first | (rw [if_pos (by decide +kernel)]; kernel_rfl) | (rw [if_neg (by decide +kernel)]; exact ⟨rfl, rfl⟩))
    (fun os started H enc _ => lifted os started H enc)
#print axioms proved
end Go.Proofs.Ytgbbpibcmpeneaa.spliceStream
