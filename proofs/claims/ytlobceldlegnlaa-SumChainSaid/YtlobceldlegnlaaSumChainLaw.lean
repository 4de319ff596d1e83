/-
  Proved here: the law SumChain: whatever the input, it returns true and the input reads as it did.
-/
import Derived.Test.YtlobceldlegnlaaSumChain
import Derived.Test.YtlobceldlegnlaaFrame
namespace Go.Proofs.Ytlobceldlegnlaa.sumChain
open Go.ChangeShapes Go.WideShapes Go.ChangeAt Go.RowKit Go.Cul
set_option linter.unusedVariables false

theorem own : ownKnob Try.prog.godebug = none := by kernel_rfl
theorem laidOut : laidOutB Try.prog = true := by kernel_rfl

set_option maxRecDepth 100000 in
theorem lifted (os : Os) (started : os.Started) (H : Type) (enc : TypeId × Value → H) :
    ReturnsInHanded {} Try.checked os 6 .any (Rows.sumChainSpec.pre6 enc Try.prog Try.f6 Rows.sumChainRow.domain false) (Rows.sumChainSpec.post enc Try.prog Try.f6 false true false false) := by
  refine returnsInHanded_of_change_sized (C := Try.checked) own started (by kernel_rfl) Try.func6
    (ChangeSpec.witness6 (enc := enc) (C := Try.checked) false ⟨#[], #[.int .u16 0, .slice none 0 0, .slice none 0 0, .slice none 0 0, .slice none 0 0], []⟩ 8 (by kernel_rfl) (by kernel_rfl) (by kernel_rfl) (by kernel_rfl)) ?_
  intro W base args ds gs before hval0 hW hcnd hsz0 _
  have hsz : (DataW.weightsEach Try.prog (Try.f6.params.toList ++ Rows.sumChainSpec.plain.varTypes Try.prog) (ds ++ gs)).all (· ≤ reachBytes) = true := hsz0
  have hval : ∀ (j : Nat) t v, Try.f6.params[j]? = some t → args[j]? = some v → Value.okWide Try.prog W .any base t v := hval0
  have hW' := hW
  obtain ⟨p, q, hA0, hV, rfl, hfz, hnd⟩ := hW
  have hA : DataW.TrodAll enc Try.prog W 0 (fun _ => true) true Try.f6.params.toList args.toList ds p := hA0
  rw [Try.params6] at hA hval hsz
  obtain ⟨v0, vs0, d0, ds0, p0, q0, hargs, rfl, rfl, h0, r0⟩ := trodAll_cons hA
  obtain ⟨v1, vs1, d1, ds1, p1, q1, rfl, rfl, rfl, h1, r1⟩ := trodAll_cons r0
  obtain ⟨v2, vs2, d2, ds2, p2, q2, rfl, rfl, rfl, h2, r2⟩ := trodAll_cons r1
  obtain ⟨v3, vs3, d3, ds3, p3, q3, rfl, rfl, rfl, h3, r3⟩ := trodAll_cons r2
  obtain ⟨v4, vs4, d4, ds4, p4, q4, rfl, rfl, rfl, h4, r4⟩ := trodAll_cons r3
  obtain ⟨rfl, rfl, rfl⟩ := trodAll_nil r4
  obtain rfl : args = #[v0, v1, v2, v3, v4] := by cases args; simp_all
  obtain ⟨rfl, rfl⟩ := trodVars_none hV
  have k0 := h0
  obtain ⟨a0, rfl, rfl, rfl, w0⟩ := open_int Try.underlying25 (hval 0 25 v0 rfl rfl) h0
  have k1 := h1
  obtain ⟨l1, sp1, hr1, hb1, hd1⟩ := open_rd Try.underlying31 Try.underlying25 (by kernel_rfl) (okWide_slice Try.underlying31 (hval 1 31 v1 rfl rfl)) h1
  have hn1 := sized_ints hsz hd1 (j := 1) (t := 31) (e := 25) rfl rfl Try.underlying31 (n := 2) (by kernel_rfl)
  have k2 := h2
  obtain ⟨l2, sp2, hr2, hb2, hd2⟩ := open_rd Try.underlying31 Try.underlying25 (by kernel_rfl) (okWide_slice Try.underlying31 (hval 2 31 v2 rfl rfl)) h2
  have hn2 := sized_ints hsz hd2 (j := 2) (t := 31) (e := 25) rfl rfl Try.underlying31 (n := 2) (by kernel_rfl)
  have k3 := h3
  obtain ⟨l3, sp3, hr3, hb3, hd3⟩ := open_rd Try.underlying23 Try.underlying5 (by kernel_rfl) (okWide_slice Try.underlying23 (hval 3 23 v3 rfl rfl)) h3
  have hn3 := sized_ints hsz hd3 (j := 3) (t := 23) (e := 5) rfl rfl Try.underlying23 (n := 1) (by kernel_rfl)
  have k4 := h4
  obtain ⟨l4, sp4, hr4, hb4, hd4⟩ := open_rd Try.underlying23 Try.underlying5 (by kernel_rfl) (okWide_slice Try.underlying23 (hval 4 23 v4 rfl rfl)) h4
  have hn4 := sized_ints hsz hd4 (j := 4) (t := 23) (e := 5) rfl rfl Try.underlying23 (n := 1) (by kernel_rfl)
  clear hA0 hval0
  refine (walk W a0 (wf_u16 w0) v1 l1 hr1 (fun x hx => wf_u16 (hb1 x hx)) hn1 v2 l2 hr2 (fun x hx => wf_u16 (hb2 x hx)) hn2 v3 l3 hr3 (byt_of_wf hb3) hn3 v4 l4 hr4 (byt_of_wf hb4) hn4).mono fun e W' ⟨he, bel⟩ => ?_
  subst he
  exact ⟨_, rfl, _, _, _, [], _, [], hW', trodAll_mk1 (shut_bool Try.underlying4 _), (trodAll_cons_mk (Below.trod laidOut (by kernel_rfl) (of_decide_eq_true (by kernel_rfl)) k0 bel (lt_of_trod k0)) (trodAll_cons_mk (Below.trod laidOut (by kernel_rfl) (of_decide_eq_true (by kernel_rfl)) k1 bel (lt_of_trod k1)) (trodAll_cons_mk (Below.trod laidOut (by kernel_rfl) (of_decide_eq_true (by kernel_rfl)) k2 bel (lt_of_trod k2)) (trodAll_cons_mk (Below.trod laidOut (by kernel_rfl) (of_decide_eq_true (by kernel_rfl)) k3 bel (lt_of_trod k3)) (trodAll_cons_mk (Below.trod laidOut (by kernel_rfl) (of_decide_eq_true (by kernel_rfl)) k4 bel (lt_of_trod k4)) trodAll_mk0))))), rfl, bel.frame _, fun h => by cases h⟩

theorem proved : Rows.SumChainSaid :=
  OpenClaim.holds_of_wide 6 Try.f6 rfl rfl rfl rfl rfl rfl rfl ⟨rfl, rfl, rfl, rfl, rfl⟩ rfl rfl rfl rfl rfl (by kernel_rfl) Try.func6 (by kernel_rfl)
    (of_decide_eq_true (by kernel_rfl)) (by unfold Func.isWrapper; first | (rw [if_pos (by decide +kernel)]; kernel_rfl) | (rw [if_neg (by decide +kernel)]; exact ⟨rfl, rfl⟩))
    (fun os started H enc _ => lifted os started H enc)
#print axioms proved
end Go.Proofs.Ytlobceldlegnlaa.sumChain
