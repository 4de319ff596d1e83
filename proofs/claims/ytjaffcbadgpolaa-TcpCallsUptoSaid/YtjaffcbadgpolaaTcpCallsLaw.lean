/-
  Proved here: the law TcpCalls: whatever the input (what is read being of bulk at most 1048576), it returns true and the input reads as it did.
-/
import Derived.Test.YtjaffcbadgpolaaTcpCalls
import Derived.Test.YtjaffcbadgpolaaFrame
import Derived.Test.YtjaffcbadgpolaaShape
import Derived.Test.YtjaffcbadgpolaaBulkS
import Derived.Deep.CondSized
namespace Go.Proofs.Ytjaffcbadgpolaa.tcpCalls
open Go.ChangeShapes Go.WideShapes Go.ChangeAt Go.RowKit Go.Cul
set_option linter.unusedVariables false

theorem own : ownKnob Try.prog.godebug = none := by kernel_rfl
theorem laidOut : laidOutB Try.prog = true := by kernel_rfl

set_option maxRecDepth 100000 in
theorem lifted (os : Os) (started : os.Started) (H : Type) (enc : TypeId × Value → H) (F : Stop.Interp) :
    ReturnsInHanded {} Try.checked os 6 .any ((Rows.OpenSpec.upto Rows.tcpCallsSpec).pre6 enc Try.prog Try.f6 Rows.tcpCallsUptoRow.domain false) (((Rows.OpenSpec.upto Rows.tcpCallsSpec).at F).post enc Try.prog Try.f6 false true false false) := by
  refine returnsInHanded_of_cond_sized (C := Try.checked) (s := (Rows.OpenSpec.upto Rows.tcpCallsSpec)) (k := Rows.uptoSmall) rfl own started (by kernel_rfl) Try.func6
    (OpenSpec.witness (enc := enc) (C := Try.checked) (s := (Rows.OpenSpec.upto Rows.tcpCallsSpec)) (k := Rows.uptoSmall) rfl false ⟨#[], #[.int .u32 0, .int .u32 0, .agg #[.int .u16 0, .int .u16 0, .int .u32 0, .int .u32 0, .int .u8 0, .int .u16 0, .int .u16 0, .slice none 0 0, .slice none 0 0], .agg #[.int .u16 0, .int .u16 0, .int .u32 0, .int .u32 0, .int .u8 0, .int .u16 0, .int .u16 0, .slice none 0 0, .slice none 0 0], .slice none 0 0], []⟩ 8 (by kernel_rfl) (by kernel_rfl) (by kernel_rfl)
      (x := ([.lit (.int .u32 0), .lit (.int .u32 0), .agg [.lit (.int .u16 0), .lit (.int .u16 0), .lit (.int .u32 0), .lit (.int .u32 0), .lit (.int .u8 0), .lit (.int .u16 0), .lit (.int .u16 0), .nil, .nil], .agg [.lit (.int .u16 0), .lit (.int .u16 0), .lit (.int .u32 0), .lit (.int .u32 0), .lit (.int .u8 0), .lit (.int .u16 0), .lit (.int .u16 0), .nil, .nil], .nil], [], [])) (by kernel_rfl) rfl (by kernel_rfl)) ?_
  intro W base args ds gs before hval0 hW _ hk hsz0 _
  have hsz : (DataW.weightsEach Try.prog (Try.f6.params.toList ++ Rows.tcpCallsSpec.plain.varTypes Try.prog) (ds ++ gs)).all (· ≤ reachBytes) = true := hsz0
  have hval : ∀ (j : Nat) t v, Try.f6.params[j]? = some t → args[j]? = some v → Value.okWide Try.prog W .any base t v := hval0
  have hW' := hW
  obtain ⟨p, q, hA0, hV, rfl, hfz, hnd⟩ := hW
  have hA : DataW.TrodAll enc Try.prog W 0 (fun _ => true) true Try.f6.params.toList args.toList ds p := hA0
  rw [Try.params6] at hA hval hsz
  obtain ⟨v0, vs0, d0, ds0, p0, q0, hargs, rfl, rfl, h0, r0⟩ := trodAll_cons hA
  obtain ⟨v1, vs1, d1, ds1, p1, q1, rfl, rfl, rfl, h1, r1⟩ := trodAll_cons r0
  obtain ⟨v2, vs2, d2, ds2, p2, q2, rfl, rfl, rfl, h2, r2⟩ := trodAll_cons r1
  obtain ⟨v3, vs3, d3, ds3, p3, q3, rfl, rfl, rfl, h3, r3⟩ := trodAll_cons r2
  obtain ⟨v4, vs4, d4, ds4, p4, q4, rfl, rfl, rfl, h4, r4⟩ := trodAll_cons r3
  obtain ⟨rfl, rfl, rfl⟩ := trodAll_nil r4
  obtain rfl : args = #[v0, v1, v2, v3, v4] := by cases args; simp_all
  obtain ⟨rfl, rfl⟩ := trodVars_none hV
  have k0 := h0
  obtain ⟨a0, rfl, rfl, rfl, w0⟩ := open_int Try.underlying22 (hval 0 22 v0 rfl rfl) h0
  have k1 := h1
  obtain ⟨a1, rfl, rfl, rfl, w1⟩ := open_int Try.underlying22 (hval 1 22 v1 rfl rfl) h1
  have k2 := h2
  obtain ⟨cs2, rfl, -⟩ := okWide_struct Try.underlying27 (hval 2 27 v2 rfl rfl)
  have g2 : Reads W (.agg 9 (.more 1 (.int .u16) (.more 1 (.int .u16) (.more 1 (.int .u32) (.more 1 (.int .u32) (.more 1 (.int .u8) (.more 1 (.int .u16) (.more 1 (.int .u16) (.more 1 (.rows 2 32 (.agg 2 (.more 1 (.int .u8) (.more 1 (.ints .u8 1) .done)))) (.more 1 (.ints .u8 1) .done)))))))))) cs2.toList := open_sh hsz (j := 2) rfl rfl h2 _ rfl (by kernel_rfl)
  have k3 := h3
  obtain ⟨cs3, rfl, -⟩ := okWide_struct Try.underlying27 (hval 3 27 v3 rfl rfl)
  have g3 : Reads W (.agg 9 (.more 1 (.int .u16) (.more 1 (.int .u16) (.more 1 (.int .u32) (.more 1 (.int .u32) (.more 1 (.int .u8) (.more 1 (.int .u16) (.more 1 (.int .u16) (.more 1 (.rows 2 32 (.agg 2 (.more 1 (.int .u8) (.more 1 (.ints .u8 1) .done)))) (.more 1 (.ints .u8 1) .done)))))))))) cs3.toList := open_sh hsz (j := 3) rfl rfl h3 _ rfl (by kernel_rfl)
  have k4 := h4
  obtain ⟨l4, sp4, hr4, hb4, hd4⟩ := open_rd Try.underlying25 Try.underlying5 (by kernel_rfl) (okWide_slice Try.underlying25 (hval 4 25 v4 rfl rfl)) h4
  have hn4 := bulks.ints_le hd4 (Nat.le_trans (bulks.part_le (d := d4) (by simp)) (bulks.bound hk))
  have u2_7 : ∀ a m c, (cs2.toList.drop 7).take 1 = [.slice a m c] → m ≤ 1048576 := fun a m c hc => bulks.field_le Try.underlying27 h2 (Nat.le_trans (bulks.part_le (d := d2) (by simp)) (bulks.bound hk)) (i := 7) rfl Try.underlying24 rfl (by kernel_rfl) hc
  have u3_7 : ∀ a m c, (cs3.toList.drop 7).take 1 = [.slice a m c] → m ≤ 1048576 := fun a m c hc => bulks.field_le Try.underlying27 h3 (Nat.le_trans (bulks.part_le (d := d3) (by simp)) (bulks.bound hk)) (i := 7) rfl Try.underlying24 rfl (by kernel_rfl) hc
  clear hA0 hval0
  refine (walk W a0 (wf_u32 w0) a1 (wf_u32 w1) cs2 g2 cs3 g3 v4 l4 hr4 (byt_of_wf hb4) hn4 u2_7 u3_7).mono fun e W' ⟨he, bel⟩ => ?_
  subst he
  exact ⟨_, rfl, _, _, _, [], _, [], hW', trodAll_mk1 (shut_bool Try.underlying4 _), (trodAll_cons_mk (Below.trod laidOut (by kernel_rfl) (of_decide_eq_true (by kernel_rfl)) k0 bel (lt_of_trod k0)) (trodAll_cons_mk (Below.trod laidOut (by kernel_rfl) (of_decide_eq_true (by kernel_rfl)) k1 bel (lt_of_trod k1)) (trodAll_cons_mk (Below.trod laidOut (by kernel_rfl) (of_decide_eq_true (by kernel_rfl)) k2 bel (lt_of_trod k2)) (trodAll_cons_mk (Below.trod laidOut (by kernel_rfl) (of_decide_eq_true (by kernel_rfl)) k3 bel (lt_of_trod k3)) (trodAll_cons_mk (Below.trod laidOut (by kernel_rfl) (of_decide_eq_true (by kernel_rfl)) k4 bel (lt_of_trod k4)) trodAll_mk0))))), rfl, bel.frame _, fun h => by cases h⟩

theorem proved : Rows.TcpCallsUptoSaid :=
  OpenClaim.holds_of_cond 6 Try.f6 rfl rfl rfl rfl rfl rfl rfl ⟨rfl, rfl, rfl, rfl, rfl⟩ rfl rfl rfl rfl rfl (by kernel_rfl) Try.func6 (by kernel_rfl)
    (of_decide_eq_true (by kernel_rfl)) (by unfold Func.isWrapper; first | (rw [if_pos (by decide +kernel)]; kernel_rfl) | (rw [if_neg (by decide +kernel)]; exact ⟨rfl, rfl⟩))
    (fun os started H enc _ F => lifted os started H enc F)
#print axioms proved
end Go.Proofs.Ytjaffcbadgpolaa.tcpCalls
