/-
  Proved here: what slices.Grow of a nil slice and slices.Concat compute, for bytes. Conditions: at most 2^40 bytes in all.
-/
import Derived.Test.YtbaidlkjbdeceaaGreatCore
import Derived.Test.YtbaidlkjbdeceaaGreatLibs
import Derived.Deep.Cut
namespace Go.Cul
open Go Go.RowKit
set_option linter.unusedVariables false

/-- zeros appended to nil -/
theorem run_zeros_nil {P : Program} {k : IntKind} {t e tn : TypeId} {kn : IntKind} {bytes : Nat} (is : IS P k t e bytes) (htn : P.underlying tn = some (.int kn)) (w : World) (base : Nat) (ty : TypeId) (n : Nat) (hn0 : 0 < n)
    (hlen : n * bytes ≤ 140737488355328) (h63 : n ≤ maxLen) (hbase : base ≤ w.heap.size) :
    ∃ g cap w', (Builtin.append_ #[t, tn] ty #[.slice none 0 0, .int kn n]).run P w = .ok (.slice (some ⟨g, 0, none⟩) n cap) w' ∧ n ≤ cap ∧ Own w' base e k (.slice (some ⟨g, 0, none⟩) 0 cap) [] ∧ Ext w w' := by
  obtain ⟨i, hi, hz, hs, hb⟩ := is.hi
  have h63' : n ≤ 9223372036854775807 := by simp only [maxLen] at h63; omega
  have hw : IntKind.i64.wrap (n : Int) = n := by rw [IntKind.wrap_i64]; omega
  have hneg : ¬ ((n : Int) < 0) := by omega
  have h48i : ¬ (281474976710656 < (n : Int) * (i.bytes : Int)) := by rw [hb, ← Int.natCast_mul]; omega
  have hzl : ∀ m, Builtin.zeroCells (Value.int k 0).cells m = (List.replicate m (Value.int k 0)).toArray := fun m => zeroCells_one _ m rfl
  have hn : ¬ n = 0 := by omega
  have h63'' : ¬ (9223372036854775807 < (n : Int)) := by omega
  have hfit := growslice_fits (show 0 < n by omega) (bytes := bytes) (by omega)
  have h48' : ¬ (281474976710656 < Builtin.nextslicecap n 0 * i.bytes) := by rw [hb]; omega
  have hfc : (Builtin.firstCells 1 0 (.slice none 0 0)).run P w.drew = .ok #[] w.drew := by simp [Builtin.firstCells]
  have hge := grownCap_ge w n 0 e
  have hcm' : grownCap w n 0 e ≤ maxLen := grownCap_le_maxLen w n 0 e h63
  refine ⟨w.heap.size, grownCap w n 0 e, w.drew.alloc (.cells ((List.replicate n (Value.int k 0)).toArray ++ Builtin.zeroCells (Value.int k 0).cells (grownCap w n 0 e - n)) e), ?_, hge, ?_, ((Ext.rfl' w).dr.al _)⟩
  · simp [Builtin.append_, run_underlying is.ht, run_underlying htn, sizeOf, typeInfo, zeroValue, hi, hz, hs, asInt, asIntOf, hw, hneg, h48i, hn, hzl, h63'', h48', Question.forced, newRow, grownCap, hfc]
  · refine ⟨by simp, .inr ⟨w.heap.size, _, _, rfl, hbase, heap_alloc_new w.drew _, Nat.zero_le _, hcm', ?_, by simp⟩⟩
    rw [hzl]
    simp only [Array.size_append, List.size_toArray, List.length_replicate]
    omega

theorem wpList_zeros_nil {P : Program} {k : IntKind} {t e tn : TypeId} {kn : IntKind} {bytes : Nat} (is : IS P k t e bytes) (htn : P.underlying tn = some (.int kn)) {w : World} {ops : Array Oper} {rest : List Oper} {o : Oper} {a : Act} {Q : Exit → Act → World → Prop} (hgd : o.guard = none) (s x : Operand)
    (ho : o.op = .call { callee := .builtin .append, args := #[s, x], argTypes := #[t, tn] }) (base : Nat) (hs : a.eval s = .slice none 0 0) (n : Nat) (hx : a.eval x = .int kn n) (hn0 : 0 < n)
    (hlen : n * bytes ≤ 140737488355328) (h63 : n ≤ maxLen) (hbase : base ≤ w.heap.size)
    (h : ∀ g cap w', n ≤ cap → Own w' base e k (.slice (some ⟨g, 0, none⟩) 0 cap) [] → Ext w w' → wpList P ops Q rest (a.put o.dst (.slice (some ⟨g, 0, none⟩) n cap)) w') : wpList P ops Q (o :: rest) a w := by
  refine wpList_plain hgd fun K hK => ?_
  obtain ⟨g, cap, w', hrun, h1, h2, h3⟩ := run_zeros_nil is htn w base o.type n hn0 hlen h63 hbase
  unfold Oper.wp execOp
  simp only [ho, resolve, invoke, builtin, Sem.run_bind, Sem.run_pure, Result.andThen_ok, List.map_toArray, List.map_cons, List.map_nil, hs, hx, hrun]
  exact hK _ _ (h g cap w' h1 h2 h3)
end Go.Cul
namespace Go.Proofs.YtbaidlkjbdeceaaGreat
set_option maxRecDepth 200000
open Go.ChangeShapes Go.WideShapes Go.ChangeAt Go.RowKit Go.Cul
set_option linter.unusedVariables false

theorem grow_nil (n : Nat) (w : World) (hn : n ≤ 1099511627776) :
    Calls Tryz.prog 81 #[.slice none 0 0, .int .i64 n] w fun e w' => ∃ u, e = .returned u ∧ Own w' w.heap.size 5 .u8 u [] ∧ Ext w w' := by
  by_cases h0 : n = 0
  · subst h0
    go_enter Tryz.func81, Tryz.ntmps81
    go_wp2_with fail
    go_ret
    exact ⟨_, rfl, Own.nil _ _ _ _, Ext.rfl' _⟩
  · have hpos : (0 : Int) < n := by omega
    have hneg : ¬ (n : Int) < 0 := by omega
    go_enter Tryz.func81, Tryz.ntmps81
    go_wp2_with (at_builtin; go_must (refine wpList_zeros_nil isU8 (tn := 3) (kn := .i64) Tryz.underlying3 rfl (.tmp 20) (.tmp 21) rfl w.heap.size rfl n rfl (by omega) (by omega) (by unfold maxLen; omega) (Nat.le_refl _) ?_); intro g cap w1 hc hown hx)
    go_ret
    exact ⟨_, rfl, hown, hx⟩

theorem concat_any (v : Value) (ls : List (List Int)) (w : World) (hv : Rds .u8 w v ls) (hn : ls.flatten.length ≤ 1099511627776) :
    Calls Tryz.prog 47 #[v] w fun e w' => ∃ u, e = .returned u ∧ Own w' w.heap.size 5 .u8 u ls.flatten ∧ Ext w w' := by
  obtain ⟨a, cap, rfl, hc1, hc2, hr⟩ := hv
  unfold maxLen at hc2
  have HR := Lib.hid hr
  clear hr
  have hft : ∀ k, (ls.take k).flatten.length ≤ ls.flatten.length := fun k => by
    have h := congrArg List.length (List.flatten_append (L₁ := ls.take k) (L₂ := ls.drop k))
    rw [List.take_append_drop, List.length_append] at h
    omega
  have HFT := Lib.hid hft
  have hfs : ∀ k, k < ls.length → (ls.take (k + 1)).flatten = (ls.take k).flatten ++ ls.getD k [] := fun k hk => by
    rw [take_succ_getD' [] ls k hk]; simp
  have HFS := Lib.hid hfs
  clear hft hfs
  go_enter Tryz.func47, Tryz.ntmps47
  go_wp2_with fail
  go_loop [3, 11] (fun s i => ∃ k : Nat, k ≤ ls.length ∧ i = .int .i64 k ∧ s = .int .i64 ((ls.take k).flatten.length : Nat)) (fun _ i => ls.length - (intOf i).toNat)
  case atStart => exact ⟨0, Nat.zero_le _, rfl, rfl⟩
  case round =>
    obtain ⟨k, hk, rfl, rfl⟩ := hrel
    have hle := HFT.out k
    by_cases hlt : k < ls.length
    · rcases HR.out with h0 | ⟨b, o, rfl, hrow⟩
      · rw [h0] at hlt; simp at hlt
      obtain ⟨u, e1, hu⟩ := hrow k hlt
      have hle2 := HFT.out (k + 1)
      have hs := congrArg List.length (HFS.out k hlt)
      rw [List.length_append] at hs
      have HS := Lib.hid hs
      obtain ⟨au, cu, rfl, hu1, hu2, -⟩ := hu
      unfold maxLen at hu2
      have hl2 : (ls.getD k []).length ≤ 1099511627776 := by omega
      clear hs hrow
      generalize (ls.take k).flatten.length = s at *
      generalize (ls.getD k []).length = m at *
      have hneg : ¬ ((s : Int) + (m : Int) < 0) := by omega
      go_wp2_with fail
      go_round
      case rel => exact ⟨k + 1, by omega, by go_num, by rw [HS.out]; go_num⟩
      case measure => simp [intOf]; omega
    · obtain rfl : k = ls.length := by omega
      have ht : (ls.take ls.length).flatten.length = ls.flatten.length := by rw [List.take_length]
      rw [ht]
      clear hle ht
      generalize ls.flatten.length = N at *
      go_wp2_with fail
      refine (grow_nil _ _ hn).mono ?_
      rintro e w1 ⟨u, rfl, hu, hx1⟩
      obtain ⟨au, nu, cu, rfl⟩ := hu.rd.shape
      have HU := Lib.hid hu
      clear hu
      go_wp2_with fail
      go_loopw [6, 27] (fun v i wr => ∃ k : Nat, k ≤ ls.length ∧ i = .int .i64 k ∧ Own wr w.heap.size 5 .u8 v (ls.take k).flatten ∧ Ext w wr) (fun _ i _ => ls.length - (intOf i).toNat)
      case atStart => exact ⟨0, Nat.zero_le _, rfl, HU.out, hx1⟩
      case round =>
        obtain ⟨k, hk, rfl, hown, hx⟩ := hrel
        have HOWN := Lib.hid hown
        obtain ⟨av, nv, cv, rfl⟩ := hown.rd.shape
        clear hown
        have hle := HFT.out (k + 1)
        by_cases hlt : k < ls.length
        · rcases HR.out with h0 | ⟨b, o, rfl, hrow⟩
          · rw [h0] at hlt; simp at hlt
          obtain ⟨u, e1, hu⟩ := hrow k hlt
          have e1 := hx.cell e1
          have HU2 := Lib.hid (hu.ext hx)
          obtain ⟨au', nu', cu', rfl⟩ := hu.shape
          have hs := HFS.out k hlt
          have hln := congrArg List.length hs
          rw [List.length_append] at hln
          have HS := Lib.hid hs
          have HLN : Hid ((ls.take k).flatten.length + (ls.getD k []).length ≤ 1099511627776) := by unfold Hid; omega
          clear hs hrow hu hln hle
          go_wp2_with (at_builtin; go_must (refine wpList_app isU8 rfl (.tmp 31) (.tmp 32) rfl w.heap.size _ _ rfl HOWN.out _ _ rfl HU2.out (by have := HLN.out; omega) (by have := HLN.out; unfold maxLen; omega) hx.size ?_); intro v2 w2 hown2 hg2 hat2)
          rw [← HS.out] at hown2
          have hx2 := HOWN.out.below hg2 hx hx.size
          go_roundw
          case rel => exact ⟨k + 1, by omega, by go_num, hown2, hx2⟩
          case measure => simp [intOf]; omega
        · obtain rfl : k = ls.length := by omega
          have ho := HOWN.out
          rw [List.take_length] at ho
          have HO := Lib.hid ho
          clear ho hle
          go_wp2_with fail
          go_ret
          exact ⟨_, rfl, HO.out, hx⟩
end Go.Proofs.YtbaidlkjbdeceaaGreat
