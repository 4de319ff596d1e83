/-
  Proved here: what bytes.Clone, slices.Clone of bytes, bytes.Equal, and wire's U8, U16, U32 compute, at any bytes of at most 2^47 - 4096. Condition: the bounds.
-/
import Derived.Test.YtckdcjheflgmdaaRows
import Derived.Test.YtckdcjheflgmdaaApp
import Derived.Test.YtckdcjheflgmdaaU8
import Derived.Test.YtckdcjheflgmdaaStr
import Derived.Test.YtckdcjheflgmdaaBits
import Derived.WalkSpells
import Derived.RegionTactic
import Derived.Handy
import Derived.Lib.SliceRun
import Derived.Deep.DeepMust
namespace Go.Proofs.Ytckdcjheflgmdaa
set_option maxRecDepth 16000
open Go.ChangeShapes Go.WideShapes Go.ChangeAt Go.RowKit Go.Cul
set_option linter.unusedVariables false



theorem bclone_any (v : Value) (l : List Int) (w : World) (hv : Rd .u8 w v l) (hn : l.length ≤ 140737488355328) : Calls Try.prog 58 #[v] w fun e w' => ∃ u, e = .returned u ∧ Fr w' w.heap.size 5 .u8 u l ∧ Ext w w' := by
  have hv' := hv
  obtain ⟨a, cap, rfl, hc1, hc2, hr⟩ := hv'
  cases a with
  | none =>
    have hl : l = [] := by
      rcases hr with h | ⟨b, o, h, _⟩
      · exact h
      · cases h
    subst hl
    have hnil := fun (w : World) => Go.Lib.run_eql_slice_nil (P := Try.prog) w 22 5 none 0 cap 0 0 (by kernel_rfl)
    simp only [Option.isNone] at hnil
    go_enter Try.func58, Try.ntmps58
    go_wp2
    go_ret
    exact ⟨_, rfl, .inl (Own.nil _ _ _ _), Ext.rfl' _⟩
  | some ad =>
    clear hr
    have hnil := fun (w : World) => Go.Lib.run_eql_slice_nil (P := Try.prog) w 22 5 (some ad) l.length cap 0 0 (by kernel_rfl)
    simp only [Option.isNone] at hnil
    go_enter Try.func58, Try.ntmps58
    go_wp2_with (at_builtin; go_must (refine wpList_app_fr isU8 rfl (.tmp 5) (.tmp 6) rfl w.heap.size _ [] rfl (.inr ⟨_, rfl, rfl⟩) _ l rfl (hv.ext (Ext.new _ _)) (by simp; omega) (by simp [maxLen]; omega) (by simp) ?_); intro v1 w1 hfr1 hown1 hb1)
    go_ret
    exact ⟨_, rfl, by simpa using hfr1, Below.trans (Ext.new _ _) hb1⟩
theorem sclone_any (v : Value) (l : List Int) (w : World) (hv : Rd .u8 w v l) (hn : l.length ≤ 140737488355328) : Calls Try.prog 72 #[v] w fun e w' => ∃ u, e = .returned u ∧ Fr w' w.heap.size 5 .u8 u l ∧ Ext w w' := by
  have hv' := hv
  obtain ⟨a, cap, rfl, hc1, hc2, hr⟩ := hv'
  cases a with
  | none =>
    have hl : l = [] := by
      rcases hr with h | ⟨b, o, h, _⟩
      · exact h
      · cases h
    subst hl
    have hnil := fun (w : World) => Go.Lib.run_eql_slice_nil (P := Try.prog) w 22 5 none 0 cap 0 0 (by kernel_rfl)
    simp only [Option.isNone] at hnil
    go_enter Try.func72, Try.ntmps72
    go_wp2
    go_ret
    exact ⟨_, rfl, .inl (Own.nil _ _ _ _), Ext.rfl' _⟩
  | some ad =>
    clear hr
    have hnil := fun (w : World) => Go.Lib.run_eql_slice_nil (P := Try.prog) w 22 5 (some ad) l.length cap 0 0 (by kernel_rfl)
    simp only [Option.isNone] at hnil
    go_enter Try.func72, Try.ntmps72
    go_wp2_with (at_builtin; go_must (refine wpList_app_fr isU8 rfl (.tmp 5) (.tmp 6) rfl w.heap.size _ [] rfl (.inr ⟨_, rfl, rfl⟩) _ l rfl (hv.ext (Ext.new _ _)) (by simp; omega) (by simp [maxLen]; omega) (by simp) ?_); intro v1 w1 hfr1 hown1 hb1)
    go_ret
    exact ⟨_, rfl, by simpa using hfr1, Below.trans (Ext.new _ _) hb1⟩
end Go.Proofs.Ytckdcjheflgmdaa
