/-
  Proved here: the pseudo header of package sum and of its reference: the same twelve bytes, in new memory. Conditions: numbers within their kinds.
-/
import Derived.Test.YthhkdjoonnofdaaSumB
import Derived.Test.YthhkdjoonnofdaaOwn
import Derived.Test.YthhkdjoonnofdaaU8
import Derived.LoopN
import Derived.Deep.DeepMust
import Derived.Handy
namespace Go.Proofs.Ythhkdjoonnofdaa
open Go.ChangeShapes Go.WideShapes Go.ChangeAt Go.RowKit Go.Cul
set_option linter.unusedVariables false



/-- A number as four bytes. -/
def by4 (x : Int) : List Int := [x / 16777216, x / 65536 % 256, x / 256 % 256, x % 256]
def pseu (s d p n : Int) : List Int := by4 s ++ by4 d ++ [0, p, n / 256 % 256, n % 256]

theorem pseudo_any (s d p n : Int) (w : World) (hs : 0 ≤ s ∧ s ≤ 4294967295) (hd : 0 ≤ d ∧ d ≤ 4294967295) (hp : 0 ≤ p ∧ p ≤ 255) :
    Calls Try.prog 19 #[.int .u32 s, .int .u32 d, .int .u8 p, .int .i64 n] w fun e w' => ∃ v, e = .returned v ∧ Own w' w.heap.size 5 .u8 v (pseu s d p n) ∧ Ext w w' := by
  have i0 : ∀ w, (Instr.index 72 (.agg #[.int .u32 s, .int .u32 d]) (.int .i64 0)).run Try.prog w = .ok (.int .u32 s) w := fun _ => by kernel_rfl
  have i1 : ∀ w, (Instr.index 72 (.agg #[.int .u32 s, .int .u32 d]) (.int .i64 1)).run Try.prog w = .ok (.int .u32 d) w := fun _ => by kernel_rfl
  go_enter Try.func19, Try.ntmps19
  go_wp2_with fail
  refine wp_loop_rounds 3 ?_
  rw [rounds_succ]
  go_wp2_with (at_builtin; go_must (refine wpList_app isU8 rfl (.tmp 18) (.tmp 30) rfl w.heap.size _ [] rfl (Own.nil _ _ _ _) _ (by4 s) rfl (rd_new .u8 _ _ _ _ rfl rfl rfl rfl (by simp [by4, maxLen])) (by simp [by4]) (by simp [by4, maxLen]) (by simp) ?_); intro v1 w1 hown1 hg1 hat1)
  have hb1 : Ext w w1 := (Own.nil _ _ _ _ : Own _ w.heap.size 5 .u8 _ []).below hg1 (Ext.new w _) (by simp)
  clear hg1 hat1
  rw [rounds_succ]
  go_wp2_with (at_builtin; go_must (refine wpList_app isU8 rfl (.tmp 18) (.tmp 30) rfl w.heap.size _ _ rfl (hown1.kept (Ext.new _ _)) _ (by4 d) rfl (rd_new .u8 _ _ _ _ rfl rfl rfl rfl (by simp [by4, maxLen])) (by simp [by4]) (by simp [by4, maxLen]) (by have := hb1.size; simp; omega) ?_); intro v2 w2 hown2 hg2 hat2)
  have hb2 : Ext w w2 := (hown1.kept (Ext.new _ _)).below hg2 (hb1.al _) (by have := hb1.size; simp; omega)
  clear hg2 hat2
  rw [rounds_succ]
  go_wp2_with (at_builtin; go_must (refine wpList_app isU8 rfl (.tmp 33) (.tmp 40) rfl w.heap.size _ _ rfl (hown2.kept (Ext.new _ _)) _ [0, p, n / 256 % 256, n % 256] rfl (rd_new .u8 _ _ _ _ rfl rfl rfl rfl (by simp [maxLen])) (by simp [by4]) (by simp [by4, maxLen]) (by have := hb2.size; simp; omega) ?_); intro v3 w3 hown3 hg3 hat3)
  have hb3 : Ext w w3 := (hown2.kept (Ext.new _ _)).below hg3 (hb2.al _) (by have := hb2.size; simp; omega)
  go_ret
  exact ⟨_, rfl, hown3, hb3⟩

end Go.Proofs.Ythhkdjoonnofdaa
