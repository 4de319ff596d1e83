/-
  Proved here: the chapter's rows (wakes) hold. No condition.
-/
import Derived.Test.YtlobceldlegnlaaSumB
namespace Go.Proofs.Ytlobceldlegnlaa
open Go.ChangeShapes Go.WideShapes Go.ChangeAt Go.RowKit Go.Cul
set_option linter.unusedVariables false

theorem word_lit (n f a b : Int) (w : World) (hf : 0 ≤ f ∧ f ≤ 65535 ∧ 0 ≤ a ∧ a ≤ 65535 ∧ 0 ≤ b ∧ b ≤ 65535) (he : cword f a b = n) :
    Calls Try.prog 20 #[.int .u16 f, .int .u16 a, .int .u16 b] w fun e w' => e = .returned (.int .u16 n) ∧ Ext w w' := by
  subst he
  refine (word_any f a b w hf.1 hf.2.1 hf.2.2.1 hf.2.2.2.1 hf.2.2.2.2.1 hf.2.2.2.2.2).mono ?_
  rintro e w' ⟨rfl, rfl⟩
  exact ⟨rfl, Ext.rfl' _⟩

set_option maxHeartbeats 4000000 in
theorem wakes_any (w : World) : Calls Try.prog 16 #[] w fun e w' => e = .returned (.bool true) ∧ Ext w w' := by
  go_enter Try.func16, Try.ntmps16
  go_wp2_with fail
  have hb := rd_new .u8 w #[.int .u8 0, .int .u8 1, .int .u8 242, .int .u8 3, .int .u8 244, .int .u8 245, .int .u8 246, .int .u8 247] 5 [0, 1, 242, 3, 244, 245, 246, 247] rfl rfl rfl rfl (by decide)
  refine (sum_lit 56818 _ [[0, 1, 242, 3, 244, 245, 246, 247]] _ ?_ (by decide) (by decide) (by decide)).mono ?_
  · exact rds_one hb (by simp)
  rintro e w1 ⟨rfl, hx1⟩
  have hb1 := (hb.ext (Ext.new _ _)).ext hx1
  go_wp2_with fail
  refine (field_lit 8717 _ [[0, 1, 242, 3, 244, 245, 246, 247]] _ ?_ (by decide) (by decide) (by decide)).mono ?_
  · exact rds_one hb1 (by simp)
  rintro e w2 ⟨rfl, hx2⟩
  go_wp2_with fail
  refine (sum_lit 1 _ [[255, 255, 0, 1]] _ ?_ (by decide) (by decide) (by decide)).mono ?_
  · exact rds_one (rd_new .u8 _ #[.int .u8 255, .int .u8 255, .int .u8 0, .int .u8 1] _ [255, 255, 0, 1] rfl rfl rfl rfl (by decide)) (by simp)
  rintro e w3 ⟨rfl, hx3⟩
  go_wp2_with fail
  refine (sum_lit 43776 _ [[171]] _ ?_ (by decide) (by decide) (by decide)).mono ?_
  · exact rds_one (rd_new .u8 _ #[.int .u8 171] _ [171] rfl rfl rfl rfl (by decide)) (by simp)
  rintro e w4 ⟨rfl, hx4⟩
  go_wp2_with fail
  refine (sum_lit 43981 _ [[171], [205]] _ ?_ (by decide) (by decide) (by decide)).mono ?_
  · exact rds_two ((rd_new .u8 _ #[.int .u8 171] _ [171] rfl rfl rfl rfl (by decide)).ext (Ext.new _ _)) (rd_new .u8 _ #[.int .u8 205] _ [205] (by simp) rfl rfl rfl (by decide)) (by simp)
  rintro e w5 ⟨rfl, hx5⟩
  go_wp2_with fail
  refine (word_lit 0 _ _ _ _ (by decide) (by decide)).mono ?_
  rintro e w6 ⟨rfl, hx6⟩
  go_wp2_with fail
  refine (right_lit true _ [[255, 255]] _ ?_ (by decide) (by decide) (by decide)).mono ?_
  · exact rds_one (rd_new .u8 _ #[.int .u8 255, .int .u8 255] _ [255, 255] rfl rfl rfl rfl (by decide)) (by simp)
  rintro e w7 ⟨rfl, hx7⟩
  go_wp2_with fail
  refine (right_lit false _ [[0, 0]] _ ?_ (by decide) (by decide) (by decide)).mono ?_
  · exact rds_one (rd_new .u8 _ #[.int .u8 0, .int .u8 0] _ [0, 0] rfl rfl rfl rfl (by decide)) (by simp)
  rintro e w8 ⟨rfl, hx8⟩
  go_wp2_with fail
  refine (right_lit true _ [[18, 52, 237, 203]] _ ?_ (by decide) (by decide) (by decide)).mono ?_
  · exact rds_one (rd_new .u8 _ #[.int .u8 18, .int .u8 52, .int .u8 237, .int .u8 203] _ [18, 52, 237, 203] rfl rfl rfl rfl (by decide)) (by simp)
  rintro e w9 ⟨rfl, hx9⟩
  go_wp2
  go_ret
  refine ⟨rfl, ?_⟩
  have y := (Ext.rfl' w) |>.al _ |>.al _ |>.tr hx1 |>.al _ |>.tr hx2 |>.al _ |>.al _ |>.tr hx3 |>.al _ |>.al _ |>.tr hx4 |>.al _ |>.al _ |>.al _ |>.tr hx5 |>.tr hx6 |>.al _ |>.al _ |>.tr hx7 |>.al _ |>.al _ |>.tr hx8 |>.al _ |>.al _ |>.tr hx9
  exact y

end Go.Proofs.Ytlobceldlegnlaa
