/-
  Proved here: the law SumWords: for every field, two numbers of 32 bits, byte and int it returns true. No condition.
-/
import Derived.Test.YtlobceldlegnlaaSumWakes
import Derived.Test.YtlobceldlegnlaaPseudo
import Derived.Test.YtlobceldlegnlaaStr
import Derived.Test.YtlobceldlegnlaaLoose
namespace Go.Proofs.Ytlobceldlegnlaa.sumWords
open Go.ChangeShapes Go.WideShapes Go.ChangeAt Go.RowKit Go.Cul Go.Loose
set_option linter.unusedVariables false
attribute [local go_sem] Loose.Still Loose.Upon

theorem walk (f : Int) (hf : 0 ≤ f ∧ f ≤ 65535) (a : Int) (ha : 0 ≤ a ∧ a ≤ 4294967295) (b : Int) (hb : 0 ≤ b ∧ b ≤ 4294967295) (p : Int) (hp : 0 ≤ p ∧ p ≤ 255) (n : Int) (hn : -9223372036854775808 ≤ n ∧ n ≤ 9223372036854775807) (w : World) :
    Calls Try.prog 9 #[.int .u16 f, .int .u32 a, .int .u32 b, .int .u8 p, .int .i64 n] w fun e w' => e = .returned (.bool true) ∧ Ext w w' := by
  go_enter Try.func9, Try.ntmps9
  go_wp2_with fail
  refine wp_region_grow [(5, is (.int .u16 (cword f (a % 65536) (b % 65536)))), (11, is (.int .u16 (cword f (a % 65536) (b % 65536)))), (17, is (.int .u16 (clong f a b))), (21, is (.int .u16 (clong f a b))),
    (29, fun v w => Rd .u8 w v (pseu a b p n)), (35, fun v w => Rd .u8 w v (pseu a b p n)), (40, is (.bool true))] ?_ (by kernel_rfl) (by kernel_rfl) ?_
  · exact lasts_is (lasts_is (lasts_is (lasts_is (lasts_cons (fun _ _ _ hx h => Rd.ext h hx) (lasts_cons (fun _ _ _ hx h => Rd.ext h hx) (lasts_is lasts_nil))))))
  iterate 5
    apply wpL_none rfl rfl
    · intro w' hw' hn'; go_simp; exact rfl
    intro K hK; go_simp; refine hK _ _ ?_; clear hK K
  apply wpL_some rfl rfl
  · intro w' hw' hn'
    go_simp
    refine ⟨Ext.rfl' _, ?_⟩
    simp only [IntKind.wrap_u16]
    refine (word_any _ _ _ _ hf.1 hf.2 (by omega) (by omega) (by omega) (by omega)).mono ?_
    rintro e w2 ⟨rfl, rfl⟩
    exact ⟨_, rfl, Ext.rfl' _, rfl⟩
  intro v w' hw' hD' hv
  obtain rfl : v = _ := hv
  clear hw' hD' w'
  intro K hK; go_simp; refine hK _ _ ?_; clear hK K
  iterate 5
    apply wpL_none rfl rfl
    · intro w' hw' hn'; go_simp; exact rfl
    intro K hK; go_simp; refine hK _ _ ?_; clear hK K
  apply wpL_some rfl rfl
  · intro w' hw' hn'
    go_simp
    refine ⟨Ext.rfl' _, ?_⟩
    simp only [IntKind.wrap_u16]
    refine (rword_any _ _ _ _ hf.1 hf.2 (by omega) (by omega) (by omega) (by omega)).mono ?_
    rintro e w2 ⟨rfl, rfl⟩
    exact ⟨_, rfl, Ext.rfl' _, rfl⟩
  intro v w' hw' hD' hv
  obtain rfl : v = _ := hv
  clear hw' hD' w'
  intro K hK; go_simp; refine hK _ _ ?_; clear hK K
  iterate 5
    apply wpL_none rfl rfl
    · intro w' hw' hn'; go_simp; exact rfl
    intro K hK; go_simp; refine hK _ _ ?_; clear hK K
  apply wpL_some rfl rfl
  · intro w' hw' hn'
    go_simp
    refine ⟨Ext.rfl' _, ?_⟩
    refine (long_any _ _ _ _ hf.1 hf.2 ha.1 ha.2 hb.1 hb.2).mono ?_
    rintro e w2 ⟨rfl, rfl⟩
    exact ⟨_, rfl, Ext.rfl' _, rfl⟩
  intro v w' hw' hD' hv
  obtain rfl : v = _ := hv
  clear hw' hD' w'
  intro K hK; go_simp; refine hK _ _ ?_; clear hK K
  iterate 3
    apply wpL_none rfl rfl
    · intro w' hw' hn'; go_simp; exact rfl
    intro K hK; go_simp; refine hK _ _ ?_; clear hK K
  apply wpL_some rfl rfl
  · intro w' hw' hn'
    go_simp
    refine ⟨Ext.rfl' _, ?_⟩
    refine (rlong_any _ _ _ _ hf.1 hf.2 ha.1 ha.2 hb.1 hb.2).mono ?_
    rintro e w2 ⟨rfl, rfl⟩
    exact ⟨_, rfl, Ext.rfl' _, rfl⟩
  intro v w' hw' hD' hv
  obtain rfl : v = _ := hv
  clear hw' hD' w'
  intro K hK; go_simp; refine hK _ _ ?_; clear hK K
  iterate 7
    apply wpL_none rfl rfl
    · intro w' hw' hn'; go_simp; exact rfl
    intro K hK; go_simp; refine hK _ _ ?_; clear hK K
  apply wpL_some rfl rfl
  · intro w' hw' hn'
    go_simp
    refine ⟨Ext.rfl' _, ?_⟩
    refine (pseudo_any _ _ _ _ _ ha hb hp).mono ?_
    rintro e w2 ⟨u, rfl, ho, hx⟩
    exact ⟨u, rfl, hx, ho.rd⟩
  intro v1 w' hw' hD' hv
  clear hv hw' hD' w'
  intro K hK; go_simp; refine hK _ _ ?_; clear hK K
  apply wpL_none rfl rfl
  · intro w' hw' hn'
    have hr : Rd .u8 w' v1 (pseu a b p n) := hn' ⟨29, .data⟩ (by simp) rfl
    have hc := run_conv_rd (P := Try.prog) Try.underlying23 Try.underlying5 Try.underlying9 hr
    go_simp; exact rfl
  intro K hK; go_simp; refine hK _ _ ?_; clear hK K
  iterate 4
    apply wpL_none rfl rfl
    · intro w' hw' hn'; go_simp; exact rfl
    intro K hK; go_simp; refine hK _ _ ?_; clear hK K
  apply wpL_some rfl rfl
  · intro w' hw' hn'
    go_simp
    refine ⟨Ext.rfl' _, ?_⟩
    refine (rpseudo_any _ _ _ _ _ ha hb hp).mono ?_
    rintro e w2 ⟨u, rfl, ho, hx⟩
    exact ⟨u, rfl, hx, ho.rd⟩
  intro v2 w' hw' hD' hv
  clear hv hw' hD' w'
  intro K hK; go_simp; refine hK _ _ ?_; clear hK K
  apply wpL_none rfl rfl
  · intro w' hw' hn'
    have hr : Rd .u8 w' v2 (pseu a b p n) := hn' ⟨35, .data⟩ (by simp) rfl
    have hc := run_conv_rd (P := Try.prog) Try.underlying23 Try.underlying5 Try.underlying9 hr
    go_simp; exact rfl
  intro K hK; go_simp; refine hK _ _ ?_; clear hK K
  iterate 3
    apply wpL_none rfl rfl
    · intro w' hw' hn'; go_simp; exact rfl
    intro K hK; go_simp; refine hK _ _ ?_; clear hK K
  apply wpL_some rfl rfl
  · intro w' hw' hn'
    go_simp
    refine ⟨Ext.rfl' _, ?_⟩
    refine (wakes_any _).mono ?_
    rintro e w2 ⟨rfl, hx⟩
    exact ⟨_, rfl, hx, rfl⟩
  intro v w' hw' hD' hv
  obtain rfl : v = _ := hv
  clear hw' hD' w'
  intro K hK; go_simp; refine hK _ _ ?_; clear hK K
  iterate 2
    apply wpL_none rfl rfl
    · intro w' hw' hn'; go_simp; exact rfl
    intro K hK; go_simp; refine hK _ _ ?_; clear hK K
  refine wpL_nil ?_
  intro w' hw' _
  go_wp2
  go_ret
  exact ⟨rfl, hw'⟩
end Go.Proofs.Ytlobceldlegnlaa.sumWords
