/-
  Proved here: what the functions of package sum (folded, Word, Long, Sum, Field, Right) and their references compute. Conditions: numbers within their kinds; for Sum the parts read as bytes, at most 2^48 in all.
  Proved here: what Field, Right, the references Sum, Field, Join and Like compute. Conditions: the parts read as bytes, at most 2^48 in all.
  Proved here: the pseudo header of package sum and of its reference: the same twelve bytes, in new memory. Conditions: numbers within their kinds.
  Proved here: what wire's U8, U16 and U32 compute: the bytes, and a number laid behind them, in new memory. Condition: at most 2^47 - 4096 bytes.
-/
import Derived.Test.YtgbbpibcmpeneaaRows
import Derived.Test.YtgbbpibcmpeneaaCore
import Derived.RegionTactic
import Derived.IntWalk
import Derived.Handy
import Derived.Test.YtgbbpibcmpeneaaLibs
import Derived.LoopN
import Derived.Deep.DeepMust
namespace Go.Proofs.Ytgbbpibcmpeneaa
set_option maxRecDepth 200000
open Go.ChangeShapes Go.WideShapes Go.ChangeAt Go.RowKit Go.Cul
set_option linter.unusedVariables false

/-- How the closure's two variables lie. -/
def Two (B : Nat) (l : List Int) (w : World) : Prop :=
  w.heap[B]? = some (.cells #[.int .u64 (weigh 0 l)] 26 (0, 0)) ∧ w.heap[B + 1]? = some (.cells #[.int .i64 (l.length : Nat)] 3 (0, 0))

end Go.Proofs.Ytgbbpibcmpeneaa
namespace Go.Proofs.Ytgbbpibcmpeneaa
set_option maxRecDepth 200000
open Go.ChangeShapes Go.WideShapes Go.ChangeAt Go.RowKit Go.Cul
set_option linter.unusedVariables false

end Go.Proofs.Ytgbbpibcmpeneaa
namespace Go.Proofs.Ytgbbpibcmpeneaa
set_option maxRecDepth 200000
open Go.ChangeShapes Go.WideShapes Go.ChangeAt Go.RowKit Go.Cul
set_option linter.unusedVariables false



/-- A number as four bytes. -/
def by4 (x : Int) : List Int := [x / 16777216, x / 65536 % 256, x / 256 % 256, x % 256]
def pseu (s d p n : Int) : List Int := by4 s ++ by4 d ++ [0, p, n / 256 % 256, n % 256]

end Go.Proofs.Ytgbbpibcmpeneaa
namespace Go.Proofs.Ytgbbpibcmpeneaa
set_option maxRecDepth 200000
open Go.ChangeShapes Go.WideShapes Go.ChangeAt Go.RowKit Go.Cul
set_option linter.unusedVariables false

/-- A number as two bytes. -/
def by2 (x : Int) : List Int := [x / 256, x % 256]

theorem by2_byt (x : Int) (h : 0 ≤ x ∧ x ≤ 65535) : Byt (by2 x) := by
  intro y hy
  simp only [by2, List.mem_cons, List.not_mem_nil, or_false] at hy
  rcases hy with rfl | rfl <;> omega
theorem by4_byt (x : Int) (h : 0 ≤ x ∧ x ≤ 4294967295) : Byt (by4 x) := by
  intro y hy
  simp only [by4, List.mem_cons, List.not_mem_nil, or_false] at hy
  rcases hy with rfl | rfl | rfl | rfl <;> omega

theorem wu32_any (v : Value) (l : List Int) (n : Int) (w : World) (hv : Rd .u8 w v l) (hl : l.length ≤ 140737488351236) (hn : 0 ≤ n ∧ n ≤ 4294967295) :
    Calls Try.prog 61 #[v, .int .u32 n] w fun e w' => ∃ u, e = .returned u ∧ Own w' w.heap.size 5 .u8 u (l ++ by4 n) ∧ Ext w w' := by
  go_enter Try.func61, Try.ntmps61
  go_wp2_with fail
  refine (sclone_any _ l _ hv (by omega)).mono ?_
  rintro e w1 ⟨u, rfl, hu, hx1⟩
  go_wp2_with (at_builtin; go_must (refine wpList_app_fr isU8 rfl (.tmp _) (.tmp _) rfl w.heap.size _ l rfl (hu.kept (Ext.new _ _)) _ (by4 n) rfl (rd_new .u8 _ _ _ _ rfl rfl rfl rfl (by simp [maxLen, by4])) (by simp [by4]; omega) (by simp [maxLen, by4]; omega) (by have := hx1.size; simp; omega) ?_); intro v2 w2 hfr2 hown2 hb2)
  go_ret
  exact ⟨_, rfl, hown2 (by simp [by4]), Below.trans (hx1.al _) hb2⟩
end Go.Proofs.Ytgbbpibcmpeneaa
