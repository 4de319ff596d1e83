/-
  Proved here: a shift among the arguments is opened; plain laws of Window.
-/
import Derived.Test.YtgbbpibcmpeneaaShW
import Derived.Test.YtgbbpibcmpeneaaShape
namespace Go.Proofs.Ytgbbpibcmpeneaa
set_option maxRecDepth 200000
open Go.ChangeShapes Go.WideShapes Go.ChangeAt Go.RowKit Go.Cul Go.Loose
set_option linter.unusedVariables false

abbrev shfSh : Sh := .agg 6 (.more 1 (.int .u32) (.more 1 (.int .u32) (.more 1 .bool (.more 1 (.int .i64) (.more 1 (.int .i64) (.more 1 (.int .i64) .done))))))
theorem open_shift {w : World} {cs : Array Value} (h : Reads w shfSh cs.toList) : ∃ x : Shf, cs = x.cells ∧ x.ok := by
  simp only [Reads] at h
  obtain ⟨_, _, e0, ⟨s0, rfl, ws0⟩, _, _, rfl, ⟨s1, rfl, ws1⟩, _, _, rfl, ⟨b, rfl⟩, _, _, rfl, ⟨s3, rfl, ws3⟩, _, _, rfl, ⟨s4, rfl, ws4⟩, _, _, rfl, ⟨s5, rfl, ws5⟩, rfl⟩ := h
  exact ⟨⟨s0, s1, b, s3, s4, s5⟩, by rw [← Array.toList_inj]; simpa using e0, ⟨wf_u32 ws0, wf_u32 ws1, wf_i64 ws3, wf_i64 ws4, wf_i64 ws5⟩⟩
/-- Window's facts, its shifts within bounds. -/
theorem win_laws {x : Shf} (h : x.may = true) {n : Int} (hn : 0 ≤ n ∧ n ≤ 65535) : ∃ f t : Nat, x.fr = f ∧ x.to = t ∧ f ≤ 14 ∧ t ≤ 14 ∧ x.win n = (if 65535 < n * 2 ^ f / 2 ^ t then 65535 else n * 2 ^ f / 2 ^ t) := by
  have hb : (0 ≤ x.fr ∧ x.fr ≤ 14) ∧ (0 ≤ x.to ∧ x.to ≤ 14) := by simp [Shf.may] at h; omega
  obtain ⟨⟨f0, f1⟩, t0, t1⟩ := hb
  refine ⟨x.fr.toNat, x.to.toNat, by omega, by omega, by omega, by omega, ?_⟩
  unfold Shf.win
  rw [if_pos h]
theorem win_le {n : Int} (hn : 0 ≤ n) (f t : Nat) : (if 65535 < n * 2 ^ f / 2 ^ t then 65535 else n * 2 ^ f / 2 ^ t) * 2 ^ t ≤ n * 2 ^ f := by
  have ht : (0 : Int) < 2 ^ t := Int.pow_pos (by decide)
  have h1 : n * 2 ^ f / 2 ^ t * 2 ^ t ≤ n * 2 ^ f := Int.ediv_mul_le _ (by omega)
  split
  · exact Int.le_trans (Int.mul_le_mul_of_nonneg_right (by omega) (by omega)) h1
  · exact h1
theorem win_mono {n m : Int} (h : n ≤ m) (f t : Nat) : (if 65535 < n * 2 ^ f / 2 ^ t then 65535 else n * 2 ^ f / 2 ^ t) ≤ (if 65535 < m * 2 ^ f / 2 ^ t then 65535 else m * 2 ^ f / 2 ^ t) := by
  have ht : (0 : Int) < 2 ^ t := Int.pow_pos (by decide)
  have hf : (0 : Int) < 2 ^ f := Int.pow_pos (by decide)
  have h1 : n * 2 ^ f / 2 ^ t ≤ m * 2 ^ f / 2 ^ t := Int.ediv_le_ediv ht (Int.mul_le_mul_of_nonneg_right h (by omega))
  split <;> split <;> omega
theorem win_near {n : Int} (f t : Nat) (h : n * 2 ^ f / 2 ^ t ≤ 65535) : n * 2 ^ f - (if 65535 < n * 2 ^ f / 2 ^ t then 65535 else n * 2 ^ f / 2 ^ t) * 2 ^ t < 2 ^ t := by
  have ht : (0 : Int) < 2 ^ t := Int.pow_pos (by decide)
  rw [if_neg (by omega)]
  generalize n * 2 ^ f = P at *
  generalize (2 : Int) ^ t = T at *
  have h1 := Int.emod_add_mul_ediv P T
  have h2 := Int.emod_lt_of_pos P ht
  have h3 : T * (P / T) = P / T * T := Int.mul_comm _ _
  generalize P / T * T = Z at *
  omega
end Go.Proofs.Ytgbbpibcmpeneaa
