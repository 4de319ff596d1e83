/-
  Proved here: blocks among the arguments; a row of options as a source.
-/
import Derived.Test.YtmcaknmdalbpoaaOptW
namespace Go.Proofs.Ytmcaknmdalbpoaa
set_option maxRecDepth 16000
open Go.ChangeShapes Go.WideShapes Go.ChangeAt Go.RowKit Go.Cul Go.Loose
set_option linter.unusedVariables false

theorem src_blk {w : World} {base b : Nat} {ys : List (Op1 × Value)} {t : TypeId} (hb : w.heap[b]? = some (.cells (rowsO ys).toArray t)) (hd : ∀ y ∈ ys, DatO base w y.2 y.1.2) (hm : ys.length ≤ maxLen) :
    SrcO base w (.slice (some ⟨b, 0, none⟩) ys.length ys.length) (ys.map (·.1)) := by
  refine ⟨_, ys.length, by rw [List.length_map], by rw [List.length_map]; exact Nat.le_refl _, hm, .inr ⟨b, 0, rfl, fun i hi => ?_⟩⟩
  rw [List.length_map] at hi
  obtain ⟨c0, c1⟩ := rowsO_at ys i hi
  have hx : (ys.map (·.1)).getD i (0, []) = (ys.getD i ((0, []), undef)).1 := by simp [List.getD, hi]
  refine ⟨(ys.getD i ((0, []), undef)).2, ?_, ?_, ?_⟩
  · rw [Nat.zero_add, cell_blk hb, hx]; simpa using c0
  · rw [Nat.zero_add, cell_blk hb]; simpa using c1
  · rw [hx]; exact hd _ (by simp [List.getD, hi])
/-- From the arguments' reading. -/
theorem rdb_of_rows {w : World} {v : Value} (h : Reads w (.rows 2 8 (.agg 2 (.more 1 (.int .u32) (.more 1 (.int .u32) .done)))) [v]) : ∃ bs, RdB w v bs ∧ okB bs := by
  simp only [Reads] at h
  obtain ⟨v', a, m, cap, hv, rfl, hmc, hc, hb, hel⟩ := h
  obtain rfl : v = .slice a m cap := by simpa using hv
  have hch : ∀ i, ∃ o : Bk, i < m → (((0 ≤ o.1 ∧ o.1 ≤ 4294967295) ∧ (0 ≤ o.2 ∧ o.2 ≤ 4294967295)) ∧ ∀ b off, a = some ⟨b, off, none⟩ → w.cell? ⟨b, off + i * 2, none⟩ = some (.int .u32 o.1) ∧ w.cell? ⟨b, off + i * 2 + 1, none⟩ = some (.int .u32 o.2)) := by
    intro i
    by_cases hi : i < m
    · rcases hel with h0 | ⟨b, off, rfl, hel⟩
      · omega
      obtain ⟨es, hl, hcell, _, _, rfl, ⟨x, rfl, wx⟩, _, _, rfl, ⟨y, rfl, wy⟩, rfl⟩ := hel i hi
      refine ⟨(x, y), fun _ => ⟨⟨wf_u32 wx, wf_u32 wy⟩, fun b' off' he => ?_⟩⟩
      cases he
      exact ⟨by simpa using hcell 0 (by omega), by simpa using hcell 1 (by omega)⟩
    · exact ⟨(0, 0), fun h => absurd h hi⟩
  obtain ⟨f, hf⟩ : ∃ f : Nat → Bk, ∀ i, i < m → (((0 ≤ (f i).1 ∧ (f i).1 ≤ 4294967295) ∧ (0 ≤ (f i).2 ∧ (f i).2 ≤ 4294967295)) ∧ ∀ b off, a = some ⟨b, off, none⟩ → w.cell? ⟨b, off + i * 2, none⟩ = some (.int .u32 (f i).1) ∧ w.cell? ⟨b, off + i * 2 + 1, none⟩ = some (.int .u32 (f i).2)) := ⟨fun i => Classical.choose (hch i), fun i hi => Classical.choose_spec (hch i) hi⟩
  have hlen : ((List.range m).map f).length = m := by simp
  have hget : ∀ i, i < m → ((List.range m).map f).getD i (0, 0) = f i := fun i hi => by simp [List.getD, hi]
  refine ⟨(List.range m).map f, ⟨a, cap, by rw [hlen], by rw [hlen]; exact hmc, hc, ?_⟩, ?_⟩
  · rcases hel with h0 | ⟨b, off, rfl, _⟩
    · left; simp [h0]
    · refine .inr ⟨b, off, rfl, fun i hi => ?_⟩
      rw [hlen] at hi
      rw [hget i hi]
      exact (hf i hi).2 b off rfl
  · intro o ho
    obtain ⟨i, hi, rfl⟩ := List.mem_map.1 ho
    exact (hf i (by simpa using hi)).1
theorem RdB.take {w : World} {a : Option Addr} {n cap : Nat} {os : List Bk} (h : RdB w (.slice a n cap) os) {m : Nat} (hm : m ≤ os.length) : RdB w (.slice a m cap) (os.take m) := by
  obtain ⟨a', cap', he, h1, h2, h3⟩ := h
  cases he
  have hl : (os.take m).length = m := by rw [List.length_take]; omega
  refine ⟨a, cap, by rw [hl], by omega, h2, ?_⟩
  rcases h3 with h3 | ⟨b, o, rfl, h3⟩
  · left; rw [h3]; simp
  · refine .inr ⟨b, o, rfl, fun i hi => ?_⟩
    rw [hl] at hi
    have hg : (os.take m).getD i (0, 0) = os.getD i (0, 0) := by simp [List.getD, hi]
    rw [hg]
    exact h3 i (by omega)

end Go.Proofs.Ytmcaknmdalbpoaa
