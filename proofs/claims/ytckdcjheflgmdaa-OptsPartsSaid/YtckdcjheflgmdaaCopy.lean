/-
  Proved here: copy into a slice of integers that the call itself made. Over any program.
-/
import Derived.Test.YtckdcjheflgmdaaApp
import Derived.Test.YtckdcjheflgmdaaMvs
import Derived.Laws.CopyRow
import Derived.Laws.CopyOwn
namespace Go.Cul
open Go Go.RowKit
set_option linter.unusedVariables false

theorem take_splice {α : Type} (c r : List α) (k n : Nat) (h : k + r.length ≤ n) : (c.take k ++ r ++ c.drop (k + r.length)).take n = (c.take n).take k ++ r ++ (c.take n).drop (k + r.length) := by
  by_cases hk : c.length < k
  · rw [List.take_of_length_le (show c.length ≤ k by omega), List.drop_eq_nil_of_le (by omega), List.append_nil, List.take_of_length_le (show (c ++ r).length ≤ n by rw [List.length_append]; omega), List.take_of_length_le (show c.length ≤ n by omega), List.take_of_length_le (show c.length ≤ k by omega), List.drop_eq_nil_of_le (by omega), List.append_nil]
  · rw [List.take_append, List.take_of_length_le (show (c.take k ++ r).length ≤ n by rw [List.length_append, List.length_take]; omega), List.take_take, Nat.min_eq_left (by omega), List.drop_take]
    congr 2
    rw [List.length_append, List.length_take]; omega

theorem run_copy_mine {P : Program} {k : IntKind} {t e : TypeId} {bytes : Nat} (is : IS P k t e bytes) (w : World) (base : Nat) (ty : TypeId) (g n cap : Nat) (l : List Int) (hown : Own w base e k (.slice (some ⟨g, 0, none⟩) n cap) l)
    (p m dc : Nat) (u : Value) (r : List Int) (hr : Rd k w u r) (hr0 : 0 < r.length) (hm : r.length ≤ m) (hp : p + m ≤ l.length) :
    ∃ x w', (Builtin.copy_ #[t, t] ty #[.slice (some ⟨g, p, none⟩) m dc, u]).run P w = .ok x w' ∧ Own w' base e k (.slice (some ⟨g, 0, none⟩) n cap) (l.take p ++ r ++ l.drop (p + r.length)) ∧ Mvs (fun j => j = g) w w' := by
  obtain ⟨i, hi, hz, hs, hb⟩ := is.hi
  obtain ⟨a, c, rfl, hc1, hc2, hcell⟩ := hr
  rcases hcell with rfl | ⟨b, o, rfl, hcell⟩
  · simp at hr0
  have hcells := cells_of_rd hcell
  rcases hown.2 with ⟨h0, _⟩ | ⟨g', cap', cur, he, hbg, hg, hnc, hcm, hcs, htk⟩
  · cases h0
  cases he
  have hrun := run_copy_row (P := P) w t t ty e g p m dc ⟨b, o, none⟩ r.length c cur e (r.map (Value.int k)) is.ht (by simp [hi, hs]) hg (by rw [List.length_map]; exact (Nat.min_eq_left hm).symm) hcells (by rw [List.length_map, hcs]; omega) (by
    intro u hu; obtain ⟨x, _, rfl⟩ := List.mem_map.1 hu; rfl)
  refine ⟨_, _, hrun, ?_, ⟨rfl, rfl, rfl, by simp [World.setRow], fun j _ hj => setRow_other w g j _ hj⟩⟩
  have hl2 : (l.take p ++ r ++ l.drop (p + r.length)).length = l.length := by simp only [List.length_append, List.length_take, List.length_drop]; omega
  unfold Own
  rw [hl2]
  refine ⟨by simp only [List.length_map, hl2, Nat.mul_one], .inr ⟨g, cap, _, rfl, hbg, setRow_heap w g cur _ e _ hg, hnc, hcm, ?_, ?_⟩⟩
  · simp only [List.size_toArray, List.length_append, List.length_take, List.length_drop, Array.length_toList, List.length_map]; omega
  · rw [Nat.mul_one] at htk ⊢
    have h := take_splice cur.toList (r.map (Value.int k)) p l.length (by rw [List.length_map]; omega)
    dsimp only
    rw [h, htk, List.length_map]
    simp only [List.map_append, List.map_take, List.map_drop]
end Go.Cul
