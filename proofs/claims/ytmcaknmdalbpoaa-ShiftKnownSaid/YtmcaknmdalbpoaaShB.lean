/-
  Proved here: plain laws of a segment that goes over: its options fit, its pieces' numbers, bytes and flags.
-/
import Derived.Test.YtmcaknmdalbpoaaShG
import Derived.Test.YtmcaknmdalbpoaaOptFnd
namespace Go.Proofs.Ytmcaknmdalbpoaa
set_option maxRecDepth 16000
open Go Go.Cul
set_option linter.unusedVariables false

theorem oput_ok {os : List Op1} : (oput os).2 = 0 ↔ os.any badO = false ∧ (flat os).length ≤ 40 := by
  unfold oput
  split
  · rename_i h; simp [h]
  · rename_i h
    split
    · rename_i h2; simp; omega
    · rename_i h2; simp; exact ⟨by simpa using h, by omega⟩

theorem owith_len {bs : List Bk} (h0 : bs.length ≠ 0) (h4 : bs.length ≤ 4) : (owith bs).1 = (5, flatB bs) := by
  unfold owith
  rw [if_neg h0, if_neg (by omega)]

theorem sone_good {x : Shf} {t : Bool} {o : Op1} (hb : badO o = false) : (flat (sone x t o).1).length ≤ (ob o).length ∧ (sone x t o).1.any badO = false ∧ ∀ y ∈ (sone x t o).1, y.1 ≠ 0 := by
  unfold sone
  split
  · rename_i hk
    split
    · rename_i h5
      split
      · exact ⟨by simp [flat], rfl, fun y hy => by cases hy⟩
      · rename_i hc
        have hl : (osacks [o]).length ≠ 0 := by
          intro h; apply hc; simp [h]
        have hkl : kl 5 okS o = true := by
          cases hq : kl 5 okS o with
          | true => rfl
          | false =>
            exfalso; apply hl
            simp [osacks, fndO, hq, bks]
        have ho : osacks [o] = bks o.2 := by simp [osacks, fndO, hkl]
        have hs : okS o.2.length = true := by
          unfold kl at hkl
          rw [Bool.and_eq_true] at hkl
          exact hkl.2
        have hs' : 0 < o.2.length ∧ o.2.length % 8 = 0 ∧ o.2.length ≤ 32 := by
          unfold okS at hs
          simpa using hs
        have hbl : (bks o.2).length = o.2.length / 8 := by unfold bks; simp
        have hml : (mvB x (osacks [o])).length = o.2.length / 8 := by
          rw [ho]; unfold mvB; rw [List.length_map, hbl]
        rw [owith_len (by rw [hml]; omega) (by rw [hml]; omega)]
        have hfl : (flatB (mvB x (osacks [o]))).length = o.2.length := by rw [flatB_len, hml]; omega
        refine ⟨?_, ?_, ?_⟩
        · simp only [flat, List.map_cons, List.map_nil, List.flatten_cons, List.flatten_nil, List.append_nil, ob_len]
          show (flatB (mvB x (osacks [o]))).length + 2 ≤ _
          omega
        · simp only [List.any_cons, List.any_nil, Bool.or_false]
          unfold badO
          show (decide ((5 : Int) < 2) || decide (38 < (flatB (mvB x (osacks [o]))).length)) = false
          rw [hfl]
          simp; omega
        · intro y hy
          obtain rfl : y = _ := by simpa using hy
          show (5 : Int) ≠ 0
          decide
    · refine ⟨by simp [flat], by simpa using hb, fun y hy => ?_⟩
      obtain rfl : y = o := by simpa using hy
      unfold keepK at hk
      simp at hk
      omega
  · exact ⟨by simp [flat], rfl, fun y hy => by cases hy⟩

theorem sovG_good {x : Shf} : ∀ (os : List Op1) (t : Bool), os.any badO = false → (flat (sovG x t os)).length ≤ (flat os).length ∧ (sovG x t os).any badO = false ∧ ∀ y ∈ sovG x t os, y.1 ≠ 0
  | [], _, _ => ⟨Nat.le_refl _, rfl, fun y hy => by cases hy⟩
  | o :: r, t, h => by
    simp only [List.any_cons, Bool.or_eq_false_iff] at h
    obtain ⟨h1, h2, h3⟩ := sone_good (x := x) (t := t) h.1
    obtain ⟨h4, h5, h6⟩ := sovG_good (x := x) r (sone x t o).2 h.2
    unfold sovG
    refine ⟨?_, ?_, fun y hy => ?_⟩
    · rw [flat_app, flat_cons, List.length_append, List.length_append]; omega
    · rw [List.any_append, h2, h5]; rfl
    · rcases List.mem_append.1 hy with hy | hy
      · exact h3 y hy
      · exact h6 y hy

/-- The options of a segment that can go over. -/
theorem sov_good {x : Shf} {os : List Op1} (h : (oput os).2 = 0) : (oput (sov x os)).2 = 0 ∧ owo (sov x os) 0 = sov x os := by
  obtain ⟨h1, h2⟩ := oput_ok.1 h
  obtain ⟨h3, h4, h5⟩ := sovG_good (x := x) os false h1
  refine ⟨oput_ok.2 ⟨h4, Nat.le_trans h3 h2⟩, ?_⟩
  unfold owo
  rw [List.filter_eq_self]
  intro y hy
  have := h5 y hy
  simpa using this

theorem clr2_no (f : Int) (h : 0 ≤ f ∧ f ≤ 255) : fl (clr2 f) 2 = false := by
  obtain ⟨n, rfl⟩ := Int.eq_ofNat_of_zero_le h.1
  have hn : n < 256 := by omega
  clear h; revert n; decide +kernel

/-- What Over tells of a segment that can go over. -/
theorem over_good {x : Shf} {g : Sg} (hm : x.may = true) (hp : (oput g.os).2 = 0) (hf : fl g.f 2 = false) :
    overL x g = ((List.range (cnt g.data.length (overN x g))).map (pieceAt (overS x g) (overN x g)), 0) := by
  unfold overL
  rw [if_neg (by rw [hp, hm]; simp), if_neg (by simp [hf])]

theorem overN_bd {x : Shf} (hm : x.may = true) (g : Sg) : 1 ≤ overN x g ∧ (overN x g : Int) = if x.mss - (oput (sov x g.os)).1.length < 1 then 1 else x.mss - (oput (sov x g.os)).1.length := by
  unfold overN
  constructor
  · split
    · exact Nat.le_refl _
    · omega
  · split
    · rfl
    · omega

theorem cnt_pos {len N : Nat} (hN : 1 ≤ N) : 1 ≤ cnt len N := by
  unfold cnt
  split
  · exact Nat.le_refl _
  · rw [Nat.le_div_iff_mul_le (by omega)]; omega
/-- The last piece is the one that reaches the end. -/
theorem cnt_last {len N i : Nat} (hN : 1 ≤ N) (hi : i < cnt len N) : (i * N ≤ len) ∧ ((i + 1 = cnt len N) ↔ i * N + min N (len - i * N) = len) ∧ (i + 1 < cnt len N → i * N + min N (len - i * N) = (i + 1) * N) ∧ (len - i * N = 0 → len = 0) := by
  have h1 := (cnt_lt (len := len) (i := i) hN).1 hi
  have h2 := cnt_lt (len := len) (i := i + 1) hN
  have e : (i + 1) * N = i * N + N := by rw [Nat.add_mul, Nat.one_mul]
  rw [e] at h2 ⊢
  generalize hz : i * N = z at *
  have h0 : i = 0 → z = 0 := fun h => by subst h; rw [← hz]; exact Nat.zero_mul _
  refine ⟨?_, ?_, ?_, ?_⟩
  · rcases h1 with h1 | h1
    · rw [h0 h1]; exact Nat.zero_le _
    · omega
  · constructor
    · intro h
      have : ¬ i + 1 < cnt len N := by omega
      rw [h2] at this
      rcases h1 with h1 | h1
      · have := h0 h1; omega
      · omega
    · intro h
      have : ¬ i + 1 < cnt len N := by rw [h2]; omega
      omega
  · intro h
    rw [h2] at h
    omega
  · intro h
    rcases h1 with h1 | h1
    · have := h0 h1; omega
    · omega

def and9 (f : Int) : Int := bits BinOp.and IntKind.u8 f 9
def and20 (f : Int) : Int := bits BinOp.and IntKind.u8 f 20
theorem and9_laws (f : Int) (h : 0 ≤ f ∧ f ≤ 255) : and9 (clr9 f) = 0 ∧ and9 (clr32 f) = and9 f ∧ and20 (clr9 f) = and20 f ∧ and20 (clr32 f) = and20 f ∧ (0 ≤ clr9 f ∧ clr9 f ≤ 255) := by
  obtain ⟨n, rfl⟩ := Int.eq_ofNat_of_zero_le h.1
  have hn : n < 256 := by omega
  clear h; revert n; decide +kernel
/-- A piece's flags. -/
theorem pieceF_laws {s : Sg} (hf : 0 ≤ s.f ∧ s.f ≤ 255) (fr n : Nat) : and20 (pieceF s fr n) = and20 s.f ∧ and9 (pieceF s fr n) = if fr + n < s.data.length then 0 else and9 s.f := by
  obtain ⟨h1, h2, h3, h4, h5⟩ := and9_laws s.f hf
  obtain ⟨k1, k2, k3, k4, k5⟩ := and9_laws (clr9 s.f) h5
  unfold pieceF
  split <;> split <;> simp_all
end Go.Proofs.Ytmcaknmdalbpoaa
