/-
  Proved here: plain laws on a field that is laid, and a word that changes. No program in sight.
-/
import Derived.Test.YtlobceldlegnlaaSumP
namespace Go.Proofs.Ytlobceldlegnlaa
open Go.Cul
set_option linter.unusedVariables false

theorem weigh_pos {l : List Int} (hb : Byt l) (j i : Nat) (hi : i < l.length) (h : l.getD i 0 ≠ 0) : 0 < weigh j l := by
  induction l generalizing i j with
  | nil => simp at hi
  | cons c l ih =>
    have hbl : Byt l := fun x hx => hb x (List.mem_cons_of_mem _ hx)
    have hc := hb c (List.mem_cons_self ..)
    have h1 := weigh_bd (j + 1) l hbl
    have h2 := wt_bd hc.1 hc.2 j
    simp only [weigh]
    cases i with
    | zero =>
      have : c ≠ 0 := by simpa [List.getD] using h
      have : 0 < wt c j := by unfold wt; split <;> omega
      omega
    | succ i =>
      have := ih hbl (j + 1) i (by simpa using hi) (by simpa [List.getD] using h)
      omega
theorem weigh_zero {l : List Int} (j : Nat) (h : ∀ i, i < l.length → l.getD i 0 = 0) : weigh j l = 0 := by
  induction l generalizing j with
  | nil => rfl
  | cons c l ih =>
    have h0 : c = 0 := by have := h 0 (by simp); simpa [List.getD] using this
    simp only [weigh]
    rw [ih (j + 1) (fun i hi => by have := h (i + 1) (by simpa using hi); simpa [List.getD] using this), h0]
    unfold wt; split <;> rfl

theorem layl_getD {l : List Int} {t i : Nat} {x : Int} (h4 : 4 ≤ l.length) (h2 : l.length % 2 = 0) : (layl l t x).getD i 0 = if pl l.length t + 1 = i then x % 256 else if pl l.length t = i then x / 256 else l.getD i 0 := by
  have hk := pl_lt (t := t) h4 h2
  have hl : (l.set (pl l.length t) (x / 256)).length = l.length := by simp
  unfold layl
  rw [getD_set _ _ _ _ (by omega), getD_set _ _ _ _ (by omega)]

/-- What the other bytes weigh. -/
theorem zeros_weigh {l : List Int} {t : Nat} (hb : Byt l) (h4 : 4 ≤ l.length) (h2 : l.length % 2 = 0) : (zerosl l t = true → weigh 0 l = wordl l t) ∧ (zerosl l t = false → wordl l t < weigh 0 l) := by
  have hw := weigh_layl (l := l) (t := t) (x := 0) h4 h2
  have hpl : pl l.length t = 2 * (t % (l.length / 2)) := rfl
  constructor
  · intro h
    have h0 : weigh 0 (layl l t 0) = 0 := weigh_zero 0 fun i hi => by
      rw [layl_len] at hi
      have h1 := List.all_eq_true.1 h i (List.mem_range.2 hi)
      unfold zeroAt at h1
      rw [layl_getD h4 h2]
      split
      · rfl
      · split
        · rfl
        · rw [Bool.or_eq_true] at h1
          rcases h1 with h1 | h1
          · simpa using h1
          · have : i / 2 = t % (l.length / 2) := by simpa using h1
            omega
    omega
  · intro h
    have : ∃ i, i < l.length ∧ zeroAt l t i = false := by
      apply Classical.byContradiction
      intro hn
      have : zerosl l t = true := zerosl_true fun i hi => by
        cases hz : zeroAt l t i with
        | true => rfl
        | false => exact absurd ⟨i, hi, hz⟩ hn
      rw [this] at h; cases h
    obtain ⟨i, hi, hz⟩ := this
    unfold zeroAt at hz
    rw [Bool.or_eq_false_iff] at hz
    have hz1 : l.getD i 0 ≠ 0 := by simpa using hz.1
    have hz2 : i / 2 ≠ t % (l.length / 2) := by simpa using hz.2
    have := weigh_pos (layl_byt hb t (x := 0) (by omega)) 0 i (by rw [layl_len]; exact hi) (by
      rw [layl_getD h4 h2, if_neg (by omega), if_neg (by omega)]; exact hz1)
    omega

theorem fold_full {W : Int} (h : 0 < W) (hm : W % 65535 = 0) : fold16 W = 65535 := by unfold fold16; rw [if_neg (by omega)]; omega
theorem full_of_fold {W : Int} (h0 : 0 ≤ W) (h : fold16 W = 65535) : 0 < W ∧ W % 65535 = 0 := by unfold fold16 at h; split at h <;> omega

theorem fold_neg {W : Int} (h : 0 ≤ W) : 0 < W + (65535 - fold16 W) ∧ (W + (65535 - fold16 W)) % 65535 = 0 := by
  unfold fold16; split <;> omega

/-- The field laid: right. -/
theorem laid_right {l : List Int} {t : Nat} (hb : Byt l) (h4 : 4 ≤ l.length) (h2 : l.length % 2 = 0) : csum (layl (layl l t 0) t (65535 - csum (layl l t 0))) = 65535 := by
  have hb0 := layl_byt hb t (x := 0) (by omega)
  have hl0 := layl_len l t 0
  have hw := weigh_layl (l := layl l t 0) (t := t) (x := 65535 - csum (layl l t 0)) (by omega) (by omega)
  rw [wordl_layl (by omega) h4 h2, if_pos rfl] at hw
  have h0 := (weigh_bd 0 _ hb0).1
  have := fold_neg h0
  unfold csum at hw ⊢
  rw [hw]
  exact fold_full (by omega) (by omega)

/-- One step: words that change, the field after Word. -/
theorem step_mod {W F A X R N : Int} (hW : W % 65535 = 0) (hR : R = W - F - A) (hN : N % 65535 = (F + A - X) % 65535) : (R + X + N) % 65535 = 0 := by omega
theorem step_like {W F A X R N Z : Int} (hW : W % 65535 = 0) (hR : R = W - F - A) (hN : N % 65535 = (F + A - X) % 65535) (hZ : Z % 65535 = (R + X) % 65535) : N % 65535 = (65535 - Z) % 65535 := by omega

theorem step_weighs {L : List Int} {f k : Nat} {X N : Int} (hb : Byt L) (h4 : 4 ≤ L.length) (h2 : L.length % 2 = 0) (hk : k % (L.length / 2) ≠ f % (L.length / 2)) (hX : 0 ≤ X ∧ X ≤ 65535) (hN : 0 ≤ N ∧ N ≤ 65535) :
    weigh 0 (layl (layl L k X) f 0) = weigh 0 L - wordl L f - wordl L k + X ∧ weigh 0 (layl (layl (layl L k X) f 0) f N) = weigh 0 L - wordl L f - wordl L k + X + N ∧ wordl (layl (layl (layl L k X) f 0) f N) f = N := by
  have l1 := layl_len L k X
  have l2 := layl_len (layl L k X) f 0
  have e1 := weigh_layl (l := L) (t := k) (x := X) h4 h2
  have e2 := weigh_layl (l := layl L k X) (t := f) (x := 0) (by omega) (by omega)
  have e3 := weigh_layl (l := layl (layl L k X) f 0) (t := f) (x := N) (by omega) (by omega)
  rw [wordl_layl hX h4 h2, if_neg hk] at e2
  rw [wordl_layl (by omega) (by omega) (by omega), if_pos rfl] at e3
  refine ⟨by omega, by omega, ?_⟩
  rw [wordl_layl hN (by omega) (by omega), if_pos rfl]

theorem step_right {L : List Int} {f k : Nat} {X : Int} (hb : Byt L) (h4 : 4 ≤ L.length) (h2 : L.length % 2 = 0) (hk : k % (L.length / 2) ≠ f % (L.length / 2)) (hX : 0 ≤ X ∧ X ≤ 65535) (hc : csum L = 65535)
    (hz : zerosl (layl (layl (layl L k X) f 0) f (cword (wordl L f) (wordl L k) X)) f = false) :
    csum (layl (layl (layl L k X) f 0) f (cword (wordl L f) (wordl L k) X)) = 65535 ∧ like (cword (wordl L f) (wordl L k) X) (65535 - csum (layl (layl L k X) f 0)) = true := by
  have bf := wordl_bd hb f
  have bk := wordl_bd hb k
  have hn := cword_bd bf.1 bf.2 bk.1 bk.2 hX.1
  have hm := cword_mod bf.1 bf.2 bk.1 bk.2 hX.1
  obtain ⟨w1, w2, w3⟩ := step_weighs hb h4 h2 hk hX hn
  have hb2 := layl_byt (layl_byt hb k hX) f (x := 0) (by omega)
  have hb3 := layl_byt hb2 f hn
  have l1 := layl_len L k X
  have l2 := layl_len (layl L k X) f 0
  have l3 := layl_len (layl (layl L k X) f 0) f (cword (wordl L f) (wordl L k) X)
  have hz' := (zeros_weigh (t := f) hb3 (by omega) (by omega)).2 hz
  have hW0 := (weigh_bd 0 L hb).1
  unfold csum at hc
  have hfull := full_of_fold hW0 hc
  rw [w3] at hz'
  have h20 := (weigh_bd 0 _ hb2).1
  have hcs := csum_bd hb2
  refine ⟨?_, ?_⟩
  · unfold csum
    rw [w2]
    exact fold_full (by omega) (step_mod hfull.2 rfl hm)
  · refine like_of_mod hn.1 hn.2 (by omega) (by omega) ?_
    have hf := fold16_mod h20
    have := step_like (Z := fold16 (weigh 0 (layl (layl L k X) f 0))) hfull.2 rfl hm (by rw [hf, w1])
    unfold csum
    exact this

theorem step_zero {L : List Int} {f k : Nat} {X N : Int} (hb : Byt L) (h4 : 4 ≤ L.length) (h2 : L.length % 2 = 0) (hX : 0 ≤ X ∧ X ≤ 65535) (hN : 0 ≤ N ∧ N ≤ 65535) (hz : zerosl (layl (layl (layl L k X) f 0) f N) f = true) :
    csum (layl (layl (layl (layl L k X) f 0) f N) f (65535 - csum (layl (layl L k X) f 0))) = 65535 := by
  have hb2 := layl_byt (layl_byt hb k hX) f (x := 0) (by omega)
  have hb3 := layl_byt hb2 f hN
  have l1 := layl_len L k X
  have l2 := layl_len (layl L k X) f 0
  have l3 := layl_len (layl (layl L k X) f 0) f N
  have hz' := (zeros_weigh (t := f) hb3 (by omega) (by omega)).1 hz
  have e3 := weigh_layl (l := layl (layl L k X) f 0) (t := f) (x := N) (by omega) (by omega)
  rw [wordl_layl (by omega) (by omega) (by omega), if_pos rfl] at e3
  have hw3 : wordl (layl (layl (layl L k X) f 0) f N) f = N := by rw [wordl_layl hN (by omega) (by omega), if_pos rfl]
  rw [hw3] at hz'
  have h0 : weigh 0 (layl (layl L k X) f 0) = 0 := by omega
  have hc0 : csum (layl (layl L k X) f 0) = 0 := by unfold csum; rw [h0]; rfl
  rw [hc0]
  have e4 := weigh_layl (l := layl (layl (layl L k X) f 0) f N) (t := f) (x := 65535 - 0) (by omega) (by omega)
  unfold csum
  rw [e4, hz', hw3]
  have : N - N + (65535 - 0) = (65535 : Int) := by omega
  rw [this]
  rfl
end Go.Proofs.Ytlobceldlegnlaa
