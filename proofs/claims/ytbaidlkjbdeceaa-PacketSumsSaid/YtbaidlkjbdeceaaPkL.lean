/-
  Proved here: a packet's bytes have right sums and lengths: the plain law of PacketSums. No walk.
-/
import Derived.Test.YtbaidlkjbdeceaaPkR
import Derived.Test.YtbaidlkjbdeceaaTcpL
import Derived.Test.YtbaidlkjbdeceaaTcpW
namespace Go.Proofs.Ytbaidlkjbdeceaa
set_option maxRecDepth 200000
open Go.Cul
set_option linter.unusedVariables false

theorem fold_neg9 {W : Int} (h : 0 ≤ W) : 0 < W + (65535 - fold16 W) ∧ (W + (65535 - fold16 W)) % 65535 = 0 := by unfold fold16; split <;> omega
theorem fold_full9 {W : Int} (h : 0 < W) (hm : W % 65535 = 0) : fold16 W = 65535 := by unfold fold16; rw [if_neg (by omega)]; omega
/-- A field laid at an even place. -/
theorem csum_at9 {A B : List Int} (hA : Byt A) (hB : Byt B) (h2 : A.length % 2 = 0) : csum (A ++ by2 (65535 - csum (A ++ by2 0 ++ B)) ++ B) = 65535 := by
  have hw : ∀ x : Int, weigh 0 (A ++ by2 x ++ B) = weigh 0 A + x + weigh 0 B := fun x => by
    rw [List.append_assoc, weigh_app, weigh_app]
    have e1 : weigh (0 + A.length) (by2 x) = x := by
      simp only [by2, weigh, wt]
      rw [if_pos (by omega), if_neg (by omega)]
      omega
    have e2 : weigh (0 + A.length + (by2 x).length) B = weigh 0 B := weigh_par _ _ _ (by simp [by2]; omega)
    rw [e1, e2]
    omega
  have hA0 := (weigh_bd 0 A hA).1
  have hB0 := (weigh_bd 0 B hB).1
  unfold csum
  rw [hw, hw]
  obtain ⟨h3, h4⟩ := fold_neg9 (W := weigh 0 A + 0 + weigh 0 B) (by omega)
  exact fold_full9 (by omega) (by omega)
/-- The payload's sum. -/
theorem plput_right (p : Pk) (ok : p.ok) (h : (plput p).2 = 0) (hh : hasP p.h.proto = true) : Byt (plput p).1 ∧ (p.h.proto = 1 → csum (plput p).1 = 65535) ∧ (p.h.proto ≠ 1 → csum (pseu p.h.src p.h.dst p.h.proto ((plput p).1.length : Nat) ++ (plput p).1) = 65535) := by
  by_cases h6 : p.h.proto = 6
  · have hpl : plput p = tput p.h.src p.h.dst p.g := by unfold plput; rw [if_pos h6]
    rw [hpl] at h ⊢
    rcases tput_cases (g := p.g) ok.g ok.h.src ok.h.dst with ⟨E, hE, he, -⟩ | ⟨O, ho, hO, h4, h5, hl, he, hf, -⟩
    · rw [he] at h; exact absurd h hE
    · rw [he]
      refine ⟨lay_byt ok.g hO h4 hf, fun h1 => by omega, fun _ => ?_⟩
      dsimp only
      rw [h6, lay_len]
      exact csum_lay ok.g ok.h.src ok.h.dst hO h4 hl
  by_cases h17 : p.h.proto = 17
  · have hpl : plput p = uput p.h.src p.h.dst p.d.sp p.d.dp p.d.data := by unfold plput; rw [if_neg h6, if_pos h17]
    rw [hpl] at h ⊢
    by_cases hl : 1480 < 8 + p.d.data.length
    · unfold uput at h; rw [if_pos hl] at h; exact absurd h (by decide)
    have he : uput p.h.src p.h.dst p.d.sp p.d.dp p.d.data = (udpl p.d.sp p.d.dp (8 + p.d.data.length) (udpf p.h.src p.h.dst p.d.sp p.d.dp p.d.data) p.d.data, 0) := by unfold uput; rw [if_neg hl]
    rw [he]
    have hfb := udpf_bd ok.h.src ok.h.dst ok.d.sp ok.d.dp (l := p.d.data) (by omega) ok.d.data
    refine ⟨udpl_byt ok.d.sp ok.d.dp (by omega) (by omega) ok.d.data, fun h1 => by omega, fun _ => ?_⟩
    dsimp only
    have hw : 0 ≤ weigh 0 p.d.data := (weigh_bd 0 _ ok.d.data).1
    have hc := udpf_right ok.h.src ok.h.dst ok.d.sp ok.d.dp ok.d.data
    have h2 := weigh_udp p.h.src p.h.dst p.d.sp p.d.dp (8 + p.d.data.length) (8 + p.d.data.length) (udpf p.h.src p.h.dst p.d.sp p.d.dp p.d.data) p.d.data
    have h3 := weigh_pseu_val p.h.src p.h.dst 17 (8 + p.d.data.length)
    have b1 := ok.h.src
    have b2 := ok.h.dst
    have b3 := ok.d.sp
    have b4 := ok.d.dp
    have hcs := (csum_ones (l := pseu p.h.src p.h.dst 17 (8 + (p.d.data.length : Int)) ++ udpl p.d.sp p.d.dp (8 + p.d.data.length) (udpf p.h.src p.h.dst p.d.sp p.d.dp p.d.data) p.d.data) (by omega)).2 hc
    rw [h17, udpl_len, show ((8 + p.d.data.length : Nat) : Int) = 8 + (p.d.data.length : Int) by omega]
    exact hcs
  · have h1 : p.h.proto = 1 := by
      unfold hasP at hh
      simpa [h6, h17] using hh
    have hpl : plput p = mput p.m := by unfold plput; rw [if_neg h6, if_neg h17]
    rw [hpl] at h ⊢
    by_cases hl : 1472 < p.m.data.length
    · unfold mput at h; rw [if_pos hl] at h; exact absurd h (by decide)
    have he : mput p.m = (p.m.lay p.m.field, 0) := by unfold mput; rw [if_neg hl]
    rw [he]
    have hb0 := Ms.lay_byt ok.m (f := 0) (by omega)
    have hcb := csum_bd hb0
    refine ⟨Ms.lay_byt ok.m (by unfold Ms.field; omega), fun _ => ?_, fun h => absurd h1 h⟩
    have := csum_at9 (A := [p.m.ty, p.m.cd]) (B := by4 p.m.rest ++ p.m.data) (fun x hx => by
      simp only [List.mem_cons, List.not_mem_nil, or_false] at hx
      rcases hx with rfl | rfl
      · exact ok.m.ty
      · exact ok.m.cd) ((by4_byt _ ok.m.rest).app ok.m.data) (by simp)
    dsimp only
    unfold Ms.field Ms.lay
    simpa only [List.append_assoc] using this
/-- What Put tells: an error and nothing, or a head and a payload whose sums are right. -/
theorem pput_right (p : Pk) (ok : p.ok) : (∃ E, E ≠ 0 ∧ pput p = ([], E)) ∨ ∃ H Pl : List Int, pput p = (H ++ Pl, 0) ∧ H.length = 20 + p.h.op.length ∧ p.h.op.length ≤ 40 ∧ p.h.op.length % 4 = 0 ∧ H.length + Pl.length ≤ 1500 ∧ csum H = 65535 ∧ Byt H ∧ Byt Pl ∧
    H.getD 0 0 = 64 + (((20 + p.h.op.length) / 4 : Nat) : Int) ∧ H.getD 2 0 * 256 + H.getD 3 0 = ((H.length + Pl.length : Nat) : Int) ∧ (p.h.proto = 1 → csum Pl = 65535) ∧ (p.h.proto ≠ 1 → csum (pseu p.h.src p.h.dst p.h.proto (Pl.length : Nat) ++ Pl) = 65535) := by
  by_cases hm : p.may = true
  · have hh : hasP p.h.proto = true ∧ p.h.may = true := by
      unfold Pk.may at hm
      rw [Bool.and_eq_true, Bool.and_eq_true] at hm
      exact hm.1
    by_cases hE : (plput p).2 = 0
    · obtain ⟨hb, c1, c2⟩ := plput_right p ok hE hh.1
      have hp : pput p = hput p.h (plput p).1 := by unfold pput; rw [if_neg (by rw [hm]; decide), if_neg (by rw [hE]; decide)]
      rw [hp]
      generalize (plput p).1 = Pl at *
      have hmay := hh.2
      unfold Hd.may at hmay
      simp only [Bool.and_eq_true, decide_eq_true_eq] at hmay
      obtain ⟨-, ho1, ho2⟩ := hmay
      unfold hput
      rw [if_neg (by rw [hh.2]; decide)]
      by_cases hl : 1500 - (20 + p.h.op.length) < Pl.length
      · rw [if_pos hl]; exact .inl ⟨3, by decide, rfl⟩
      rw [if_neg hl]
      have hlen := p.h.lay_len Pl.length (p.h.field Pl.length)
      have hpl : 20 + p.h.op.length + Pl.length ≤ 1500 := by omega
      have hpb := Hd.pre_byt ok.h ho1 hpl
      have hbb : Byt (p.h.lay Pl.length (p.h.field Pl.length)) := Hd.lay_byt ok.h ho1 hpl (Hd.field_bd ok.h ho1 hpl)
      have hc := csum_at9 (A := p.h.pre Pl.length) (B := by4 p.h.src ++ by4 p.h.dst ++ p.h.op) hpb (((by4_byt _ ok.h.src).app (by4_byt _ ok.h.dst)).app ok.h.op) (by simp [Hd.pre, by2])
      refine .inr ⟨_, Pl, rfl, hlen, ho1, ho2, by omega, ?_, hbb, hb, ?_, ?_, c1, c2⟩
      · unfold Hd.field Hd.lay
        simpa only [List.append_assoc] using hc
      · simp [Hd.lay, Hd.pre, by2]
      · rw [hlen]
        simp only [Hd.lay, Hd.pre, by2, List.cons_append, List.nil_append, List.append_assoc, List.getD_cons_zero, List.getD_cons_succ]
        omega
    · exact .inl ⟨(plput p).2, hE, by unfold pput; rw [if_neg (by rw [hm]; decide), if_pos hE]⟩
  · exact .inl ⟨1, by decide, by unfold pput; rw [if_pos (by simpa using hm)]⟩
end Go.Proofs.Ytbaidlkjbdeceaa
