/-
  Proved here: plain laws on datagrams' bytes and their checksum. No walk.
-/
import Derived.Test.YtbaidlkjbdeceaaGreatUdpO
namespace Go.Proofs.YtbaidlkjbdeceaaGreat
set_option maxRecDepth 200000
open Go.Cul
set_option linter.unusedVariables false

theorem weigh_set {l : List Int} {i : Nat} (j : Nat) (h : i < l.length) (x : Int) : weigh j (l.set i x) = weigh j l - wt (l.getD i 0) (j + i) + wt x (j + i) := by
  induction l generalizing i j with
  | nil => simp at h
  | cons c l ih =>
    cases i with
    | zero => simp [weigh, List.getD]; omega
    | succ i =>
      have h' : i < l.length := by simpa using h
      rw [List.set_cons_succ]
      simp only [weigh]
      rw [ih (j + 1) h']
      have e : (c :: l).getD (i + 1) 0 = l.getD i 0 := by simp [List.getD]
      rw [e, show j + 1 + i = j + (i + 1) from by omega]
      omega
theorem getD_set (l : List Int) (i j : Nat) (x : Int) (h : i < l.length) : (l.set i x).getD j 0 = if i = j then x else l.getD j 0 := by
  unfold List.getD
  rw [List.getElem?_set]
  by_cases e : i = j
  · subst e; simp [h]
  · simp [e]

theorem udpl_cons (sp dp n f : Int) (l : List Int) : udpl sp dp n f l = sp / 256 :: sp % 256 :: dp / 256 :: dp % 256 :: n / 256 :: n % 256 :: f / 256 :: f % 256 :: l := rfl
theorem udpl_be (sp dp n f : Int) (l : List Int) : be16 (udpl sp dp n f l) 0 = sp ∧ be16 (udpl sp dp n f l) 2 = dp ∧ be16 (udpl sp dp n f l) 4 = n ∧ be16 (udpl sp dp n f l) 6 = f := by
  rw [udpl_cons]
  simp only [be16, List.getD_cons_zero, List.getD_cons_succ]
  omega
theorem udpl_drop (sp dp n f : Int) (l : List Int) : (udpl sp dp n f l).drop 8 = l := rfl

theorem weigh_pseu (s d p n : Int) (l : List Int) : weigh 0 (pseu s d p n ++ l) = weigh 0 (pseu s d p n) + weigh 0 l := by
  rw [weigh_app, pseu_len]
  exact congrArg _ (weigh_par _ _ _ rfl)
theorem weigh_pseu_val (s d p n : Int) : weigh 0 (pseu s d p n) = s / 65536 + s % 65536 + d / 65536 + d % 65536 + p + n % 65536 := by
  simp [pseu, by4, weigh, wt]; omega
theorem weigh_udpl (sp dp n f : Int) (l : List Int) : weigh 0 (udpl sp dp n f l) = sp + dp + n + f + weigh 0 l := by
  rw [udpl_cons]
  simp only [weigh, wt]
  rw [weigh_par (0 + 1 + 1 + 1 + 1 + 1 + 1 + 1 + 1) 0 l rfl]
  simp
  omega

/-- The weight behind the sum of a datagram between two addresses. -/
theorem weigh_udp (s d sp dp n m f : Int) (l : List Int) : weigh 0 (pseu s d 17 n ++ udpl sp dp m f l) = weigh 0 (pseu s d 17 n) + (sp + dp + m + f + weigh 0 l) := by rw [weigh_pseu, weigh_udpl]

theorem csum_ones {l : List Int} (h : 0 < weigh 0 l) : csum l = 65535 ↔ weigh 0 l % 65535 = 0 := by
  unfold csum fold16
  rw [if_neg (by omega)]
  omega

theorem udpf_right {s d sp dp : Int} {l : List Int} (hs : 0 ≤ s ∧ s ≤ 4294967295) (hd : 0 ≤ d ∧ d ≤ 4294967295) (hsp : 0 ≤ sp ∧ sp ≤ 65535) (hdp : 0 ≤ dp ∧ dp ≤ 65535) (hl : Byt l) :
    weigh 0 (pseu s d 17 (8 + l.length) ++ udpl sp dp (8 + l.length) (udpf s d sp dp l) l) % 65535 = 0 := by
  have hw : 0 ≤ weigh 0 l := (weigh_bd 0 l hl).1
  have h1 := weigh_udp s d sp dp (8 + l.length) (8 + l.length) 0 l
  have h2 := weigh_udp s d sp dp (8 + l.length) (8 + l.length) (udpf s d sp dp l) l
  have h3 := weigh_pseu_val s d 17 (8 + l.length)
  have hf : udpf s d sp dp l = if 65535 - csum (pseu s d 17 (8 + l.length) ++ udpl sp dp (8 + l.length) 0 l) = 0 then 65535 else 65535 - csum (pseu s d 17 (8 + l.length) ++ udpl sp dp (8 + l.length) 0 l) := rfl
  rw [h2, hf]
  unfold csum
  rw [h1]
  generalize weigh 0 (pseu s d 17 (8 + (l.length : Int))) = W at *
  have hW : 0 ≤ W + (sp + dp + (8 + (l.length : Int)) + 0 + weigh 0 l) := by omega
  generalize hx : W + (sp + dp + (8 + (l.length : Int)) + 0 + weigh 0 l) = x at *
  have hm := fold16_mod hW
  have hb := fold16_bd hW
  split <;> omega

/-- The bytes of a datagram are a datagram's, with its field or with 0000 in its place. -/
theorem uerr_put {s d sp dp : Int} {l : List Int} (hs : 0 ≤ s ∧ s ≤ 4294967295) (hd : 0 ≤ d ∧ d ≤ 4294967295) (hsp : 0 ≤ sp ∧ sp ≤ 65535) (hdp : 0 ≤ dp ∧ dp ≤ 65535) (hl : Byt l) (hn : l.length ≤ 1472) :
    uerr s d (udpl sp dp (8 + l.length) (udpf s d sp dp l) l) = 0 := by
  have hlen := udpl_len sp dp (8 + l.length) (udpf s d sp dp l) l
  obtain ⟨b0, b2, b4, b6⟩ := udpl_be sp dp (8 + l.length) (udpf s d sp dp l) l
  have hw : 0 ≤ weigh 0 l := (weigh_bd 0 l hl).1
  have hc := udpf_right hs hd hsp hdp hl
  have h2 := weigh_udp s d sp dp (8 + l.length) (8 + l.length) (udpf s d sp dp l) l
  have h3 := weigh_pseu_val s d 17 (8 + l.length)
  have hfb := udpf_bd hs hd hsp hdp (by omega) hl
  have hcs := (csum_ones (l := pseu s d 17 (8 + (l.length : Int)) ++ udpl sp dp (8 + l.length) (udpf s d sp dp l) l) (by omega)).2 hc
  unfold uerr
  rw [b4, b6, hlen, if_neg (by omega), if_neg (by omega), if_neg (by simp), if_neg]
  rintro ⟨_, h⟩
  exact h (by rw [show ((8 + l.length : Nat) : Int) = 8 + (l.length : Int) by omega]; exact hcs)
theorem uerr_zero (s d : Int) {sp dp : Int} {l : List Int} (hn : l.length ≤ 1472) : uerr s d (udpl sp dp (8 + l.length) 0 l) = 0 := by
  have hlen := udpl_len sp dp (8 + l.length) 0 l
  obtain ⟨b0, b2, b4, b6⟩ := udpl_be sp dp (8 + l.length) 0 l
  unfold uerr
  rw [b4, b6, hlen, if_neg (by omega), if_neg (by omega), if_neg (by simp), if_neg (by simp)]
theorem upar_of {s d sp dp n f : Int} {l : List Int} (h : uerr s d (udpl sp dp n f l) = 0) : upar s d (udpl sp dp n f l) = (sp, dp, l) := by
  obtain ⟨b0, b2, b4, b6⟩ := udpl_be sp dp n f l
  unfold upar
  rw [if_pos h, b0, b2, udpl_drop]
theorem uput_of {s d sp dp : Int} {l : List Int} (hn : l.length ≤ 1472) : uput s d sp dp l = (udpl sp dp (8 + l.length) (udpf s d sp dp l) l, 0) := by
  unfold uput; rw [if_neg (by omega)]

/-- Between other addresses. -/
theorem uerr_other {s d s' d' sp dp : Int} {l : List Int} (hs : 0 ≤ s ∧ s ≤ 4294967295) (hd : 0 ≤ d ∧ d ≤ 4294967295) (hs' : 0 ≤ s' ∧ s' ≤ 4294967295) (hd' : 0 ≤ d' ∧ d' ≤ 4294967295) (hsp : 0 ≤ sp ∧ sp ≤ 65535) (hdp : 0 ≤ dp ∧ dp ≤ 65535) (hl : Byt l) (hn : l.length ≤ 1472) :
    uerr s' d' (udpl sp dp (8 + l.length) (udpf s d sp dp l) l) = if (s / 65536 + s % 65536 + d / 65536 + d % 65536) % 65535 = (s' / 65536 + s' % 65536 + d' / 65536 + d' % 65536) % 65535 then 0 else 20 := by
  have hlen := udpl_len sp dp (8 + l.length) (udpf s d sp dp l) l
  obtain ⟨b0, b2, b4, b6⟩ := udpl_be sp dp (8 + l.length) (udpf s d sp dp l) l
  have hw : 0 ≤ weigh 0 l := (weigh_bd 0 l hl).1
  have hc := udpf_right hs hd hsp hdp hl
  have h2 := weigh_udp s d sp dp (8 + l.length) (8 + l.length) (udpf s d sp dp l) l
  have h2' := weigh_udp s' d' sp dp (8 + l.length) (8 + l.length) (udpf s d sp dp l) l
  have h3 := weigh_pseu_val s d 17 (8 + l.length)
  have h3' := weigh_pseu_val s' d' 17 (8 + l.length)
  have hfb := udpf_bd hs hd hsp hdp (by omega) hl
  have hcs := csum_ones (l := pseu s' d' 17 (8 + (l.length : Int)) ++ udpl sp dp (8 + l.length) (udpf s d sp dp l) l) (by omega)
  unfold uerr
  rw [b4, b6, hlen, if_neg (by omega), if_neg (by omega), if_neg (by simp), show ((8 + l.length : Nat) : Int) = 8 + (l.length : Int) by omega]
  by_cases h : csum (pseu s' d' 17 (8 + (l.length : Int)) ++ udpl sp dp (8 + l.length) (udpf s d sp dp l) l) = 65535
  · rw [if_neg (fun hh => hh.2 h), if_pos]
    have := hcs.1 h
    omega
  · rw [if_pos ⟨by omega, h⟩, if_neg]
    intro he
    exact h (hcs.2 (by omega))
end Go.Proofs.YtbaidlkjbdeceaaGreat
