/-
  Proved here: plain laws on a datagram with one word turned. No walk.
-/
import Derived.Test.YthhkdjoonnofdaaUdpQ
namespace Go.Proofs.Ythhkdjoonnofdaa
open Go.Cul
set_option linter.unusedVariables false

theorem nat_xor_eq (a b : Nat) (h : a ^^^ b = a) : b = 0 := by
  have h1 : a ^^^ (a ^^^ b) = b := by rw [← Nat.xor_assoc, Nat.xor_self, Nat.zero_xor]
  rw [h, Nat.xor_self] at h1
  exact h1.symm
theorem nat_xor_lt (a b n : Nat) (ha : a < 2 ^ n) (hb : b < 2 ^ n) : a ^^^ b < 2 ^ n := Nat.xor_lt_two_pow ha hb

/-- A word turned. -/
def turn (was by_ : Int) : Int := (((was.toNat ^^^ by_.toNat : Nat)) : Int)
theorem turn_u16 {a b : Int} (ha : 0 ≤ a ∧ a ≤ 65535) (hb : 0 ≤ b ∧ b ≤ 65535) : bits BinOp.xor IntKind.u16 a b = turn a b := by
  rw [u16_xor a b ha.1 (by omega) hb.1 (by omega)]; rfl
theorem turn_bd {a b : Int} (ha : 0 ≤ a ∧ a ≤ 65535) (hb : 0 ≤ b ∧ b ≤ 65535) : 0 ≤ turn a b ∧ turn a b ≤ 65535 := by
  have := nat_xor_lt a.toNat b.toNat 16 (by omega) (by omega)
  unfold turn
  omega
theorem turn_ne {a b : Int} (ha : 0 ≤ a ∧ a ≤ 65535) (hb : 0 < b ∧ b ≤ 65535) : turn a b ≠ a := by
  intro h
  have h1 : a.toNat ^^^ b.toNat = a.toNat := by unfold turn at h; omega
  have := nat_xor_eq _ _ h1
  omega
/-- The two bytes of a word turned. -/
def hi8 (x by_ : Int) : Int := (((x.toNat ^^^ (by_.toNat / 256) : Nat)) : Int)
def lo8 (y by_ : Int) : Int := (((y.toNat ^^^ (by_.toNat % 256) : Nat)) : Int)
theorem hi8_bd {x b : Int} (hx : 0 ≤ x ∧ x ≤ 255) (hb : 0 ≤ b ∧ b ≤ 65535) : 0 ≤ hi8 x b ∧ hi8 x b ≤ 255 := by
  have := nat_xor_lt x.toNat (b.toNat / 256) 8 (by omega) (by omega)
  unfold hi8; omega
theorem lo8_bd {x b : Int} (hx : 0 ≤ x ∧ x ≤ 255) (hb : 0 ≤ b ∧ b ≤ 65535) : 0 ≤ lo8 x b ∧ lo8 x b ≤ 255 := by
  have := nat_xor_lt x.toNat (b.toNat % 256) 8 (by omega) (by omega)
  unfold lo8; omega
theorem hi8_u8 {x b : Int} (hx : 0 ≤ x ∧ x ≤ 255) (hb : 0 ≤ b ∧ b ≤ 65535) : bits BinOp.xor IntKind.u8 x (b / 256) = hi8 x b := by
  rw [u8_xor x (b / 256) hx.1 (by omega) (by omega) (by omega)]
  unfold hi8
  rw [show (b / 256).toNat = b.toNat / 256 by omega]
theorem lo8_u8 {x b : Int} (hx : 0 ≤ x ∧ x ≤ 255) (hb : 0 ≤ b ∧ b ≤ 65535) : bits BinOp.xor IntKind.u8 x (b % 256) = lo8 x b := by
  rw [u8_xor x (b % 256) hx.1 (by omega) (by omega) (by omega)]
  unfold lo8
  rw [show (b % 256).toNat = b.toNat % 256 by omega]
theorem turn_bytes {x y b : Int} (hx : 0 ≤ x ∧ x ≤ 255) (hy : 0 ≤ y ∧ y ≤ 255) (hb : 0 ≤ b ∧ b ≤ 65535) : hi8 x b * 256 + lo8 y b = turn (x * 256 + y) b := by
  unfold hi8 lo8 turn
  have h1 := Nat.xor_div_two_pow (a := (x * 256 + y).toNat) (b := b.toNat) (n := 8)
  have h2 := Nat.xor_mod_two_pow (a := (x * 256 + y).toNat) (b := b.toNat) (n := 8)
  rw [show (x * 256 + y).toNat / 2 ^ 8 = x.toNat by omega] at h1
  rw [show (x * 256 + y).toNat % 2 ^ 8 = y.toNat by omega] at h2
  simp only [show (2 : Nat) ^ 8 = 256 from rfl] at h1 h2
  rw [← h1, ← h2]
  omega

/-- With one word turned into one that is neither it nor its opposite end, and whose field is there, a datagram's sum is wrong. -/
theorem uerr_turn {s d sp dp : Int} {l : List Int} (hs : 0 ≤ s ∧ s ≤ 4294967295) (hd : 0 ≤ d ∧ d ≤ 4294967295) (hsp : 0 ≤ sp ∧ sp ≤ 65535) (hdp : 0 ≤ dp ∧ dp ≤ 65535) (hl : Byt l) (hn : l.length ≤ 1472)
    {t : Nat} (ht : 2 * t + 1 < 8 + l.length) (ht4 : t ≠ 2) {x y : Int} (hx : 0 ≤ x ∧ x ≤ 255) (hy : 0 ≤ y ∧ y ≤ 255)
    (h1 : x * 256 + y ≠ be16 (udpl sp dp (8 + l.length) (udpf s d sp dp l) l) (2 * t)) (h2 : x * 256 + y ≠ 65535 - be16 (udpl sp dp (8 + l.length) (udpf s d sp dp l) l) (2 * t)) (h3 : t = 3 → x * 256 + y ≠ 0) :
    uerr s d (((udpl sp dp (8 + l.length) (udpf s d sp dp l) l).set (2 * t) x).set (2 * t + 1) y) = 20 := by
  have hlen := udpl_len sp dp (8 + l.length) (udpf s d sp dp l) l
  obtain ⟨b0, b2, b4, b6⟩ := udpl_be sp dp (8 + l.length) (udpf s d sp dp l) l
  have hw : 0 ≤ weigh 0 l := (weigh_bd 0 l hl).1
  have hc := udpf_right hs hd hsp hdp hl
  have hfb := udpf_bd hs hd hsp hdp (by omega) hl
  have hby : Byt (udpl sp dp (8 + l.length) (udpf s d sp dp l) l) := udpl_byt hsp hdp (by omega) (by omega) hl
  have hwb := be16_bd hby (2 * t)
  have hww := weigh_udp s d sp dp (8 + l.length) (8 + l.length) (udpf s d sp dp l) l
  have h3' := weigh_pseu_val s d 17 (8 + l.length)
  generalize hB : udpl sp dp (8 + l.length) (udpf s d sp dp l) l = B at *
  have hl1 : 2 * t < B.length := by omega
  have hl2 : 2 * t + 1 < (B.set (2 * t) x).length := by rw [List.length_set]; omega
  have g1 : be16 ((B.set (2 * t) x).set (2 * t + 1) y) 4 = 8 + (l.length : Int) := by
    unfold be16 at *
    rw [getD_set _ _ _ _ hl2, getD_set _ _ _ _ hl2, getD_set _ _ _ _ hl1, getD_set _ _ _ _ hl1, if_neg (by omega), if_neg (by omega), if_neg (by omega), if_neg (by omega)]
    exact b4
  have g2 : be16 ((B.set (2 * t) x).set (2 * t + 1) y) 6 ≠ 0 := by
    unfold be16 at *
    rw [getD_set _ _ _ _ hl2, getD_set _ _ _ _ hl2, getD_set _ _ _ _ hl1, getD_set _ _ _ _ hl1]
    by_cases h6 : t = 3
    · subst h6
      have := h3 rfl
      rw [if_neg (by omega), if_pos (by omega), if_pos (by omega)]
      exact this
    · rw [if_neg (by omega), if_neg (by omega), if_neg (by omega), if_neg (by omega)]
      omega
  have g3 : weigh 0 (pseu s d 17 (8 + (l.length : Int)) ++ (B.set (2 * t) x).set (2 * t + 1) y) = weigh 0 (pseu s d 17 (8 + (l.length : Int)) ++ B) - be16 B (2 * t) + (x * 256 + y) := by
    rw [weigh_pseu, weigh_pseu, weigh_set 0 hl2, weigh_set 0 hl1, getD_set _ _ _ _ hl1, if_neg (by omega)]
    unfold be16 wt
    rw [if_pos (by omega), if_pos (by omega), if_neg (by omega), if_neg (by omega)]
    omega
  have glen : ((B.set (2 * t) x).set (2 * t + 1) y).length = 8 + l.length := by rw [List.length_set, List.length_set, hlen]
  have hpos : 0 < weigh 0 (pseu s d 17 (8 + (l.length : Int)) ++ (B.set (2 * t) x).set (2 * t + 1) y) := by
    have hb' : Byt ((B.set (2 * t) x).set (2 * t + 1) y) := byt_set (byt_set hby _ hx) _ hy
    have := (weigh_bd 0 _ hb').1
    rw [weigh_pseu]
    omega
  have hcs := csum_ones hpos
  have hnew : 0 ≤ x * 256 + y ∧ x * 256 + y ≤ 65535 := by omega
  have hne : csum (pseu s d 17 (8 + (l.length : Int)) ++ (B.set (2 * t) x).set (2 * t + 1) y) ≠ 65535 := by
    intro hh
    have := hcs.1 hh
    rw [g3] at this
    generalize be16 B (2 * t) = was at *
    generalize x * 256 + y = new at *
    omega
  have hcast : ((8 + l.length : Nat) : Int) = 8 + (l.length : Int) := by omega
  unfold uerr
  rw [glen, g1, hcast, if_neg (by omega), if_neg (by omega), if_neg (by simp), if_pos ⟨g2, hne⟩]

theorem udpl_zero (sp dp n f : Int) (l : List Int) : ((udpl sp dp n f l).set 6 0).set 7 0 = udpl sp dp n 0 l := rfl
end Go.Proofs.Ythhkdjoonnofdaa
