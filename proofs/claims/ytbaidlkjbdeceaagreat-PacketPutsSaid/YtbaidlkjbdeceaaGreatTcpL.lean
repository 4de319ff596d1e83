/-
  Proved here: plain laws on segments' bytes: what is laid is read again; sums between other addresses; a bit that is turned. No walk.
-/
import Derived.Test.YtbaidlkjbdeceaaGreatTcpQ
import Derived.Test.YtbaidlkjbdeceaaGreatUdpQ
namespace Go.Proofs.YtbaidlkjbdeceaaGreat
set_option maxRecDepth 200000
open Go.Cul
set_option linter.unusedVariables false

theorem lay_cons (g : Sg) (O : List Int) (F : Int) : g.lay O F = g.sp / 256 :: g.sp % 256 :: g.dp / 256 :: g.dp % 256 :: g.seq / 16777216 :: g.seq / 65536 % 256 :: g.seq / 256 % 256 :: g.seq % 256 ::
    g.ack / 16777216 :: g.ack / 65536 % 256 :: g.ack / 256 % 256 :: g.ack % 256 :: (20 + (O.length : Int)) / 4 * 16 :: g.f :: g.win / 256 :: g.win % 256 :: F / 256 :: F % 256 :: g.urg / 256 :: g.urg % 256 :: (O ++ g.data) := rfl
theorem lay_at (g : Sg) (O : List Int) (F : Int) : be16 (g.lay O F) 0 = g.sp ∧ be16 (g.lay O F) 2 = g.dp ∧ be32 (g.lay O F) 4 = g.seq ∧ be32 (g.lay O F) 8 = g.ack ∧ (g.lay O F).getD 12 0 = (20 + (O.length : Int)) / 4 * 16 ∧ (g.lay O F).getD 13 0 = g.f ∧ be16 (g.lay O F) 14 = g.win ∧ be16 (g.lay O F) 18 = g.urg := by
  exact ⟨by show g.sp / 256 * 256 + g.sp % 256 = g.sp; omega, by show g.dp / 256 * 256 + g.dp % 256 = g.dp; omega, by show g.seq / 16777216 * 16777216 + g.seq / 65536 % 256 * 65536 + g.seq / 256 % 256 * 256 + g.seq % 256 = g.seq; omega, by show g.ack / 16777216 * 16777216 + g.ack / 65536 % 256 * 65536 + g.ack / 256 % 256 * 256 + g.ack % 256 = g.ack; omega, rfl, rfl, by show g.win / 256 * 256 + g.win % 256 = g.win; omega, by show g.urg / 256 * 256 + g.urg % 256 = g.urg; omega⟩
theorem lay_off (g : Sg) {O : List Int} (h : O.length % 4 = 0) (F : Int) : toff (g.lay O F) = 20 + O.length := by
  unfold toff
  rw [(lay_at g O F).2.2.2.2.1]
  omega
theorem lay_drop (g : Sg) (O : List Int) (F : Int) : (g.lay O F).drop 20 = O ++ g.data := by rw [lay_cons]; rfl
theorem lay_opt (g : Sg) {O : List Int} (h : O.length % 4 = 0) (F : Int) : topt (g.lay O F) = O := by
  unfold topt
  rw [lay_off g h, lay_drop, show 20 + O.length - 20 = O.length by omega, List.take_left']
  rfl
theorem lay_data (g : Sg) {O : List Int} (h : O.length % 4 = 0) (F : Int) : (g.lay O F).drop (toff (g.lay O F)) = g.data := by
  rw [lay_off g h, ← List.drop_drop, lay_drop, List.drop_left']
  rfl
/-- A segment's bytes read again. -/
theorem tseg_lay {g : Sg} {O : List Int} (ho : oput g.os = (O, 0)) (h : O.length % 4 = 0) (F : Int) : tseg (g.lay O F) = g ∧ (opar (topt (g.lay O F))).2 = 0 := by
  have hp := opar_put (os := g.os) (by rw [ho])
  rw [ho] at hp
  dsimp only at hp
  obtain ⟨h1, h2, h3, h4, -, h6, h7, h8⟩ := lay_at g O F
  unfold tseg
  rw [h1, h2, h3, h4, h6, h7, h8, lay_data g h, lay_opt g h, hp]
  exact ⟨rfl, rfl⟩

theorem weigh_lay (g : Sg) (O : List Int) (F : Int) : weigh 0 (g.lay O F) = weigh 0 (g.lay O 0) + F := by
  rw [lay_cons, lay_cons]
  simp only [weigh, wt]
  simp
  omega
theorem weigh_lay_nn {g : Sg} (hg : g.ok) {O : List Int} (hO : Byt O) (hl : O.length ≤ 40) : 0 ≤ weigh 0 (g.lay O 0) := (weigh_bd 0 _ (lay_byt hg hO hl (f := 0) (by omega))).1

/-- The weight of the addresses. -/
def aw (s d : Int) : Int := s / 65536 + s % 65536 + d / 65536 + d % 65536
theorem weigh_pl (s d : Int) {n : Nat} (hn : n ≤ 65535) (l : List Int) : weigh 0 (pseu s d 6 n ++ l) = aw s d + 6 + n + weigh 0 l := by
  rw [weigh_pseu, weigh_pseu_val]; unfold aw; omega
theorem aw_nn {s d : Int} (hs : 0 ≤ s ∧ s ≤ 4294967295) (hd : 0 ≤ d ∧ d ≤ 4294967295) : 0 ≤ aw s d := by unfold aw; omega

theorem field_right {s d : Int} {g : Sg} (hg : g.ok) (hs : 0 ≤ s ∧ s ≤ 4294967295) (hd : 0 ≤ d ∧ d ≤ 4294967295) {O : List Int} (hO : Byt O) (hl : O.length ≤ 40) (hf : 20 + O.length + g.data.length ≤ 1480) :
    (aw s d + 6 + (20 + O.length + g.data.length : Nat) + weigh 0 (g.lay O (g.field s d O))) % 65535 = 0 := by
  have hw := weigh_lay_nn hg hO hl
  have ha := aw_nn hs hd
  have h1 := weigh_pl s d (n := 20 + O.length + g.data.length) (by omega) (g.lay O 0)
  have hc : ((20 + O.length + g.data.length : Nat) : Int) = 20 + (O.length : Int) + (g.data.length : Int) := by omega
  rw [hc] at h1 ⊢
  rw [weigh_lay]
  unfold Sg.field csum
  rw [h1]
  have hm := fold16_mod (n := aw s d + 6 + (20 + (O.length : Int) + (g.data.length : Int)) + weigh 0 (g.lay O 0)) (by omega)
  omega

/-- With which error a segment's bytes are told between other addresses. -/
theorem terr_lay {s d s' d' : Int} {g : Sg} (hg : g.ok) (hs : 0 ≤ s ∧ s ≤ 4294967295) (hd : 0 ≤ d ∧ d ≤ 4294967295) (hs' : 0 ≤ s' ∧ s' ≤ 4294967295) (hd' : 0 ≤ d' ∧ d' ≤ 4294967295) {O : List Int} (ho : oput g.os = (O, 0)) (hO : Byt O) (hl : O.length ≤ 40) (h4 : O.length % 4 = 0) (hf : 20 + O.length + g.data.length ≤ 1480) :
    terr s' d' (g.lay O (g.field s d O)) = if aw s d % 65535 = aw s' d' % 65535 then 0 else 20 := by
  have hr := field_right hg hs hd hO hl hf
  have hlen := lay_len g O (g.field s d O)
  have hF := field_bd hg hs hd hO hl
  have hw := weigh_lay_nn hg hO hl
  have hwl := weigh_lay g O (g.field s d O)
  have ha := aw_nn hs' hd'
  have h1 := weigh_pl s' d' (n := 20 + O.length + g.data.length) (by omega) (g.lay O (g.field s d O))
  have hcs := csum_ones (l := pseu s' d' 6 ((20 + O.length + g.data.length : Nat) : Int) ++ g.lay O (g.field s d O)) (by rw [h1]; omega)
  rw [h1] at hcs
  unfold terr
  rw [hlen, lay_off g h4, if_neg (by omega), if_neg (by omega), if_neg (by omega), if_neg (by omega), (tseg_lay ho h4 _).2]
  by_cases h : aw s d % 65535 = aw s' d' % 65535
  · rw [if_pos h, if_neg (by simp only [ne_eq, Classical.not_not]; exact hcs.2 (by omega)), if_neg (by simp)]
  · rw [if_neg h, if_pos (fun hh => h (by have := hcs.1 hh; omega))]

theorem tpar_lay {s d s' d' : Int} {g : Sg} (hg : g.ok) (hs : 0 ≤ s ∧ s ≤ 4294967295) (hd : 0 ≤ d ∧ d ≤ 4294967295) (hs' : 0 ≤ s' ∧ s' ≤ 4294967295) (hd' : 0 ≤ d' ∧ d' ≤ 4294967295) {O : List Int} (ho : oput g.os = (O, 0)) (hO : Byt O) (hl : O.length ≤ 40) (h4 : O.length % 4 = 0) (hf : 20 + O.length + g.data.length ≤ 1480) :
    tpar s' d' (g.lay O (g.field s d O)) = if aw s d % 65535 = aw s' d' % 65535 then (g, 0) else (Sg.none, 20) := by
  unfold tpar
  rw [terr_lay hg hs hd hs' hd' ho hO hl h4 hf, (tseg_lay ho h4 _).1]
  split <;> simp

theorem csum_lay {s d : Int} {g : Sg} (hg : g.ok) (hs : 0 ≤ s ∧ s ≤ 4294967295) (hd : 0 ≤ d ∧ d ≤ 4294967295) {O : List Int} (hO : Byt O) (hl : O.length ≤ 40) (hf : 20 + O.length + g.data.length ≤ 1480) :
    csum (pseu s d 6 ((20 + O.length + g.data.length : Nat) : Int) ++ g.lay O (g.field s d O)) = 65535 := by
  have hr := field_right hg hs hd hO hl hf
  have hF := field_bd hg hs hd hO hl
  have hw := weigh_lay_nn hg hO hl
  have hwl := weigh_lay g O (g.field s d O)
  have ha := aw_nn hs hd
  have h1 := weigh_pl s d (n := 20 + O.length + g.data.length) (by omega) (g.lay O (g.field s d O))
  exact (csum_ones (by rw [h1]; omega)).2 (by rw [h1]; exact hr)

theorem csum_addr {s d : Int} (hs : 0 ≤ s ∧ s ≤ 4294967295) (hd : 0 ≤ d ∧ d ≤ 4294967295) : csum (pseu s d 0 0) = fold16 (aw s d) := by
  unfold csum; rw [weigh_pseu_val]; unfold aw; congr 1; omega
/-- The law's own word for two sums that are one. -/
theorem alike_addr {s d s' d' : Int} (hs : 0 ≤ s ∧ s ≤ 4294967295) (hd : 0 ≤ d ∧ d ≤ 4294967295) (hs' : 0 ≤ s' ∧ s' ≤ 4294967295) (hd' : 0 ≤ d' ∧ d' ≤ 4294967295) :
    like (csum (pseu s d 0 0)) (csum (pseu s' d' 0 0)) = decide (aw s d % 65535 = aw s' d' % 65535) := by
  have h1 := aw_nn hs hd
  have h2 := aw_nn hs' hd'
  rw [csum_addr hs hd, csum_addr hs' hd']
  have b1 := fold16_bd h1
  have b2 := fold16_bd h2
  have m1 := fold16_mod h1
  have m2 := fold16_mod h2
  rw [Bool.eq_iff_iff, decide_eq_true_iff]
  refine ⟨fun h => ?_, fun h => like_of_mod b1.1 b1.2 b2.1 b2.2 (by omega)⟩
  have := mod_of_like h
  omega

/-- What bytes say. -/
theorem tseg_ok {l : List Int} (hb : Byt l) : (tseg l).ok := by
  refine ⟨be16_bd hb 0, be16_bd hb 2, be32_bd hb 4, be32_bd hb 8, hb.at 13, be16_bd hb 14, be16_bd hb 18, ?_, hb.drop _⟩
  exact opar_byt ((hb.drop 20).take _)
theorem none_ok : Sg.none.ok := ⟨by decide, by decide, by decide, by decide, by decide, by decide, by decide, (fun _ h => by cases h), (fun _ h => by cases h)⟩
theorem tpar_ok {s d : Int} {l : List Int} (hb : Byt l) : (tpar s d l).1.ok := by
  unfold tpar
  split
  · exact tseg_ok hb
  · exact none_ok
theorem tpar_err {s d : Int} {l : List Int} : (tpar s d l).2 = terr s d l := by unfold tpar; split <;> simp_all
theorem tpar_none {s d : Int} {l : List Int} (h : (tpar s d l).2 ≠ 0) : (tpar s d l).1 = Sg.none := by
  rw [tpar_err] at h; unfold tpar; rw [if_neg h]

/-- Options that were read take no more bytes than they took. -/
theorem oput_opar_len {l : List Int} (hb : Byt l) (h : (opar l).2 = 0) (h4 : l.length % 4 = 0) : (oput (opar l).1).1.length ≤ l.length := by
  unfold opar at h ⊢
  split at h
  · cases h
  · rename_i h40
    rw [if_neg h40]
    split at h
    · rename_i h5
      rw [if_pos h5]
      obtain ⟨a, b, c⟩ := opS_good _ l (Nat.le_refl _) (by omega) hb
      unfold oput
      rw [if_neg (by simp [a]), if_neg (by omega)]
      simp only [List.length_append, zeros, List.length_replicate, pad]
      omega
    · rename_i h5; exact absurd h h5

/-- What was read well may be laid, and is no longer. -/
theorem again {s d : Int} {l : List Int} (hb : Byt l) (h : terr s d l = 0) : ∃ O, oput (tseg l).os = (O, 0) ∧ Byt O ∧ O.length ≤ 40 ∧ O.length % 4 = 0 ∧ 20 + O.length + (tseg l).data.length ≤ l.length ∧ l.length ≤ 1480 := by
  unfold terr at h
  split at h
  · cases h
  split at h
  · cases h
  split at h
  · cases h
  split at h
  · cases h
  split at h
  · cases h
  split at h
  · cases h
  rename_i h1 h2 h3 h4 h5 h6
  have h6' : (opar (topt l)).2 = 0 := by omega
  have hbt : Byt (topt l) := (hb.drop 20).take _
  have ht4 : toff l % 4 = 0 := by unfold toff; omega
  have htl : (topt l).length = toff l - 20 := by unfold topt; simp; omega
  have hlen := oput_opar_len hbt h6' (by omega)
  have hp := (opar_again hbt h6').1
  obtain ⟨O, E, ho, h7, h8⟩ := oput_split (opar (topt l)).1
  rw [ho] at hp hlen
  dsimp only at hp hlen
  subst hp
  refine ⟨O, ho, ?_, h7, h8, ?_, by omega⟩
  · have := oput_byt (opar_byt hbt); rw [ho] at this; exact this
  · show 20 + O.length + (l.drop (toff l)).length ≤ l.length
    rw [List.length_drop]
    omega

theorem tsame_refl (g : Sg) : tsame g g = true := (tsame_iff g g).2 rfl

/-- With one bit turned the sum is wrong. -/
theorem terr_bit {s d : Int} {g : Sg} (hg : g.ok) (hs : 0 ≤ s ∧ s ≤ 4294967295) (hd : 0 ≤ d ∧ d ≤ 4294967295) {O : List Int} (hO : Byt O) (hl : O.length ≤ 40) (hf : 20 + O.length + g.data.length ≤ 1480)
    {i : Nat} {x : Int} {b : Nat} (hi : i < 20 + O.length + g.data.length) (hb : b < 8) (hx : 0 ≤ x ∧ x ≤ 255) (hd2 : x - (g.lay O (g.field s d O)).getD i 0 = (2 ^ b : Nat) ∨ (g.lay O (g.field s d O)).getD i 0 - x = (2 ^ b : Nat)) :
    terr s d ((g.lay O (g.field s d O)).set i x) ≠ 0 := by
  have hr := field_right hg hs hd hO hl hf
  have hlen := lay_len g O (g.field s d O)
  have hF := field_bd hg hs hd hO hl
  have hby := lay_byt hg hO hl hF
  generalize g.lay O (g.field s d O) = L at *
  have hby' : Byt (L.set i x) := byt_set hby i hx
  have ha := aw_nn hs hd
  have hw := (weigh_bd 0 _ hby').1
  have hset := weigh_set 0 (show i < L.length by omega) x
  have h1 := weigh_pl s d (n := 20 + O.length + g.data.length) (by omega) (L.set i x)
  have hcs := csum_ones (l := pseu s d 6 ((20 + O.length + g.data.length : Nat) : Int) ++ L.set i x) (by rw [h1]; omega)
  rw [h1] at hcs
  intro h
  have hc : csum (pseu s d 6 ((20 + O.length + g.data.length : Nat) : Int) ++ L.set i x) = 65535 := by
    unfold terr at h
    rw [List.length_set, hlen] at h
    split at h
    · cases h
    split at h
    · cases h
    split at h
    · cases h
    split at h
    · cases h
    split at h
    · cases h
    rename_i h5
    exact Classical.not_not.1 h5
  have hz := hcs.1 hc
  rw [hset] at hz
  unfold wt at hz
  generalize weigh 0 L = WL at *
  generalize L.getD i 0 = y at *
  have hp : (2 ^ b : Nat) ≤ 128 ∧ 1 ≤ (2 ^ b : Nat) := by
    have : b = 0 ∨ b = 1 ∨ b = 2 ∨ b = 3 ∨ b = 4 ∨ b = 5 ∨ b = 6 ∨ b = 7 := by omega
    rcases this with rfl | rfl | rfl | rfl | rfl | rfl | rfl | rfl <;> decide
  generalize (2 ^ b : Nat) = t at *
  split at hz <;> omega
end Go.Proofs.YtbaidlkjbdeceaaGreat
