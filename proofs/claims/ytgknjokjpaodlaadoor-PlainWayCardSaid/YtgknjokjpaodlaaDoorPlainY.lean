/-
  Proved here: the way of a flow, step by step, as plain mathematics: the plain law of PlainWay. No walk.
-/
import Derived.Test.YtgknjokjpaodlaaDoorPlainD
import Derived.Deep.MidRow
namespace Go.Proofs.YtgknjokjpaodlaaDoor
open Go Go.Cul
set_option linter.unusedVariables false

/-- Packet i of a slice of seen ones: there it lies. -/
def SeenAt (w : World) (b o : Nat) (i : Nat) (p : Pk) (ins : Bool) (now : Int) : Prop :=
  w.rangeAt b (o + i * 26) p.cells.toList ∧ w.cell? ⟨b, o + i * 26 + 24, none⟩ = some (.bool ins) ∧ w.cell? ⟨b, o + i * 26 + 25, none⟩ = some (.int .u64 now)

def stB (p6 sh os is oa ia oe ie : Bool) : Int := if sh then 5 else if !os || !is then 1 else if !p6 then 3 else if !oa || !ia then 2 else if !oe && !ie then 3 else 4
theorem stB_mono : ∀ p6 sh os is oa ia oe ie sh' os' is' oa' ia' oe' ie' : Bool, ((!sh || sh') && (!os || os') && (!is || is') && (!oa || oa') && (!ia || ia') && (!oe || oe') && (!ie || ie')) = true → stB p6 sh os is oa ia oe ie ≤ stB p6 sh' os' is' oa' ia' oe' ie' := by decide +kernel
theorem stB_bd : ∀ p6 sh os is oa ia oe ie : Bool, 1 ≤ stB p6 sh os is oa ia oe ie ∧ stB p6 sh os is oa ia oe ie ≤ 5 ∧ (stB p6 sh os is oa ia oe ie = 5 ↔ sh = true) ∧ (2 < stB p6 sh os is oa ia oe ie ∧ stB p6 sh os is oa ia oe ie < 5 → os = true ∧ is = true) ∧ (p6 = false → sh = false → stB p6 sh os is oa ia oe ie = 1 ∨ stB p6 sh os is oa ia oe ie = 3) := by decide +kernel

theorem stM_B (m : Fl) (h : m.proto ≠ 0) : stM m = stB (m.proto == 6) m.shut m.o.sent m.i.sent m.o.acks m.i.acks m.o.ended m.i.ended := by
  unfold stM stB
  have h0 : (m.proto == 0) = false := by simp [h]
  rw [h0]
  have h6 : (m.proto != 6) = !(m.proto == 6) := rfl
  rw [h6]
  simp

/-- What is kept at each round. -/
structure Way (pr : Int) (i : Nat) (now : Int) (m : Fl) (s0 s1 f0 f1 r : Bool) : Prop where
  idle : m.idle = 80
  wait : m.wait = 5
  proto : m.proto = pr
  ok : m.ok
  last : 0 ≤ m.last ∧ m.last ≤ now
  since : 0 ≤ m.since ∧ m.since ≤ now
  now : 0 ≤ now ∧ now ≤ 15 * i
  os : m.o.sent = s0
  is : m.i.sent = s1
  oe : m.o.ended = true → pr = 6 ∧ f0 = true
  ie : m.i.ended = true → pr = 6 ∧ f1 = true
  shut : m.shut = true → pr = 6 ∧ (r = true ∨ (f0 = true ∧ f1 = true))

theorem segM_sent (q k f win : Int) (n : Nat) (s : Sd) : (segM q k f win n s).sent = s.sent := by
  unfold segM; split
  · rfl
  · split <;> split <;> rfl
theorem segM_acks (q k f win : Int) (n : Nat) (s : Sd) (h : s.acks = true) : (segM q k f win n s).acks = true := by
  unfold segM; split
  · exact h
  · split <;> split <;> first | rfl | exact h
theorem segM_ended (q k f win : Int) (n : Nat) (s : Sd) : (segM q k f win n s).ended = (s.ended || (fl f 1 && !fl f 4)) := by
  unfold segM
  cases h4 : fl f 4 <;> cases h16 : fl f 16 <;> cases h1 : fl f 1 <;> simp
theorem over_ended {a b : Sd} (h : overM a b = true) : a.ended = true := by
  unfold overM at h
  cases he : a.ended
  · rw [he] at h; simp at h
  · rfl

/-- The flow behind a packet, but for its closing. -/
structure Step (m m2 : Fl) (p : Pk) (ins : Bool) (now : Int) (rst : Bool) : Prop where
  idle : m2.idle = m.idle
  wait : m2.wait = m.wait
  proto : m2.proto = m.proto
  shut : m2.shut = m.shut
  since : m2.since = m.since
  last : m2.last = max m.last now
  os : m2.o.sent = (m.o.sent || !ins)
  is : m2.i.sent = (m.i.sent || ins)
  oa : m.o.acks = true → m2.o.acks = true
  ia : m.i.acks = true → m2.i.acks = true
  oe : m2.o.ended = (m.o.ended || (p.proto == 6 && !ins && fl p.f 1 && !fl p.f 4))
  ie : m2.i.ended = (m.i.ended || (p.proto == 6 && ins && fl p.f 1 && !fl p.f 4))
  rst : rst = true → p.proto = 6 ∧ fl p.f 4 = true

theorem step_of (m : Fl) (p : Pk) (ins : Bool) (now : Int) : Step m (take2 (take1 m ins now) p ins).1 p ins now (take2 (take1 m ins now) p ins).2 := by
  by_cases h6 : p.proto = 6
  · have hb : (p.proto == 6) = true := by simp [h6]
    unfold take2
    rw [if_pos h6]
    cases ins
    · simp only [take1, Fl.set, Fl.side, Bool.false_eq_true, if_false, Bool.not_false, if_true]
      refine ⟨rfl, rfl, rfl, rfl, rfl, rfl, ?_, ?_, ?_, ?_, ?_, ?_, ?_⟩
      · simp [segM_sent]
      · simp
      · intro h; exact segM_acks _ _ _ _ _ _ h
      · exact fun h => h
      · rw [segM_ended]; simp [hb]
      · simp
      · intro h; simp only [Bool.and_eq_true] at h; exact ⟨h6, h.1⟩
    · simp only [take1, Fl.set, Fl.side, Bool.not_true, if_true, Bool.false_eq_true, if_false]
      refine ⟨rfl, rfl, rfl, rfl, rfl, rfl, ?_, ?_, ?_, ?_, ?_, ?_, ?_⟩
      · simp
      · simp [segM_sent]
      · exact fun h => h
      · intro h; exact segM_acks _ _ _ _ _ _ h
      · simp
      · rw [segM_ended]; simp [hb]
      · intro h; simp only [Bool.and_eq_true] at h; exact ⟨h6, h.1⟩
  · have hb : (p.proto == 6) = false := by simp [h6]
    unfold take2
    rw [if_neg h6]
    cases ins
    · simp only [take1, Fl.set, Fl.side, Bool.false_eq_true, if_false]
      refine ⟨rfl, rfl, rfl, rfl, rfl, rfl, by simp, by simp, fun h => h, fun h => h, by simp [hb], by simp [hb], fun h => by cases h⟩
    · simp only [take1, Fl.set, Fl.side, if_true]
      refine ⟨rfl, rfl, rfl, rfl, rfl, rfl, by simp, by simp, fun h => h, fun h => h, by simp [hb], by simp [hb], fun h => by cases h⟩

/-- What the law tells of a packet that is taken. -/
structure Told (proto : Int) (now : Int) (m m' : Fl) (s0 s1 f0 f1 r : Bool) : Prop where
  up : stM m ≤ stM m'
  bd : 1 ≤ stM m ∧ stM m' ≤ 5
  both : 2 < stM m' → stM m' < 5 → s0 = true ∧ s1 = true
  shut : stM m' = 5 → proto = 6 ∧ (r = true ∨ (f0 = true ∧ f1 = true))
  plain : proto ≠ 6 → stM m' = 1 ∨ stM m' = 3
  al1 : stM m = 5 → alM m' = alM m
  al2 : stM m ≠ 5 → stM m' = 5 → alM m' = now + 5
  al3 : stM m ≠ 5 → stM m' ≠ 5 → alM m ≤ alM m' ∧ now < alM m'

theorem way_step {proto : Int} {i : Nat} {now : Int} {m : Fl} {s0 s1 f0 f1 r : Bool} (h : Way proto i now m s0 s1 f0 f1 r) (hp0 : proto ≠ 0) (hi : i < 60) (p : Pk) (hp : p.ok) (hpp : p.proto = proto) (ins : Bool) (d : Int) (hd : 0 ≤ d ∧ d ≤ 15) :
    takeE m p = 0 ∧
    Way proto (i + 1) (now + d) (takeM m p ins (now + d)) (s0 || !ins) (s1 || ins) (f0 || (!ins && fl p.f 1 && !fl p.f 4)) (f1 || (ins && fl p.f 1 && !fl p.f 4)) (r || fl p.f 4) ∧
    Told proto (now + d) m (takeM m p ins (now + d)) (s0 || !ins) (s1 || ins) (f0 || (!ins && fl p.f 1 && !fl p.f 4)) (f1 || (ins && fl p.f 1 && !fl p.f 4)) (r || fl p.f 4) := by
  have hE : takeE m p = 0 := by
    unfold takeE
    rw [h.proto, if_neg hp0, if_pos hpp]
  have hok := takeM_ok (ins := ins) (now := now + d) h.ok hp
  have hM : takeM m p ins (now + d) = take3 (take2 (take1 m ins (now + d)) p ins).1 (take2 (take1 m ins (now + d)) p ins).2 := by
    unfold takeM; rw [if_pos hE]
  have st := step_of m p ins (now + d)
  rw [hM] at hok ⊢
  generalize (take2 (take1 m ins (now + d)) p ins).1 = m2 at *
  generalize (take2 (take1 m ins (now + d)) p ins).2 = rst at *
  clear hM
  have hl2 : m2.last = now + d := by rw [st.last]; have := h.last; omega
  obtain ⟨h0, h1, h2, h3, h4⟩ := take3_sides m2 rst
  have hpr : (take3 m2 rst).proto = proto := by rw [take3_proto, st.proto, h.proto]
  have hoe : m2.o.ended = true → proto = 6 ∧ (f0 || (!ins && fl p.f 1 && !fl p.f 4)) = true := by
    intro he
    rw [st.oe] at he
    cases hm : m.o.ended
    · rw [hm, hpp] at he
      simp at he
      exact ⟨he.1.1.1, by simp [he]⟩
    · obtain ⟨h6, hf⟩ := h.oe hm
      exact ⟨h6, by simp [hf]⟩
  have hie : m2.i.ended = true → proto = 6 ∧ (f1 || (ins && fl p.f 1 && !fl p.f 4)) = true := by
    intro he
    rw [st.ie] at he
    cases hm : m.i.ended
    · rw [hm, hpp] at he
      simp at he
      exact ⟨he.1.1.1, by simp [he]⟩
    · obtain ⟨h6, hf⟩ := h.ie hm
      exact ⟨h6, by simp [hf]⟩
  have hsh : (take3 m2 rst).shut = true → proto = 6 ∧ ((r || fl p.f 4) = true ∨ ((f0 || (!ins && fl p.f 1 && !fl p.f 4)) = true ∧ (f1 || (ins && fl p.f 1 && !fl p.f 4)) = true)) := by
    intro he
    unfold take3 at he
    split at he
    · rename_i hc
      simp only [Bool.and_eq_true, Bool.or_eq_true] at hc
      rcases hc.2 with hr | ⟨ho1, ho2⟩
      · obtain ⟨q1, q2⟩ := st.rst hr
        exact ⟨by rw [← hpp]; exact q1, .inl (by simp [q2])⟩
      · obtain ⟨q1, q2⟩ := hoe (over_ended ho1)
        exact ⟨q1, .inr ⟨q2, (hie (over_ended ho2)).2⟩⟩
    · rw [st.shut] at he
      obtain ⟨q1, q2⟩ := h.shut he
      refine ⟨q1, ?_⟩
      rcases q2 with q2 | ⟨q2, q3⟩
      · exact .inl (by simp [q2])
      · exact .inr ⟨by simp [q2], by simp [q3]⟩
  have hmono : m.shut = true → (take3 m2 rst).shut = true := by
    intro he
    unfold take3
    split
    · rfl
    · rw [st.shut]; exact he
  have hsin : (take3 m2 rst).since = if m.shut = false ∧ (take3 m2 rst).shut = true then now + d else m.since := by
    unfold take3
    split
    · rename_i hc
      simp only [Bool.and_eq_true, Bool.not_eq_true'] at hc
      rw [st.shut] at hc
      rw [if_pos ⟨hc.1, rfl⟩]
      exact hl2
    · rw [st.shut, st.since, if_neg (by rintro ⟨a, b⟩; rw [a] at b; cases b)]
  have hos : (take3 m2 rst).o.sent = (s0 || !ins) := by rw [h0, st.os, h.os]
  have his : (take3 m2 rst).i.sent = (s1 || ins) := by rw [h1, st.is, h.is]
  have hmb := stM_B m (by rw [h.proto]; exact hp0)
  have hmb' := stM_B (take3 m2 rst) (by rw [hpr]; exact hp0)
  rw [h.proto] at hmb
  rw [hpr] at hmb'
  have hup : stM m ≤ stM (take3 m2 rst) := by
    rw [hmb, hmb']
    refine stB_mono _ _ _ _ _ _ _ _ _ _ _ _ _ _ _ ?_
    have e1 : (!m.shut || (take3 m2 rst).shut) = true := by cases hm : m.shut; (· rfl); rw [hmono hm]; rfl
    have e2 : (!m.o.sent || (take3 m2 rst).o.sent) = true := by rw [hos, h.os]; cases s0 <;> simp
    have e3 : (!m.i.sent || (take3 m2 rst).i.sent) = true := by rw [his, h.is]; cases s1 <;> simp
    have e4 : (!m.o.acks || (take3 m2 rst).o.acks) = true := by rw [h0]; cases hm : m.o.acks; (· rfl); rw [st.oa hm]; rfl
    have e5 : (!m.i.acks || (take3 m2 rst).i.acks) = true := by rw [h1]; cases hm : m.i.acks; (· rfl); rw [st.ia hm]; rfl
    have e6 : (!m.o.ended || (take3 m2 rst).o.ended) = true := by rw [h0, st.oe]; cases m.o.ended <;> simp
    have e7 : (!m.i.ended || (take3 m2 rst).i.ended) = true := by rw [h1, st.ie]; cases m.i.ended <;> simp
    rw [e1, e2, e3, e4, e5, e6, e7]
    rfl
  have b1 := stB_bd (proto == 6) m.shut m.o.sent m.i.sent m.o.acks m.i.acks m.o.ended m.i.ended
  have b2 := stB_bd (proto == 6) (take3 m2 rst).shut (take3 m2 rst).o.sent (take3 m2 rst).i.sent (take3 m2 rst).o.acks (take3 m2 rst).i.acks (take3 m2 rst).o.ended (take3 m2 rst).i.ended
  rw [← hmb] at b1
  rw [← hmb', hos, his] at b2
  have hla : 0 ≤ (take3 m2 rst).last ∧ (take3 m2 rst).last ≤ now + d := by rw [h2, hl2]; have := h.now; omega
  have hsi : 0 ≤ (take3 m2 rst).since ∧ (take3 m2 rst).since ≤ now + d := by rw [hsin]; have := h.now; have := h.since; split <;> omega
  have hnw : 0 ≤ now + d ∧ now + d ≤ 15 * ((i + 1 : Nat) : Int) := by have := h.now; omega
  have al : ∀ x : Fl, x.idle = 80 → x.wait = 5 → 1 ≤ stM x → (0 ≤ x.last ∧ x.last ≤ 1000) → (0 ≤ x.since ∧ x.since ≤ 1000) → alM x = if stM x = 5 then x.since + 5 else if stM x = 1 ∨ stM x = 2 then x.last + 10 else x.last + 80 := by
    intro x e1 e2 e3 e4 e5
    unfold alM
    rw [e1, e2, if_neg (by omega)]
    split
    · omega
    · split <;> omega
  have a1 := al m h.idle h.wait b1.1 (by have := h.last; have := h.now; omega) (by have := h.since; have := h.now; omega)
  have a2 := al (take3 m2 rst) (by rw [h3, st.idle, h.idle]) (by rw [h4, st.wait, h.wait]) b2.1 (by omega) (by omega)
  refine ⟨hE, ⟨by rw [h3, st.idle, h.idle], by rw [h4, st.wait, h.wait], hpr, hok, hla, hsi, hnw, hos, his, fun he => hoe (by rw [← h0]; exact he), fun he => hie (by rw [← h1]; exact he), hsh⟩, ?_⟩
  refine ⟨hup, ⟨b1.1, b2.2.1⟩, fun q1 q2 => b2.2.2.2.1 ⟨q1, q2⟩, fun q => hsh (b2.2.2.1.1 q), fun q => ?_, fun q => ?_, fun q1 q2 => ?_, fun q1 q2 => ?_⟩
  · refine b2.2.2.2.2 (by simp [q]) ?_
    cases hm : (take3 m2 rst).shut
    · rfl
    · exact absurd (hsh hm).1 q
  · have hm := b1.2.2.1.1 q
    rw [a1, a2, if_pos q, if_pos (b2.2.2.1.2 (hmono hm)), hsin, if_neg (by rw [hm]; simp)]
  · have hm' := b2.2.2.1.1 q2
    have hm : m.shut = false := by
      cases hm : m.shut
      · rfl
      · exact absurd (b1.2.2.1.2 hm) q1
    rw [a2, if_pos q2, hsin, if_pos ⟨hm, hm'⟩]
  · rw [a1, a2, if_neg q1, if_neg q2, h2, hl2]
    have := h.last
    split <;> split <;> omega
end Go.Proofs.YtgknjokjpaodlaaDoor
