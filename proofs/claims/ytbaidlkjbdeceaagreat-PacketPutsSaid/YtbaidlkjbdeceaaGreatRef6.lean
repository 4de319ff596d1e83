/-
  Proved here: what culvertref06's lay, num, whole compute.
-/
import Derived.Test.YtbaidlkjbdeceaaGreatRef5P
import Derived.Test.YtbaidlkjbdeceaaGreatSums
namespace Go.Proofs.YtbaidlkjbdeceaaGreat
set_option maxRecDepth 200000
open Go.ChangeShapes Go.WideShapes Go.ChangeAt Go.RowKit Go.Cul Go.Loose
set_option linter.unusedVariables false

/-- Bytes laid over a list. -/
def over (l : List Int) (p : Nat) (r : List Int) : List Int := l.take p ++ r ++ l.drop (p + r.length)
theorem over_len {l r : List Int} {p : Nat} (h : p + r.length ≤ l.length) : (over l p r).length = l.length := by
  unfold over
  simp only [List.length_append, List.length_take, List.length_drop]; omega
theorem pow2_nn (k : Nat) : (0 : Int) ≤ 2 ^ k := by
  induction k with
  | zero => decide
  | succ k ih => rw [Int.pow_succ]; omega
theorem bys_cons (k : Nat) (n : Int) : bys (k + 1) n = n / 2 ^ (8 * k) % 256 :: bys k n := rfl

theorem over_set {l r : List Int} {q : Nat} {x : Int} (h : q + 1 + r.length ≤ l.length) : (over l (q + 1) r).set q x = over l q (x :: r) := by
  unfold over
  rw [List.append_assoc, List.append_assoc, List.set_append_left _ _ (by rw [List.length_take]; omega)]
  have h1 : (l.take (q + 1)).set q x = l.take q ++ [x] := by
    have e : l.take (q + 1) = l.take q ++ [l[q]'(by omega)] := by rw [List.take_add_one]; simp [show q < l.length by omega]
    have hq : (l.take q).length = q := by rw [List.length_take]; omega
    rw [e, List.set_append_right _ _ (by omega), hq, Nat.sub_self]
    rfl
  rw [h1, List.length_cons, show q + (r.length + 1) = q + 1 + r.length by omega]
  simp

set_option maxHeartbeats 1000000 in
theorem rlay6_any (v : Value) (l : List Int) (p k : Nat) (n : Int) (w : World) (base : Nat) (hv : Own w base 5 .u8 v l) (hk0 : 0 < k) (hk : k ≤ 4) (hp : p + k ≤ l.length) (hn : 0 ≤ n ∧ n ≤ 4294967295) (hl : l.length ≤ 140737488355328) :
    Calls Tryz.prog 49 #[v, .int .i64 p, .int .i64 k, .int .u32 n] w fun e w' => e = .returned (.tuple #[]) ∧ Own w' base 5 .u8 v (over l p (bys k n)) ∧ Mvs (fun j => v.ownBlock = some j) w w' := by
  obtain ⟨g, cap, rfl, hg1, hg2, -, -, hc1, hc2, -⟩ := hv.open (by omega)
  unfold maxLen at hc2
  have HV := Lib.hid hv
  have hkw : IntKind.i64.wrap ((k : Int) - 1) = (k : Int) - 1 := by rw [IntWalk.i64_in _ (by omega)]
  clear hv
  go_enter Tryz.func49, Tryz.ntmps49
  go_wp2_with fail
  go_loopw [3, 8] (fun nv i wq => ∃ (t : Nat) (m : Int), t ≤ k ∧ i = .int .i64 ((k : Int) - 1 - t) ∧ nv = .int .u32 m ∧ Hid (m = n / 2 ^ (8 * t)) ∧ (0 ≤ m ∧ m ≤ 4294967295) ∧ Own wq base 5 .u8 (.slice (some ⟨g, 0, none⟩) l.length cap) (over l (p + (k - t)) (bys t n)) ∧ Mvs (fun j => some g = some j) w wq) (fun _ i _ => ((intOf i) + 1).toNat)
  case atStart => exact ⟨0, n, Nat.zero_le _, by simp, rfl, (show n = n / 2 ^ (8 * 0) by simp), hn, by unfold over bys; simpa using HV.out, Mvs.refl _ _⟩
  case round =>
    obtain ⟨t, m, ht, rfl, rfl, hm, hmb, hown, hmv⟩ := hrel
    by_cases hlt : t < k
    · have hge : (0 : Int) ≤ (k : Int) - 1 - t := by omega
      have hbl : (bys t n).length = t := bys_len t n
      have hol : (over l (p + (k - t)) (bys t n)).length = l.length := over_len (by omega)
      obtain ⟨g', cap', he, -, hg2', hcell, hfz, -, -, hset⟩ := hown.open (by omega)
      rw [hol] at he
      cases he
      obtain ⟨q, hq⟩ : ∃ q : Nat, Hid (q = p + (k - t - 1)) := ⟨_, Lib.hid rfl⟩
      have hqp : p + (k - t) = q + 1 := by rw [hq.out]; omega
      rw [hqp] at hcell hset hol
      have c1 := hcell q (by omega)
      have f1 := hfz q
      have hs1 := hset (m % 256) q (by omega)
      rw [over_set (by omega)] at hs1
      have hcons : m % 256 :: bys t n = bys (t + 1) n := by rw [bys_cons, hm.out]
      rw [hcons] at hs1
      have hqi : IntKind.i64.wrap ((p : Int) + ((k : Int) - 1 - t)) = (q : Int) := by rw [IntWalk.i64_in _ (by omega), hq.out]; omega
      have hqi2 : (p : Int) + ((k : Int) - 1 - t) = (q : Int) := by rw [hq.out]; omega
      have hql : (0 : Int) ≤ (q : Int) ∧ (q : Int) < (l.length : Int) := by rw [hq.out]; omega
      have hw8 : IntKind.u8.wrap m = m % 256 := by simp [IntKind.wrap, IntKind.bits, IntKind.signed]
      have hd1 : m.tdiv 256 = m / 256 := Int.tdiv_eq_ediv_of_nonneg hmb.1
      have hwi : IntKind.i64.wrap ((k : Int) - 1 - t - 1) = (k : Int) - 1 - ((t + 1 : Nat) : Int) := by rw [IntWalk.i64_in _ (by omega)]; omega
      have hm2 : Hid (m / 256 = n / 2 ^ (8 * (t + 1))) := by
        unfold Hid
        rw [hm.out, Int.ediv_ediv_of_nonneg (pow2_nn _), show 8 * (t + 1) = 8 * t + 8 by omega, Int.pow_add]
        rfl
      have HS := Lib.hid hs1
      have hmv2 := Lib.hid (fun u => hmv.tr (Mvs.set (S := fun j => some g = some j) wr ⟨g, q, none⟩ u rfl))
      have hqp1 : Hid (p + (k - (t + 1)) = q) := by unfold Hid; rw [hq.out]; omega
      clear hcell hfz hset hown hs1 hol hbl hcons hqp
      go_wp2_with fail
      case roundEnd => exact ⟨⟨t + 1, m / 256, by omega, by first | rfl | (congr 1; omega), rfl, hm2, by omega, by rw [hqp1.out]; exact HS.out, hmv2.out _⟩, by simp [intOf]; omega⟩
    · obtain rfl : t = k := by omega
      rw [show p + (t - t) = p by omega] at hown
      have hge : ¬ (0 : Int) ≤ (t : Int) - 1 - t := by omega
      go_wp2_with fail
      go_end0
      exact ⟨rfl, hown, hmv⟩

theorem rwhole_any (s d : Int) (v : Value) (l : List Int) (w : World) (hv : Rd .u8 w v l) (hs : 0 ≤ s ∧ s ≤ 4294967295) (hd : 0 ≤ d ∧ d ≤ 4294967295) (hl : l.length ≤ 65535) :
    Calls Tryz.prog 51 #[.int .u32 s, .int .u32 d, v] w fun e w' => ∃ u, e = .returned u ∧ Own w' w.heap.size 5 .u8 u (pseu s d 6 l.length ++ l) ∧ Ext w w' := by
  obtain ⟨a, c, rfl, hc1, hc2, -⟩ := id hv
  unfold maxLen at hc2
  have HV := Lib.hid hv
  have hpl := Lib.hid (show (pseu s d 6 l.length).length = 12 from rfl)
  clear hv
  go_enter Tryz.func51, Tryz.ntmps51
  go_wp2_with fail
  refine (rpseudo_any s d 6 l.length w hs hd (by decide)).mono ?_
  rintro e w1 ⟨u1, rfl, hu1, hx1⟩
  obtain ⟨a1, n1, c1, rfl⟩ := hu1.rd.shape
  go_wp2_with (at_builtin; go_must (refine wpList_app isU8 rfl (.tmp 11) (.tmp 12) rfl w.heap.size _ _ rfl hu1 _ l rfl (HV.out.ext hx1) (by rw [hpl.out]; omega) (by rw [hpl.out]; unfold maxLen; omega) hx1.size ?_); intro v2 w2 hown2 hg2 hat2)
  go_ret
  exact ⟨_, rfl, hown2, hu1.below hg2 hx1 hx1.size⟩

theorem num_lt {l : List Int} (hb : Byt l) (hl : l.length ≤ 4) : 0 ≤ num l ∧ num l ≤ 4294967295 := num_bd hb hl
theorem num_lt3 {l : List Int} (hb : Byt l) (hl : l.length ≤ 3) : 0 ≤ num l ∧ num l ≤ 16777215 := by
  have h := num_bd (l := l ++ [255]) (hb.app (show Byt [255] from byt_of rfl)) (by simp; omega)
  rw [num_snoc] at h
  omega

end Go.Proofs.YtbaidlkjbdeceaaGreat
