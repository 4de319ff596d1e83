/-
  Proved here: the law UdpEnds returns true. Condition: each slice at most 2^47 - 4096 bytes (the form's own reach).
-/
import Derived.Test.YthhkdjoonnofdaaUdpQ
import Derived.Deep.Cut
namespace Go.Proofs.Ythhkdjoonnofdaa.udpEnds
open Go.ChangeShapes Go.WideShapes Go.ChangeAt Go.RowKit Go.Cul
set_option linter.unusedVariables false

theorem high16 (x : Int) (h : 0 ≤ x) (h' : x ≤ 4294967295) : bits BinOp.and IntKind.u32 x 4294901760 = x / 65536 * 65536 := by
  have h1 := u32_and x 4294901760 h (by omega) (by decide) (by decide)
  rw [h1]
  have h2 : (4294901760 : Int).toNat = 4294901760 := rfl
  rw [h2]
  have h3 : x.toNat &&& 4294901760 = x.toNat / 65536 * 65536 := by
    obtain ⟨n, hn⟩ : ∃ n, n = x.toNat := ⟨_, rfl⟩
    rw [← hn]
    have hlt : n < 2 ^ 32 := by omega
    apply Nat.eq_of_testBit_eq
    intro i
    rw [Nat.testBit_and, show n / 65536 * 65536 = (n >>> 16) <<< 16 by rw [Nat.shiftRight_eq_div_pow, Nat.shiftLeft_eq], Nat.testBit_shiftLeft, Nat.testBit_shiftRight]
    by_cases hi : i < 16
    · have : (4294901760 : Nat).testBit i = false := by
        rcases (by omega : i = 0 ∨ i = 1 ∨ i = 2 ∨ i = 3 ∨ i = 4 ∨ i = 5 ∨ i = 6 ∨ i = 7 ∨ i = 8 ∨ i = 9 ∨ i = 10 ∨ i = 11 ∨ i = 12 ∨ i = 13 ∨ i = 14 ∨ i = 15) with h | h | h | h | h | h | h | h | h | h | h | h | h | h | h | h <;> subst h <;> decide
      rw [this]
      simp [show ¬ 16 ≤ i by omega]
    · by_cases hi2 : i < 32
      · have : (4294901760 : Nat).testBit i = true := by
          rcases (by omega : i = 16 ∨ i = 17 ∨ i = 18 ∨ i = 19 ∨ i = 20 ∨ i = 21 ∨ i = 22 ∨ i = 23 ∨ i = 24 ∨ i = 25 ∨ i = 26 ∨ i = 27 ∨ i = 28 ∨ i = 29 ∨ i = 30 ∨ i = 31) with h | h | h | h | h | h | h | h | h | h | h | h | h | h | h | h <;> subst h <;> decide
        rw [this]
        simp [show 16 ≤ i by omega, show 16 + (i - 16) = i by omega]
      · have h1 : n.testBit i = false := Nat.testBit_lt_two_pow (Nat.lt_of_lt_of_le hlt (Nat.pow_le_pow_right (by decide) (by omega)))
        simp [h1, show 16 ≤ i by omega, show 16 + (i - 16) = i by omega]
  rw [h3]
  omega
theorem or16_u32 (x y : Int) (h : 0 ≤ x) (h' : x ≤ 65535) (hy : 0 ≤ y) (hy' : y ≤ 65535) : bits BinOp.or IntKind.u32 (x * 65536) y = x * 65536 + y := by
  rw [u32_or _ _ (by omega) (by omega) hy (by omega), nat_join 16 _ _ (by omega) (by omega)]
  omega

def alike (a b : Int) : Bool := (a == b) || ((a == 0) && (b == 65535)) || ((a == 65535) && (b == 0))
theorem alike_spec {a b : Int} (ha : 0 ≤ a ∧ a ≤ 65535) (hb : 0 ≤ b ∧ b ≤ 65535) (c : Int) : ((if (c + a) % 65535 = (c + b) % 65535 then (0 : Int) else 20) == 0) = alike a b := by
  by_cases h : (c + a) % 65535 = (c + b) % 65535
  · rw [if_pos h]
    have : a = b ∨ (a = 0 ∧ b = 65535) ∨ (a = 65535 ∧ b = 0) := by omega
    rcases this with rfl | ⟨rfl, rfl⟩ | ⟨rfl, rfl⟩ <;> simp [alike]
  · rw [if_neg h]
    have h1 : a ≠ b := by intro e; subst e; exact h rfl
    have h2 : ¬ (a = 0 ∧ b = 65535) := by rintro ⟨rfl, rfl⟩; omega
    have h3 : ¬ (a = 65535 ∧ b = 0) := by rintro ⟨rfl, rfl⟩; omega
    have : alike a b = false := by
      rw [← Bool.not_eq_true]
      intro hh
      simp [alike] at hh
      omega
    rw [this]; rfl

set_option maxHeartbeats 1000000 in
theorem walk (w : World) (cs : Array Value) (hcs : Reads w (.agg 2 (.more 1 (.int .u32) (.more 1 (.int .u32) .done))) cs.toList)
    (c1 : Array Value) (h1 : Reads w (.agg 3 (.more 1 (.int .u16) (.more 1 (.int .u16) (.more 1 (.ints .u8 1) .done)))) c1.toList) (wd : Int) (hwd : 0 ≤ wd ∧ wd ≤ 65535) :
    Calls Try.prog 8 #[.agg cs, .agg c1, .int .u16 wd] w fun e w' => e = .returned (.bool true) ∧ Ext w w' := by
  obtain ⟨s, d, rfl, hs, hd⟩ := open_ends hcs
  obtain ⟨sp, dp, v1, l1, rfl, hsp, hdp, hv1, hb1, hn1⟩ := open_datagram h1
  clear hcs h1
  obtain ⟨a1, cap1, rfl, q1, q2, -⟩ := id hv1
  obtain ⟨m1, hm1⟩ : ∃ m : Nat, m = min l1.length 1472 := ⟨_, rfl⟩
  have hml1 : m1 ≤ l1.length := by omega
  have hmb1 : m1 ≤ 1472 := by omega
  have hmin1 : (if (1472 : Int) < (l1.length : Int) then (1472 : Int) else (l1.length : Int)) = (m1 : Int) := by split <;> omega
  have hv1 := hv1.take hml1
  have hb1 := hb1.take m1
  have hL1 : (l1.take m1).length = m1 := by rw [List.length_take]; omega
  clear hm1
  generalize l1.take m1 = L at *
  have hLn : L.length ≤ 1472 := by omega
  have HU := Lib.hid (uput_of (s := s) (d := d) (sp := sp) (dp := dp) hLn)
  have HF := Lib.hid (udpf_bd hs hd hsp hdp (by omega) hb1)
  have HE1 := uerr_other hs hd hd hs hsp hdp hb1 hLn
  have HE2 := fun (s' : Int) (hs' : 0 ≤ s' ∧ s' ≤ 4294967295) => uerr_other hs hd hs' hd hsp hdp hb1 hLn
  have hBl := udpl_len sp dp (8 + L.length) (udpf s d sp dp L) L
  have hBb : Byt (udpl sp dp (8 + L.length) (udpf s d sp dp L) L) := udpl_byt hsp hdp (by omega) (by have := HF.out; omega) hb1
  have HPA := fun (s' d' : Int) (h : uerr s' d' (udpl sp dp (8 + L.length) (udpf s d sp dp L) L) = 0) => upar_of h
  rw [if_pos (by omega)] at HE1
  have HL1 := Lib.hid hL1
  have HB1 := Lib.hid hb1
  have HV1 := Lib.hid hv1
  have hBl' : (udpl sp dp (8 + L.length) (udpf s d sp dp L) L).length ≤ 1480 := by omega
  clear hL1 hb1 hv1 hBl
  generalize udpl sp dp (8 + L.length) (udpf s d sp dp L) L = B at *
  have HPA1 := Lib.hid (HPA d s HE1)
  have HE1' := Lib.hid HE1
  have HE2' := Lib.hid HE2
  clear HE1 HE2 HPA
  go_enter Try.func8, Try.ntmps8
  go_wp2_with fail
  generalize hW : (w.alloc (.cells #[.int .u32 s, .int .u32 d] 24)).alloc (.cells #[.int .u16 sp, .int .u16 dp, .slice a1 m1 cap1] 28) = W
  have hxW : Ext w W := by
    rw [← hW]
    repeat (first | with_reducible exact Below.refl _ _ | with_reducible assumption | with_reducible exact Ext.drN (Ext.rfl' _) _ | with_reducible refine Below.setCell ?_ ?_ _ | with_reducible refine Ext.al ?_ _ | with_reducible refine Ext.drN ?_ _ | with_reducible refine Ext.dr ?_ | exact Nat.le_refl _ | omega | (dsimp only; omega) | (show _ ≤ _; omega) | (simp; done) | (simp; omega))
  have k0 : W.heap[w.heap.size]? = some (.cells #[.int .u32 s, .int .u32 d] 24) := by rw [← hW]; simp only [heap_alloc_at, World.size_alloc]; repeat (first | rfl | rw [if_pos (by first | trivial | omega)] | rw [if_neg (by omega)])
  have k1 : W.heap[w.heap.size + 1]? = some (.cells #[.int .u16 sp, .int .u16 dp, .slice a1 m1 cap1] 28) := by rw [← hW]; simp only [heap_alloc_at, World.size_alloc]; repeat (first | rfl | rw [if_pos (by first | trivial | omega)] | rw [if_neg (by omega)])
  clear hW
  refine (put_any s d sp dp _ L _ (HV1.out.ext hxW) HB1.out hs hd hsp hdp (by omega)).mono ?_
  rw [HU.out]
  rintro e w1 ⟨u1, rfl, hu1, hx1⟩
  simp only at hu1
  have k0 := hx1.block k0
  have k1 := hx1.block k1
  have e0 := cell_blk k0 0
  have e1 := cell_blk k0 1
  simp at e0 e1
  go_wp2_with fail
  refine (parse_any d s _ B _ hu1.rd hBb hd hs (by omega)).mono ?_
  rw [HE1'.out, HPA1.out]
  rintro e w2 ⟨u2, rfl, hu2, hx2⟩
  simp only at hu2
  obtain ⟨a2, n2, c2, rfl⟩ := hu2.rd.shape
  have k0 := hx2.block k0
  have k1 := hx2.block k1
  have y0 := cell_blk k1 0
  have y1 := cell_blk k1 1
  have y2 := cell_blk k1 2
  simp at y0 y1 y2
  have y0 := fun (o : Obj) => (Ext.new w2 o).cell y0
  have y1 := fun (o : Obj) => (Ext.new w2 o).cell y1
  have y2 := fun (o : Obj) => (Ext.new w2 o).cell y2
  go_wp2_with fail
  refine (usame_any sp dp sp dp _ _ L L _ (HV1.out.ext ((hxW.tr hx1).tr (hx2.al _))) (hu2.rd.ext (Ext.new _ _)) HB1.out HB1.out).mono ?_
  rw [usame_self]
  rintro e w3 ⟨rfl, hx3⟩
  have hx23 : Ext w2 w3 := (Ext.new _ _).tr hx3
  have k0 := hx23.block k0
  have k1 := hx23.block k1
  clear y0 y1 y2 e0 e1
  have e0 := cell_blk k0 0
  have e1 := cell_blk k0 1
  simp at e0 e1
  have g1 := high16 s hs.1 hs.2
  have g2 := or16_u32 (s / 65536) wd (by omega) (by omega) hwd.1 hwd.2
  go_wp2_with fail
  have he3 := HE2'.out (s / 65536 * 65536 + wd) (by omega)
  rw [show (s / 65536 * 65536 + wd) / 65536 = s / 65536 by omega, show (s / 65536 * 65536 + wd) % 65536 = wd by omega,
    show s / 65536 + s % 65536 + d / 65536 + d % 65536 = (s / 65536 + d / 65536 + d % 65536) + s % 65536 by omega, show s / 65536 + wd + d / 65536 + d % 65536 = (s / 65536 + d / 65536 + d % 65536) + wd by omega] at he3
  have ha := alike_spec (a := s % 65536) (b := wd) (by omega) hwd (s / 65536 + d / 65536 + d % 65536)
  rw [← he3] at ha
  clear he3
  refine (parse_any _ d _ B _ ((hu1.rd.ext hx2).ext hx23) hBb (by omega) hd (by omega)).mono ?_
  generalize uerr (s / 65536 * 65536 + wd) d B = E at *
  generalize upar (s / 65536 * 65536 + wd) d B = P at *
  obtain ⟨sp4, dp4, L4⟩ := P
  rintro e w4 ⟨u4, rfl, hu4, hx4⟩
  simp only at hu4
  obtain ⟨a4, n4, c4, rfl⟩ := hu4.rd.shape
  have k0 := hx4.block k0
  have e0 := cell_blk k0 0
  simp at e0
  have e0 := fun (o : Obj) => (Ext.new w4 o).cell e0
  have hxA : Ext w (w4.alloc (.cells #[.int .u16 sp4, .int .u16 dp4, .slice a4 n4 c4] 28)) := ((hxW.tr hx1).tr (hx2.tr (hx23.tr hx4))).al _
  have HX := Lib.hid hxA
  have HS := Lib.hid (show alike (s % 65536) wd = ((s % 65536 == wd) || ((s % 65536 == 0) && (wd == 65535)) || ((s % 65536 == 65535) && (wd == 0))) from rfl)
  have HA := Lib.hid ha
  clear ha hxA k0 k1 g1 g2 hu1 hu2 hu4
  have fin : ∀ b : Bool, alike (s % 65536) wd = b → (E == 0) = b := fun b h => by rw [HA.out, h]
  have FIN := Lib.hid fin
  clear fin
  go_upto_region 9 with (fail)
  simp only [IntKind.wrap_u16]
  generalize s % 65536 = r at *
  rcases t1 : (r == wd) with _ | _
  · rcases t2 : (r == 0) with _ | _
    · rcases t4 : (r == 65535) with _ | _
      · have hE := FIN.out false (by rw [HS.out]; simp [t1, t2, t4])
        go_wp2_with fail
        refine (awake7_any _).mono ?_
        rintro e w5 ⟨rfl, hx5⟩
        go_wp2
        go_ret
        exact ⟨by first | rfl | simp [hE], HX.out.tr hx5⟩
      · obtain rfl : r = 65535 := by simpa using t4
        clear t4 t2
        rcases t5 : (wd == 0) with _ | _
        · have hE := FIN.out false (by rw [HS.out]; simp [t1, t5])
          go_wp2_with fail
          refine (awake7_any _).mono ?_
          rintro e w5 ⟨rfl, hx5⟩
          go_wp2
          go_ret
          exact ⟨by first | rfl | simp [hE], HX.out.tr hx5⟩
        · obtain rfl : wd = 0 := by simpa using t5
          clear t1 t5
          have hE := FIN.out true (by rw [HS.out]; simp)
          go_wp2_with fail
          refine (awake7_any _).mono ?_
          rintro e w5 ⟨rfl, hx5⟩
          go_wp2
          go_ret
          exact ⟨by first | rfl | simp [hE], HX.out.tr hx5⟩
    · obtain rfl : r = 0 := by simpa using t2
      clear t2
      rcases t3 : (wd == 65535) with _ | _
      · have hE := FIN.out false (by rw [HS.out]; simp [t1, t3])
        go_wp2_with fail
        refine (awake7_any _).mono ?_
        rintro e w5 ⟨rfl, hx5⟩
        go_wp2
        go_ret
        exact ⟨by first | rfl | simp [hE], HX.out.tr hx5⟩
      · obtain rfl : wd = 65535 := by simpa using t3
        clear t1 t3
        have hE := FIN.out true (by rw [HS.out]; simp)
        go_wp2_with fail
        refine (awake7_any _).mono ?_
        rintro e w5 ⟨rfl, hx5⟩
        go_wp2
        go_ret
        exact ⟨by first | rfl | simp [hE], HX.out.tr hx5⟩
  · obtain rfl : r = wd := by simpa using t1
    clear t1
    have hE := FIN.out true (by rw [HS.out]; simp)
    go_wp2_with fail
    refine (awake7_any _).mono ?_
    rintro e w5 ⟨rfl, hx5⟩
    go_wp2
    go_ret
    exact ⟨by first | rfl | simp [hE], HX.out.tr hx5⟩
end Go.Proofs.Ythhkdjoonnofdaa.udpEnds
