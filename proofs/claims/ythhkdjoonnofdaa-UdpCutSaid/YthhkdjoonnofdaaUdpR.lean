/-
  Proved here: what culvertref07's functions compute: the same datagrams and errors. Conditions: numbers within their kinds, at most 2^47 - 4096 bytes.
-/
import Derived.Test.YthhkdjoonnofdaaUdpP
import Derived.Test.YthhkdjoonnofdaaRef3
namespace Go.Proofs.Ythhkdjoonnofdaa
open Go.ChangeShapes Go.WideShapes Go.ChangeAt Go.RowKit Go.Cul
set_option linter.unusedVariables false

theorem bys_four (n : Int) (h : 0 ≤ n ∧ n ≤ 4294967295) : bys 4 n = by4 n := by
  simp [bys, by4]; omega

theorem r7laid_any (sp dp f : Int) (v : Value) (l : List Int) (w : World) (hv : Rd .u8 w v l) (hf : 0 ≤ f ∧ f ≤ 65535) (hsp : 0 ≤ sp ∧ sp ≤ 65535) (hdp : 0 ≤ dp ∧ dp ≤ 65535) (hl : l.length ≤ 2000) :
    Calls Try.prog 33 #[.agg #[.int .u16 sp, .int .u16 dp, v], .int .u16 f] w fun e w' => ∃ u, e = .returned u ∧ Own w' w.heap.size 5 .u8 u (udpl sp dp (8 + l.length) f l) ∧ Ext w w' := by
  obtain ⟨a, cap, rfl, hc1, hc2, hr⟩ := hv
  have hv : Rd .u8 w (.slice a l.length cap) l := ⟨a, cap, rfl, hc1, hc2, hr⟩
  have HV := Lib.hid hv
  clear hr hv
  have hblk := heap_alloc_new w (.cells #[.int .u16 sp, .int .u16 dp, .slice a l.length cap] 28)
  have hx0 := Ext.new w (.cells #[.int .u16 sp, .int .u16 dp, .slice a l.length cap] 28)
  go_enter Try.func33, Try.ntmps33
  go_wp2_with fail
  generalize (w.alloc (.cells #[.int .u16 sp, .int .u16 dp, .slice a l.length cap] 28)) = w0 at *
  refine (rlay_any _ [] sp 2 _ (Rd.nil _ _) (by simp) (by omega) (by omega)).mono ?_
  rintro e w1 ⟨u1, rfl, hu1, hx1⟩
  rw [List.nil_append, bys_two sp hsp] at hu1
  have hb1 := hx1.block hblk
  have c1 := cell_blk hb1 1
  simp at c1
  go_wp2_with fail
  refine (rlay_any _ (by2 sp) dp 2 _ hu1.rd (by simp [by2]) (by omega) (by omega)).mono ?_
  rintro e w2 ⟨u2, rfl, hu2, hx2⟩
  rw [bys_two dp hdp] at hu2
  have hb2 := hx2.block hb1
  have c2 := cell_blk hb2 2
  simp at c2
  go_wp2_with fail
  refine (rlay_any _ (by2 sp ++ by2 dp) (8 + l.length) 2 _ hu2.rd (by simp [by2]) (by omega) (by omega)).mono ?_
  rintro e w3 ⟨u3, rfl, hu3, hx3⟩
  rw [bys_two (8 + l.length) (by omega)] at hu3
  go_wp2_with fail
  refine (rlay_any _ (by2 sp ++ by2 dp ++ by2 (8 + l.length)) f 2 _ hu3.rd (by simp [by2]) (by omega) (by omega)).mono ?_
  rintro e w4 ⟨u4, rfl, hu4, hx4⟩
  rw [bys_two f hf] at hu4
  have hb4 := hx4.block (hx3.block hb2)
  have c2 := cell_blk hb4 2
  simp at c2
  have hx04 : Ext w w4 := Ext.tr hx0 (hx1.tr (hx2.tr (hx3.tr hx4)))
  have hu4 := hu4.low (base' := w.heap.size) (Ext.tr hx0 (hx1.tr (hx2.tr hx3))).size
  have hL : Hid (by2 sp ++ by2 dp ++ by2 (8 + l.length) ++ by2 f ++ l = udpl sp dp (8 + l.length) f l) := by simp [udpl, lays, Hid]
  have hlen : (by2 sp ++ by2 dp ++ by2 (8 + (l.length : Int)) ++ by2 f).length = 8 := by simp [by2]
  have HLen := Lib.hid hlen
  clear hlen hb1 hb2 hb4 hu1 hu2 hu3 c1
  generalize by2 sp ++ by2 dp ++ by2 (8 + (l.length : Int)) ++ by2 f = L at *
  go_wp2_with (at_builtin; go_must (refine wpList_app isU8 rfl (.tmp _) (.tmp _) rfl w.heap.size _ L rfl hu4 _ l rfl (HV.out.ext hx04) (by rw [HLen.out]; omega) (by rw [HLen.out]; simp [maxLen]; omega) hx04.size ?_); intro v2 w5 hown5 hg5 hat5)
  go_ret
  exact ⟨_, rfl, by rw [← hL.out]; exact hown5, hu4.grow hg5 hx04⟩

theorem r7pseudo_any (s d p : Int) (v : Value) (l : List Int) (w : World) (hv : Rd .u8 w v l) (hs : 0 ≤ s ∧ s ≤ 4294967295) (hd : 0 ≤ d ∧ d ≤ 4294967295) (hp : 0 ≤ p ∧ p ≤ 255) (hl : l.length ≤ 65535) :
    Calls Try.prog 28 #[.int .u32 s, .int .u32 d, .int .u8 p, v] w fun e w' => ∃ u, e = .returned u ∧ Own w' w.heap.size 5 .u8 u (pseu s d p l.length ++ l) ∧ Ext w w' := by
  obtain ⟨a, cap, rfl, hc1, hc2, hr⟩ := hv
  have hv : Rd .u8 w (.slice a l.length cap) l := ⟨a, cap, rfl, hc1, hc2, hr⟩
  have HV := Lib.hid hv
  clear hr hv
  have hand : bits BinOp.and IntKind.u32 (l.length : Int) 65535 = (l.length : Int) := by rw [mask16_u32 _ (by omega) (by omega)]; omega
  have HAND := Lib.hid hand
  clear hand
  go_enter Try.func28, Try.ntmps28
  go_wp2_with fail
  refine (rlay_any _ [] s 4 _ (Rd.nil _ _) (by simp) (by omega) (by omega)).mono ?_
  rintro e w1 ⟨u1, rfl, hu1, hx1⟩
  rw [List.nil_append, bys_four s hs] at hu1
  go_wp2_with fail
  refine (rlay_any _ (by4 s) d 4 _ hu1.rd (by simp [by4]) (by omega) (by omega)).mono ?_
  rintro e w2 ⟨u2, rfl, hu2, hx2⟩
  rw [bys_four d hd] at hu2
  have hx02 := Ext.tr hx1 hx2
  have hu2 := hu2.low (base' := w.heap.size) hx1.size
  go_wp2_with (at_builtin; go_must (refine wpList_app isU8 rfl (.tmp _) (.tmp _) rfl w.heap.size _ (by4 s ++ by4 d) rfl (hu2.kept (Ext.new _ _)) _ [0, p] rfl (rd_new .u8 _ _ _ _ rfl rfl rfl rfl (by simp [maxLen])) (by simp [by4]) (by simp [maxLen, by4]) (by have := hx02.size; simp; omega) ?_); intro v3 w3 hown3 hg3 hat3)
  have hx03 : Ext w w3 := (hu2.kept (Ext.new _ _)).grow hg3 (hx02.al _)
  clear hg3 hat3 hu1 hu2
  rw [HAND.out]
  refine (rlay_any _ (by4 s ++ by4 d ++ [0, p]) l.length 2 _ hown3.rd (by simp [by4]) (by omega) (by omega)).mono ?_
  rintro e w4 ⟨u4, rfl, hu4, hx4⟩
  rw [bys_two l.length (by omega)] at hu4
  have hx04 := Ext.tr hx03 hx4
  have hu4 := hu4.low (base' := w.heap.size) hx03.size
  have hL : Hid (by4 s ++ by4 d ++ [0, p] ++ by2 l.length = pseu s d p l.length) := by
    unfold pseu by2 Hid
    rw [List.append_assoc]
    congr 1
    simp
    omega
  rw [hL.out] at hu4
  have hpl := pseu_len s d p l.length
  have HPL := Lib.hid hpl
  clear hpl
  generalize hLd : pseu s d p l.length = L at *
  have HLd := Lib.hid hLd
  clear hLd
  go_wp2_with (at_builtin; go_must (refine wpList_app isU8 rfl (.tmp _) (.tmp _) rfl w.heap.size _ L rfl hu4 _ l rfl (HV.out.ext hx04) (by rw [HPL.out]; omega) (by rw [HPL.out]; simp [maxLen]; omega) hx04.size ?_); intro v5 w5 hown5 hg5 hat5)
  go_ret
  exact ⟨_, rfl, by rw [HLd.out]; exact hown5, hu4.grow hg5 hx04⟩

theorem r7put_any (s d sp dp : Int) (v : Value) (l : List Int) (w : World) (hv : Rd .u8 w v l) (hb : Byt l) (hs : 0 ≤ s ∧ s ≤ 4294967295) (hd : 0 ≤ d ∧ d ≤ 4294967295) (hsp : 0 ≤ sp ∧ sp ≤ 65535) (hdp : 0 ≤ dp ∧ dp ≤ 65535) (hl : l.length ≤ 140737488351232) :
    Calls Try.prog 16 #[.int .u32 s, .int .u32 d, .agg #[.int .u16 sp, .int .u16 dp, v]] w fun e w' => ∃ u, e = .returned (.tuple #[u, .int .i64 (uput s d sp dp l).2]) ∧ Own w' w.heap.size 5 .u8 u (uput s d sp dp l).1 ∧ Ext w w' := by
  have hv' := hv
  obtain ⟨a, cap, rfl, hc1, hc2, hr⟩ := hv'
  clear hr
  by_cases hlong : 1480 < 8 + l.length
  · have hU : uput s d sp dp l = ([], 3) := by unfold uput; rw [if_pos hlong]
    rw [hU]
    clear hU
    go_enter Try.func16, Try.ntmps16
    go_wp2_with fail
    go_ret2
    exact ⟨_, rfl, Own.nil _ _ _ _, Ext.new _ _⟩
  · have hU : Hid (uput s d sp dp l = (udpl sp dp (8 + l.length) (udpf s d sp dp l) l, 0)) := by unfold uput; rw [if_neg hlong]; exact rfl
    have hfd : Hid (udpf s d sp dp l = if 65535 - csum (pseu s d 17 (8 + l.length) ++ udpl sp dp (8 + l.length) 0 l) = 0 then 65535 else 65535 - csum (pseu s d 17 (8 + l.length) ++ udpl sp dp (8 + l.length) 0 l)) := rfl
    have hlen := udpl_len sp dp (8 + l.length) 0 l
    have hby : Byt (udpl sp dp (8 + l.length) 0 l) := udpl_byt hsp hdp (by omega) (by omega) hb
    have hbb : Byt (pseu s d 17 (8 + l.length) ++ udpl sp dp (8 + l.length) 0 l) := (pseu_byt _ hs hd (by omega)).app hby
    have hll : (pseu s d 17 (8 + l.length) ++ udpl sp dp (8 + l.length) 0 l).length ≤ 281474976710656 := by rw [List.length_append, hlen, pseu_len]; omega
    have hcs := csum_bd hbb
    have HB := Lib.hid hbb
    have HN := Lib.hid hlen
    have HLL := Lib.hid hll
    have hn8 : ((8 + l.length : Nat) : Int) = 8 + (l.length : Int) := by omega
    have HN8 := Lib.hid hn8
    clear hby hlen hb hbb hn8 hll
    have hx0 := Ext.new w (.cells #[.int .u16 sp, .int .u16 dp, .slice a l.length cap] 28)
    have hblk := heap_alloc_new w (.cells #[.int .u16 sp, .int .u16 dp, .slice a l.length cap] 28)
    have c0 := cell_blk hblk 0
    have c1 := cell_blk hblk 1
    have c2 := cell_blk hblk 2
    simp at c0 c1 c2
    go_enter Try.func16, Try.ntmps16
    go_wp2_with fail
    generalize (w.alloc (.cells #[.int .u16 sp, .int .u16 dp, .slice a l.length cap] 28)) = w0 at *
    refine (r7laid_any sp dp 0 _ l _ (hv.ext hx0) (by omega) hsp hdp (by omega)).mono ?_
    rintro e w1 ⟨u1, rfl, hu1, hx1⟩
    go_wp2_with fail
    refine (r7pseudo_any s d 17 _ _ _ hu1.rd hs hd (by omega) (by rw [HN.out]; omega)).mono ?_
    rw [HN.out, HN8.out]
    rintro e w2 ⟨u2, rfl, hu2, hx2⟩
    go_wp2_with fail
    refine (rsum_any _ _ _ hu2.rd HB.out HLL.out).mono ?_
    rintro e w9 ⟨rfl, rfl⟩
    have hx02 : Ext w w9 := Ext.tr hx0 (hx1.tr hx2)
    have hx12 : Ext w0 w9 := Ext.tr hx1 hx2
    have hb2 := hx12.block hblk
    have c0 := cell_blk hb2 0
    have c1 := cell_blk hb2 1
    have c2 := cell_blk hb2 2
    simp at c0 c1 c2
    have hv2 := hv.ext hx02
    clear hu1 hu2 hb2 hblk
    generalize hcd : csum (pseu s d 17 (8 + l.length) ++ udpl sp dp (8 + l.length) 0 l) = c at *
    have HCD := Lib.hid hcd
    clear hcd
    by_cases hz : c = 65535
    · have hz0 : ((65535 : Int) - c == 0) = true := by rw [hz]; rfl
      have hfd2 : Hid (udpf s d sp dp l = 65535) := by unfold Hid; rw [hfd.out, if_pos (by omega)]
      have HZ := Lib.hid hz
      clear hz
      go_wp2_with fail
      refine (r7laid_any sp dp 65535 _ l _ hv2 (by omega) hsp hdp (by omega)).mono ?_
      rintro e w4 ⟨u4, rfl, hu4, hx4⟩
      go_wp2
      go_ret2
      rw [hU.out, hfd2.out]
      exact ⟨_, rfl, hu4.low hx02.size, hx02.tr hx4⟩
    · have hz0 : ((65535 : Int) - c == 0) = false := by rw [beq_eq_false_iff_ne]; omega
      have hfd2 : Hid (udpf s d sp dp l = 65535 - c) := by unfold Hid; rw [hfd.out, if_neg (by omega)]
      go_wp2_with fail
      refine (r7laid_any sp dp (65535 - c) _ l _ hv2 (by omega) hsp hdp (by omega)).mono ?_
      rintro e w4 ⟨u4, rfl, hu4, hx4⟩
      go_wp2
      go_ret2
      rw [hU.out, hfd2.out]
      exact ⟨_, rfl, hu4.low hx02.size, hx02.tr hx4⟩

theorem num_two {l : List Int} {k : Nat} (h : k + 2 ≤ l.length) : num ((l.drop k).take 2) = be16 l k := by
  have h1 : (l.drop k).take 2 = [l.getD k 0, l.getD (k + 1) 0] := by
    apply List.ext_getElem?
    intro i
    rcases i with _ | _ | i
    · simp [List.getD, show k < l.length by omega]
    · simp [List.getD, List.getElem?_drop, show k + 1 < l.length by omega]
    · simp; omega
  rw [h1]
  simp [num, be16]

set_option maxHeartbeats 1000000 in
theorem r7parse_any (s d : Int) (bv : Value) (l : List Int) (w : World) (hv : Rd .u8 w bv l) (hb : Byt l) (hs : 0 ≤ s ∧ s ≤ 4294967295) (hd : 0 ≤ d ∧ d ≤ 4294967295) (hl : l.length ≤ 140737488351232) :
    Calls Try.prog 10 #[.int .u32 s, .int .u32 d, bv] w fun e w' => ∃ u, e = .returned (.tuple #[.agg #[.int .u16 (upar s d l).1, .int .u16 (upar s d l).2.1, u], .int .i64 (uerr s d l)]) ∧ Fr w' w.heap.size 5 .u8 u (upar s d l).2.2 ∧ Ext w w' := by
  have hvc := hv
  obtain ⟨a, cap, rfl, hcl, -, -⟩ := hvc
  by_cases hlong : 1480 < l.length
  · have hE : uerr s d l = 3 := by unfold uerr; rw [if_pos hlong]
    have hU : upar s d l = (0, 0, []) := by unfold upar; rw [hE]; rfl
    rw [hE, hU]
    clear hE hU
    go_enter Try.func10, Try.ntmps10
    go_wp2_with fail
    refine bodyPost_ret (v := .tuple #[.agg #[.int .u16 0, .int .u16 0, .slice none 0 0], .int .i64 3]) (by simp [results, Try.results10, go_sem]) rfl ?_
    refine ⟨_, rfl, .inl (Own.nil _ _ _ _), ?_⟩
    repeat (first | with_reducible exact Below.refl _ _ | with_reducible assumption | with_reducible exact Ext.drN (Ext.rfl' _) _ | with_reducible refine Below.setCell ?_ ?_ _ | with_reducible refine Ext.al ?_ _ | with_reducible refine Ext.drN ?_ _ | with_reducible refine Ext.dr ?_ | exact Nat.le_refl _ | omega | (dsimp only; omega) | (show _ ≤ _; omega) | (simp; done) | (simp; omega))
  by_cases h8 : l.length < 8
  · have hE : uerr s d l = 4 := by unfold uerr; rw [if_neg hlong, if_pos h8]
    have hU : upar s d l = (0, 0, []) := by unfold upar; rw [hE]; rfl
    rw [hE, hU]
    clear hE hU
    go_enter Try.func10, Try.ntmps10
    go_wp2_with fail
    refine bodyPost_ret (v := .tuple #[.agg #[.int .u16 0, .int .u16 0, .slice none 0 0], .int .i64 4]) (by simp [results, Try.results10, go_sem]) rfl ?_
    refine ⟨_, rfl, .inl (Own.nil _ _ _ _), ?_⟩
    repeat (first | with_reducible exact Below.refl _ _ | with_reducible assumption | with_reducible exact Ext.drN (Ext.rfl' _) _ | with_reducible refine Below.setCell ?_ ?_ _ | with_reducible refine Ext.al ?_ _ | with_reducible refine Ext.drN ?_ _ | with_reducible refine Ext.dr ?_ | exact Nat.le_refl _ | omega | (dsimp only; omega) | (show _ ≤ _; omega) | (simp; done) | (simp; omega))
  have hU : Hid (upar s d l = if uerr s d l = 0 then (be16 l 0, be16 l 2, l.drop 8) else (0, 0, [])) := rfl
  have hE : Hid (uerr s d l = if be16 l 4 ≠ l.length then 5 else if be16 l 6 ≠ 0 ∧ csum (pseu s d 17 l.length ++ l) ≠ 65535 then 20 else 0) := by
    unfold uerr; rw [if_neg hlong, if_neg h8]; exact rfl
  have b0 := be16_bd hb 0
  have b2 := be16_bd hb 2
  have b4 := be16_bd hb 4
  have b6 := be16_bd hb 6
  go_enter Try.func10, Try.ntmps10
  go_wp2_with fail
  generalize hW : (w.alloc (.cells #[.int .u16 0, .int .u16 0, .slice none 0 0] 28)).alloc (.cells #[.slice a l.length cap, .int .i64 0, .int .i64 0] 63) = W
  have hxW : Ext w W := by
    rw [← hW]
    repeat (first | with_reducible exact Below.refl _ _ | with_reducible assumption | with_reducible exact Ext.drN (Ext.rfl' _) _ | with_reducible refine Below.setCell ?_ ?_ _ | with_reducible refine Ext.al ?_ _ | with_reducible refine Ext.drN ?_ _ | with_reducible refine Ext.dr ?_ | exact Nat.le_refl _ | omega | (dsimp only; omega) | (show _ ≤ _; omega) | (simp; done) | (simp; omega))
  have k0 : W.heap[w.heap.size]? = some (.cells #[.int .u16 0, .int .u16 0, .slice none 0 0] 28) := by rw [← hW]; simp only [heap_alloc_at, World.size_alloc]; repeat (first | rfl | rw [if_pos (by first | trivial | omega)] | rw [if_neg (by omega)])
  have k1 : W.heap[w.heap.size + 1]? = some (.cells #[.slice a l.length cap, .int .i64 0, .int .i64 0] 63) := by rw [← hW]; simp only [heap_alloc_at, World.size_alloc]; repeat (first | rfl | rw [if_pos (by first | trivial | omega)] | rw [if_neg (by omega)])
  have hsW : W.heap.size = w.heap.size + 2 := by rw [← hW]; simp
  have hR0 : RR w W (w.heap.size + 1) (.slice a l.length cap) l 0 := ⟨k1, hv, by omega⟩
  clear hW k1
  refine (rnum_ok _ _ l 0 2 w _ hR0 hxW hb (by omega) (by omega) (by omega) (by omega)).mono ?_
  rintro e w1 ⟨rfl, ⟨v1, hR1⟩, hm1⟩
  have e0 := num_two (l := l) (k := 0) (by omega)
  rw [List.drop_zero] at e0
  rw [e0]
  clear e0
  have m1 : Mvs (fun k => k = w.heap.size + 1) W w1 := Mvs.ofMv hm1 rfl
  clear hR0 hm1
  go_wp2_with fail
  generalize hW1 : (w1.alloc (Obj.cells #[Value.int IntKind.u16 (be16 l 0), Value.int IntKind.u16 0, Value.slice none 0 0] 28)) = W1
  have kd : W1.heap[w1.heap.size]? = some (Obj.cells #[Value.int IntKind.u16 (be16 l 0), Value.int IntKind.u16 0, Value.slice none 0 0] 28) := by rw [← hW1]; exact heap_alloc_new _ _
  have hxW1 : Ext w1 W1 := by rw [← hW1]; exact Ext.new _ _
  have s1 : w.heap.size + 2 ≤ w1.heap.size := by have := m1.size; omega
  have x1 : Ext w W1 := (m1.ext hxW (by omega)).tr hxW1
  have hR1' := hR1.ext hxW1
  have k0 := hxW1.block (m1.keep k0 (by omega))
  clear hR1 hW1
  refine (rnum_ok _ _ (l.drop 2) 2 2 w _ hR1' x1 (hb.drop 2) (by simp; omega) (by omega) (by omega) (by simp; omega)).mono ?_
  rintro e w2 ⟨rfl, ⟨v2, hR2⟩, hm2⟩
  rw [num_two (l := l) (k := 2) (by omega)]
  rw [List.drop_drop] at hR2
  have m2 : Mvs (fun k => k = w.heap.size + 1) W1 w2 := Mvs.ofMv hm2 rfl
  have x2 : Ext w w2 := m2.ext x1 (by omega)
  clear hR1' hm2
  have kd2 := m2.keep kd (by omega)
  have k02 := m2.keep k0 (by omega)
  have c1 := cell_blk kd2 1
  have f1 := fz_blk kd2 1
  simp at c1
  go_wp2_with fail
  have hm3 : Mvs (fun k => k = w1.heap.size) w2 (w2.setCell ⟨w1.heap.size, 1, none⟩ (.int .u16 (be16 l 2))) := Mvs.set _ _ _ (by exact rfl)
  have kd3 := set_blk kd2 1 (.int .u16 (be16 l 2))
  simp at kd3
  have hR3 := hR2.mvs hm3 (by omega)
  have x3 := hm3.ext x2 (by omega)
  have k03 := hm3.keep k02 (by omega)
  have s3 := hm3.size
  clear hR2 kd2 k02 c1 f1 kd k0
  generalize (w2.setCell ⟨w1.heap.size, 1, none⟩ (.int .u16 (be16 l 2))) = w3 at *
  refine (rnum_ok _ _ (l.drop 4) 4 2 w _ hR3 x3 (hb.drop 4) (by simp; omega) (by omega) (by omega) (by simp; omega)).mono ?_
  rintro e w4 ⟨rfl, ⟨v4, hR4⟩, hm4⟩
  rw [num_two (l := l) (k := 4) (by omega)]
  rw [List.drop_drop] at hR4
  have m4 : Mvs (fun k => k = w.heap.size + 1) w3 w4 := Mvs.ofMv hm4 rfl
  have x4 : Ext w w4 := m4.ext x3 (by omega)
  clear hR3 hm4
  go_wp2_with fail
  refine (rnum_ok _ _ (l.drop 6) 6 2 w _ hR4 x4 (hb.drop 6) (by simp; omega) (by omega) (by omega) (by simp; omega)).mono ?_
  rintro e w5 ⟨rfl, ⟨v5, hR5⟩, hm5⟩
  rw [num_two (l := l) (k := 6) (by omega)]
  rw [List.drop_drop] at hR5
  have m5 : Mvs (fun k => k = w.heap.size + 1) w4 w5 := Mvs.ofMv hm5 rfl
  have x5 : Ext w w5 := m5.ext x4 (by omega)
  clear hR4 hm5
  have k05 := m5.keep (m4.keep k03 (by omega)) (by omega)
  have kd5 := m5.keep (m4.keep kd3 (by omega)) (by omega)
  have d0 := cell_blk kd5 0
  have d1 := cell_blk kd5 1
  have d2 := cell_blk kd5 2
  have fd := fz_blk kd5
  have r0 := cell_blk k05 0
  have r1 := cell_blk k05 1
  have r2 := cell_blk k05 2
  have fr := fz_blk k05
  simp at d0 d1 d2 r0 r1 r2
  clear k03 kd3
  have s5 := m5.size
  generalize be16 l 0 = A at *
  generalize be16 l 2 = C at *
  generalize be16 l 4 = N at *
  generalize be16 l 6 = F at *
  by_cases hne : N ≠ l.length
  · have hq : (N != (l.length : Int)) = true := by simpa using hne
    have hE' : Hid (uerr s d l = 5) := by unfold Hid; rw [hE.out, if_pos hne]
    have hU' : Hid (upar s d l = (0, 0, [])) := by unfold Hid; rw [hU.out, hE'.out]; rfl
    clear hne
    go_wp2_with fail
    refine bodyPost_ret (v := .tuple #[.agg #[.int .u16 0, .int .u16 0, .slice none 0 0], .int .i64 5]) (by simp [results, Try.results10, go_sem, r0, r1, r2]) rfl ?_
    rw [hU'.out, hE'.out]
    refine ⟨_, rfl, .inl (Own.nil _ _ _ _), ?_⟩
    repeat (first | with_reducible exact Below.refl _ _ | with_reducible assumption | with_reducible exact Ext.drN (Ext.rfl' _) _ | with_reducible refine Below.setCell ?_ ?_ _ | with_reducible refine Ext.al ?_ _ | with_reducible refine Ext.drN ?_ _ | with_reducible refine Ext.dr ?_ | exact Nat.le_refl _ | omega | (dsimp only; omega) | (show _ ≤ _; omega) | (simp; done) | (simp; omega))
  have hE : Hid (uerr s d l = if F ≠ 0 ∧ csum (pseu s d 17 l.length ++ l) ≠ 65535 then 20 else 0) := by unfold Hid; rw [hE.out, if_neg hne]
  have hne' : N = l.length := Classical.not_not.1 hne
  clear hne
  subst hne'
  by_cases hF0 : F = 0
  · subst hF0
    have hE' : Hid (uerr s d l = 0) := by unfold Hid; rw [hE.out]; simp
    have hU' : Hid (upar s d l = (A, C, l.drop 8)) := by unfold Hid; rw [hU.out, hE'.out, if_pos rfl]
    by_cases hcap : cap = 8
    · have hcut := hv.cut 8 (l.length - 8) l.length (by omega) (Nat.le_refl _)
      rw [List.take_of_length_le (by rw [List.length_drop]; omega), if_pos hcap] at hcut
      obtain rfl : cap = 8 := hcap
      have hl8 : l.length = 8 := by omega
      rw [hl8] at hcut
      have hcut := Lib.hid hcut
      have HL8 := Lib.hid hl8
      clear hl8 hv hR5
      go_wp2_with fail
      refine (rown_any _ (l.drop 8) _ (hcut.out.ext x5) (by simp; omega)).mono ?_
      rintro e w8 ⟨u8, rfl, hu8, hx8⟩
      obtain ⟨au, nu, cu, rfl⟩ := hu8.rd.shape
      have x8 : Ext w w8 := Ext.tr x5 hx8
      have k08 := hx8.block (k05)
      have kd8 := hx8.block (kd5)
      have r0 := cell_blk k08 0
      have r1 := cell_blk k08 1
      have r2 := cell_blk k08 2
      have d0 := cell_blk kd8 0
      have d1 := cell_blk kd8 1
      have d2 := cell_blk kd8 2
      have fd := fz_blk kd8
      have fr := fz_blk k08
      have s8 := x8.size
      have t8 : w1.heap.size < w8.heap.size := lt_of_block kd8
      have t7 : w1.heap.size < _ := lt_of_block (kd5)
      simp at d0 d1 d2 r0 r1 r2
      clear k08 kd8 k05 kd5
      go_wp2_with fail
      refine bodyPost_ret (v := .tuple #[.agg #[.int .u16 A, .int .u16 C, .slice au nu cu], .int .i64 0]) (by simp [results, Try.results10, go_sem, r0, r1, r2]) rfl ?_
      rw [hU'.out, hE'.out]
      have hfin : ∀ w'' : World, Fr w'' (w1.heap.size + 1) 5 .u8 (.slice au nu cu) (l.drop 8) → Fr w'' w.heap.size 5 .u8 (.slice au nu cu) (l.drop 8) := fun _ h => h.low (by omega)
      have hfr0 : Fr w8 (w1.heap.size + 1) 5 .u8 (.slice au nu cu) (l.drop 8) := hu8.fr.low t7
      refine ⟨_, rfl, hfin _ ?_, ?_⟩
      · repeat (first | with_reducible assumption | with_reducible refine fr_set ?_ ?_ | omega | (dsimp only; omega) | (simp; done) | (simp; omega))
      · repeat (first | with_reducible exact Below.refl _ _ | with_reducible assumption | with_reducible exact Ext.drN (Ext.rfl' _) _ | with_reducible refine Below.setCell ?_ ?_ _ | with_reducible refine Ext.al ?_ _ | with_reducible refine Ext.drN ?_ _ | with_reducible refine Ext.dr ?_ | exact Nat.le_refl _ | omega | (dsimp only; omega) | (show _ ≤ _; omega) | (simp; done) | (simp; omega))
    · have hcut := hv.cut 8 (l.length - 8) l.length (by omega) (Nat.le_refl _)
      rw [List.take_of_length_le (by rw [List.length_drop]; omega), if_neg hcap] at hcut
      have hcut := Lib.hid hcut
      clear hv hR5
      go_wp2_with fail
      refine (rown_any _ (l.drop 8) _ (hcut.out.ext x5) (by simp; omega)).mono ?_
      rintro e w8 ⟨u8, rfl, hu8, hx8⟩
      obtain ⟨au, nu, cu, rfl⟩ := hu8.rd.shape
      have x8 : Ext w w8 := Ext.tr x5 hx8
      have k08 := hx8.block (k05)
      have kd8 := hx8.block (kd5)
      have r0 := cell_blk k08 0
      have r1 := cell_blk k08 1
      have r2 := cell_blk k08 2
      have d0 := cell_blk kd8 0
      have d1 := cell_blk kd8 1
      have d2 := cell_blk kd8 2
      have fd := fz_blk kd8
      have fr := fz_blk k08
      have s8 := x8.size
      have t8 : w1.heap.size < w8.heap.size := lt_of_block kd8
      have t7 : w1.heap.size < _ := lt_of_block (kd5)
      simp at d0 d1 d2 r0 r1 r2
      clear k08 kd8 k05 kd5
      go_wp2_with fail
      refine bodyPost_ret (v := .tuple #[.agg #[.int .u16 A, .int .u16 C, .slice au nu cu], .int .i64 0]) (by simp [results, Try.results10, go_sem, r0, r1, r2]) rfl ?_
      rw [hU'.out, hE'.out]
      have hfin : ∀ w'' : World, Fr w'' (w1.heap.size + 1) 5 .u8 (.slice au nu cu) (l.drop 8) → Fr w'' w.heap.size 5 .u8 (.slice au nu cu) (l.drop 8) := fun _ h => h.low (by omega)
      have hfr0 : Fr w8 (w1.heap.size + 1) 5 .u8 (.slice au nu cu) (l.drop 8) := hu8.fr.low t7
      refine ⟨_, rfl, hfin _ ?_, ?_⟩
      · repeat (first | with_reducible assumption | with_reducible refine fr_set ?_ ?_ | omega | (dsimp only; omega) | (simp; done) | (simp; omega))
      · repeat (first | with_reducible exact Below.refl _ _ | with_reducible assumption | with_reducible exact Ext.drN (Ext.rfl' _) _ | with_reducible refine Below.setCell ?_ ?_ _ | with_reducible refine Ext.al ?_ _ | with_reducible refine Ext.drN ?_ _ | with_reducible refine Ext.dr ?_ | exact Nat.le_refl _ | omega | (dsimp only; omega) | (show _ ≤ _; omega) | (simp; done) | (simp; omega))
  · have hF1 : (F != 0) = true := by simpa using hF0
    have hE : Hid (uerr s d l = if csum (pseu s d 17 l.length ++ l) ≠ 65535 then 20 else 0) := by unfold Hid; rw [hE.out]; simp [hF0]
    have hpl := pseu_len s d 17 l.length
    have hbb : Byt (pseu s d 17 l.length ++ l) := (pseu_byt _ hs hd (by omega)).app hb
    have hll : (pseu s d 17 l.length ++ l).length ≤ 281474976710656 := by rw [List.length_append, hpl]; omega
    have HB := Lib.hid hbb
    have HLL := Lib.hid hll
    clear hF0 hpl hbb hll
    go_wp2_with fail
    refine (r7pseudo_any s d 17 _ l _ (hv.ext x5) hs hd (by omega) (by omega)).mono ?_
    rintro e w6 ⟨u6, rfl, hu6, hx6⟩
    go_wp2_with fail
    refine (rsum_any _ _ _ hu6.rd HB.out HLL.out).mono ?_
    rintro e w7 ⟨rfl, rfl⟩
    have x7 := Ext.tr x5 hx6
    have k05 := hx6.block k05
    have kd5 := hx6.block kd5
    have r0 := cell_blk k05 0
    have r1 := cell_blk k05 1
    have r2 := cell_blk k05 2
    have fr := fz_blk k05
    simp at r0 r1 r2
    clear hu6
    by_cases hc : csum (pseu s d 17 l.length ++ l) ≠ 65535
    · have hq : (csum (pseu s d 17 l.length ++ l) != 65535) = true := by simpa using hc
      have hE' : Hid (uerr s d l = 20) := by unfold Hid; rw [hE.out, if_pos hc]
      have hU' : Hid (upar s d l = (0, 0, [])) := by unfold Hid; rw [hU.out, hE'.out]; rfl
      clear hc
      go_wp2_with fail
      refine bodyPost_ret (v := .tuple #[.agg #[.int .u16 0, .int .u16 0, .slice none 0 0], .int .i64 20]) (by simp [results, Try.results10, go_sem, r0, r1, r2]) rfl ?_
      rw [hU'.out, hE'.out]
      refine ⟨_, rfl, .inl (Own.nil _ _ _ _), ?_⟩
      repeat (first | with_reducible exact Below.refl _ _ | with_reducible assumption | with_reducible exact Ext.drN (Ext.rfl' _) _ | with_reducible refine Below.setCell ?_ ?_ _ | with_reducible refine Ext.al ?_ _ | with_reducible refine Ext.drN ?_ _ | with_reducible refine Ext.dr ?_ | exact Nat.le_refl _ | omega | (dsimp only; omega) | (show _ ≤ _; omega) | (simp; done) | (simp; omega))
    · have hq : (csum (pseu s d 17 l.length ++ l) != 65535) = false := by simpa using hc
      have hE' : Hid (uerr s d l = 0) := by unfold Hid; rw [hE.out, if_neg hc]
      clear hc
      have hU' : Hid (upar s d l = (A, C, l.drop 8)) := by unfold Hid; rw [hU.out, hE'.out, if_pos rfl]
      by_cases hcap : cap = 8
      · have hcut := hv.cut 8 (l.length - 8) l.length (by omega) (Nat.le_refl _)
        rw [List.take_of_length_le (by rw [List.length_drop]; omega), if_pos hcap] at hcut
        obtain rfl : cap = 8 := hcap
        have hl8 : l.length = 8 := by omega
        rw [hl8] at hcut
        have hcut := Lib.hid hcut
        have HL8 := Lib.hid hl8
        clear hl8 hv hR5
        go_wp2_with fail
        refine (rown_any _ (l.drop 8) _ (hcut.out.ext x7) (by simp; omega)).mono ?_
        rintro e w8 ⟨u8, rfl, hu8, hx8⟩
        obtain ⟨au, nu, cu, rfl⟩ := hu8.rd.shape
        have x8 : Ext w w8 := Ext.tr x7 hx8
        have k08 := hx8.block (k05)
        have kd8 := hx8.block (kd5)
        have r0 := cell_blk k08 0
        have r1 := cell_blk k08 1
        have r2 := cell_blk k08 2
        have d0 := cell_blk kd8 0
        have d1 := cell_blk kd8 1
        have d2 := cell_blk kd8 2
        have fd := fz_blk kd8
        have fr := fz_blk k08
        have s8 := x8.size
        have t8 : w1.heap.size < w8.heap.size := lt_of_block kd8
        have t7 : w1.heap.size < _ := lt_of_block (kd5)
        simp at d0 d1 d2 r0 r1 r2
        clear k08 kd8 k05 kd5
        go_wp2_with fail
        refine bodyPost_ret (v := .tuple #[.agg #[.int .u16 A, .int .u16 C, .slice au nu cu], .int .i64 0]) (by simp [results, Try.results10, go_sem, r0, r1, r2]) rfl ?_
        rw [hU'.out, hE'.out]
        have hfin : ∀ w'' : World, Fr w'' (w1.heap.size + 1) 5 .u8 (.slice au nu cu) (l.drop 8) → Fr w'' w.heap.size 5 .u8 (.slice au nu cu) (l.drop 8) := fun _ h => h.low (by omega)
        have hfr0 : Fr w8 (w1.heap.size + 1) 5 .u8 (.slice au nu cu) (l.drop 8) := hu8.fr.low t7
        refine ⟨_, rfl, hfin _ ?_, ?_⟩
        · repeat (first | with_reducible assumption | with_reducible refine fr_set ?_ ?_ | omega | (dsimp only; omega) | (simp; done) | (simp; omega))
        · repeat (first | with_reducible exact Below.refl _ _ | with_reducible assumption | with_reducible exact Ext.drN (Ext.rfl' _) _ | with_reducible refine Below.setCell ?_ ?_ _ | with_reducible refine Ext.al ?_ _ | with_reducible refine Ext.drN ?_ _ | with_reducible refine Ext.dr ?_ | exact Nat.le_refl _ | omega | (dsimp only; omega) | (show _ ≤ _; omega) | (simp; done) | (simp; omega))
      · have hcut := hv.cut 8 (l.length - 8) l.length (by omega) (Nat.le_refl _)
        rw [List.take_of_length_le (by rw [List.length_drop]; omega), if_neg hcap] at hcut
        have hcut := Lib.hid hcut
        clear hv hR5
        go_wp2_with fail
        refine (rown_any _ (l.drop 8) _ (hcut.out.ext x7) (by simp; omega)).mono ?_
        rintro e w8 ⟨u8, rfl, hu8, hx8⟩
        obtain ⟨au, nu, cu, rfl⟩ := hu8.rd.shape
        have x8 : Ext w w8 := Ext.tr x7 hx8
        have k08 := hx8.block (k05)
        have kd8 := hx8.block (kd5)
        have r0 := cell_blk k08 0
        have r1 := cell_blk k08 1
        have r2 := cell_blk k08 2
        have d0 := cell_blk kd8 0
        have d1 := cell_blk kd8 1
        have d2 := cell_blk kd8 2
        have fd := fz_blk kd8
        have fr := fz_blk k08
        have s8 := x8.size
        have t8 : w1.heap.size < w8.heap.size := lt_of_block kd8
        have t7 : w1.heap.size < _ := lt_of_block (kd5)
        simp at d0 d1 d2 r0 r1 r2
        clear k08 kd8 k05 kd5
        go_wp2_with fail
        refine bodyPost_ret (v := .tuple #[.agg #[.int .u16 A, .int .u16 C, .slice au nu cu], .int .i64 0]) (by simp [results, Try.results10, go_sem, r0, r1, r2]) rfl ?_
        rw [hU'.out, hE'.out]
        have hfin : ∀ w'' : World, Fr w'' (w1.heap.size + 1) 5 .u8 (.slice au nu cu) (l.drop 8) → Fr w'' w.heap.size 5 .u8 (.slice au nu cu) (l.drop 8) := fun _ h => h.low (by omega)
        have hfr0 : Fr w8 (w1.heap.size + 1) 5 .u8 (.slice au nu cu) (l.drop 8) := hu8.fr.low t7
        refine ⟨_, rfl, hfin _ ?_, ?_⟩
        · repeat (first | with_reducible assumption | with_reducible refine fr_set ?_ ?_ | omega | (dsimp only; omega) | (simp; done) | (simp; omega))
        · repeat (first | with_reducible exact Below.refl _ _ | with_reducible assumption | with_reducible exact Ext.drN (Ext.rfl' _) _ | with_reducible refine Below.setCell ?_ ?_ _ | with_reducible refine Ext.al ?_ _ | with_reducible refine Ext.drN ?_ _ | with_reducible refine Ext.dr ?_ | exact Nat.le_refl _ | omega | (dsimp only; omega) | (show _ ≤ _; omega) | (simp; done) | (simp; omega))

theorem r7same_any (sp dp sp' dp' : Int) (v v' : Value) (l l' : List Int) (w : World) (hv : Rd .u8 w v l) (hv' : Rd .u8 w v' l') (hb : Byt l) (hb' : Byt l') :
    Calls Try.prog 11 #[.agg #[.int .u16 sp, .int .u16 dp, v], .agg #[.int .u16 sp', .int .u16 dp', v']] w fun e w' => e = .returned (.bool (usame sp dp l sp' dp' l')) ∧ Ext w w' := by
  have hU : Hid (usame sp dp l sp' dp' l' = ((sp == sp') && (dp == dp') && decide (l = l'))) := rfl
  have hx0 : Ext w ((w.alloc (.cells #[.int .u16 sp, .int .u16 dp, v] 28)).alloc (.cells #[.int .u16 sp', .int .u16 dp', v'] 28)) := (Ext.new _ _).al _
  have h1 := run_conv_rd (P := Try.prog) (src := 25) (e := 5) (dst := 9) (by rfl) (by rfl) (by rfl) (hv.ext hx0)
  have h2 := run_conv_rd (P := Try.prog) (src := 25) (e := 5) (dst := 9) (by rfl) (by rfl) (by rfl) (hv'.ext hx0)
  have hq : ((strOfNums l).toList == (strOfNums l').toList) = decide (l = l') := by
    rw [ByteArray.toList_eq, ByteArray.toList_eq, Bool.eq_iff_iff, decide_eq_true_iff, beq_iff_eq]
    refine ⟨fun h => ?_, fun h => by rw [h]⟩
    rw [← nums_back l hb, ← nums_back l' hb', h]
  obtain ⟨a, cap, rfl, -, -, -⟩ := hv
  obtain ⟨a', cap', rfl, -, -, -⟩ := hv'
  clear hb hb'
  rcases hs : (sp == sp') with _ | _
  · rw [hs] at hU
    go_enter Try.func11, Try.ntmps11
    go_wp2
    go_ret
    rw [hU.out]
    exact ⟨rfl, hx0⟩
  rcases hd : (dp == dp') with _ | _
  · rw [hs, hd] at hU
    go_enter Try.func11, Try.ntmps11
    go_wp2
    go_ret
    rw [hU.out]
    exact ⟨rfl, hx0⟩
  rw [hs, hd] at hU
  go_enter Try.func11, Try.ntmps11
  go_wp2
  go_ret
  rw [hU.out]
  exact ⟨rfl, hx0⟩
end Go.Proofs.Ythhkdjoonnofdaa
