/-
  Proved here: what culvertref07's functions compute: the same datagrams and errors. Conditions: numbers within their kinds, at most 2^47 - 4096 bytes.
-/
import Derived.Test.YtbaidlkjbdeceaaGreatUdpP
import Derived.Test.YtbaidlkjbdeceaaGreatRef3
namespace Go.Proofs.YtbaidlkjbdeceaaGreat
set_option maxRecDepth 200000
open Go.ChangeShapes Go.WideShapes Go.ChangeAt Go.RowKit Go.Cul
set_option linter.unusedVariables false

theorem bys_four (n : Int) (h : 0 ≤ n ∧ n ≤ 4294967295) : bys 4 n = by4 n := by
  simp [bys, by4]; omega

theorem r7laid_any (sp dp f : Int) (v : Value) (l : List Int) (w : World) (hv : Rd .u8 w v l) (hf : 0 ≤ f ∧ f ≤ 65535) (hsp : 0 ≤ sp ∧ sp ≤ 65535) (hdp : 0 ≤ dp ∧ dp ≤ 65535) (hl : l.length ≤ 2000) :
    Calls Tryz.prog 54 #[.agg #[.int .u16 sp, .int .u16 dp, v], .int .u16 f] w fun e w' => ∃ u, e = .returned u ∧ Own w' w.heap.size 5 .u8 u (udpl sp dp (8 + l.length) f l) ∧ Ext w w' := by
  obtain ⟨a, cap, rfl, hc1, hc2, hr⟩ := hv
  have hv : Rd .u8 w (.slice a l.length cap) l := ⟨a, cap, rfl, hc1, hc2, hr⟩
  have HV := Lib.hid hv
  clear hr hv
  have hblk := heap_alloc_new w (.cells #[.int .u16 sp, .int .u16 dp, .slice a l.length cap] 31)
  have hx0 := Ext.new w (.cells #[.int .u16 sp, .int .u16 dp, .slice a l.length cap] 31)
  go_enter Tryz.func54, Tryz.ntmps54
  go_wp2_with fail
  generalize (w.alloc (.cells #[.int .u16 sp, .int .u16 dp, .slice a l.length cap] 31)) = w0 at *
  refine (rlay_any _ [] sp 2 _ (Rd.nil _ _) (by simp) (by omega) (by omega)).mono ?_
  rintro e w1 ⟨u1, rfl, hu1, hx1⟩
  rw [List.nil_append, bys_two sp hsp] at hu1
  have hb1 := hx1.block hblk
  have c1 := cell_blk hb1 1
  simp at c1
  go_wp2_with fail
  refine (rlay_any _ (by2 sp) dp 2 _ hu1.rd (by simp [by2]) (by omega) (by omega)).mono ?_
  rintro e w2 ⟨u2, rfl, hu2, hx2⟩
  rw [bys_two dp hdp] at hu2
  have hb2 := hx2.block hb1
  have c2 := cell_blk hb2 2
  simp at c2
  go_wp2_with fail
  refine (rlay_any _ (by2 sp ++ by2 dp) (8 + l.length) 2 _ hu2.rd (by simp [by2]) (by omega) (by omega)).mono ?_
  rintro e w3 ⟨u3, rfl, hu3, hx3⟩
  rw [bys_two (8 + l.length) (by omega)] at hu3
  go_wp2_with fail
  refine (rlay_any _ (by2 sp ++ by2 dp ++ by2 (8 + l.length)) f 2 _ hu3.rd (by simp [by2]) (by omega) (by omega)).mono ?_
  rintro e w4 ⟨u4, rfl, hu4, hx4⟩
  rw [bys_two f hf] at hu4
  have hb4 := hx4.block (hx3.block hb2)
  have c2 := cell_blk hb4 2
  simp at c2
  have hx04 : Ext w w4 := Ext.tr hx0 (hx1.tr (hx2.tr (hx3.tr hx4)))
  have hu4 := hu4.low (base' := w.heap.size) (Ext.tr hx0 (hx1.tr (hx2.tr hx3))).size
  have hL : Hid (by2 sp ++ by2 dp ++ by2 (8 + l.length) ++ by2 f ++ l = udpl sp dp (8 + l.length) f l) := by simp [udpl, lays, Hid]
  have hlen : (by2 sp ++ by2 dp ++ by2 (8 + (l.length : Int)) ++ by2 f).length = 8 := by simp [by2]
  have HLen := Lib.hid hlen
  clear hlen hb1 hb2 hb4 hu1 hu2 hu3 c1
  generalize by2 sp ++ by2 dp ++ by2 (8 + (l.length : Int)) ++ by2 f = L at *
  go_wp2_with (at_builtin; go_must (refine wpList_app isU8 rfl (.tmp _) (.tmp _) rfl w.heap.size _ L rfl hu4 _ l rfl (HV.out.ext hx04) (by rw [HLen.out]; omega) (by rw [HLen.out]; simp [maxLen]; omega) hx04.size ?_); intro v2 w5 hown5 hg5 hat5)
  go_ret
  exact ⟨_, rfl, by rw [← hL.out]; exact hown5, hu4.grow hg5 hx04⟩

theorem r7pseudo_any (s d p : Int) (v : Value) (l : List Int) (w : World) (hv : Rd .u8 w v l) (hs : 0 ≤ s ∧ s ≤ 4294967295) (hd : 0 ≤ d ∧ d ≤ 4294967295) (hp : 0 ≤ p ∧ p ≤ 255) (hl : l.length ≤ 65535) :
    Calls Tryz.prog 53 #[.int .u32 s, .int .u32 d, .int .u8 p, v] w fun e w' => ∃ u, e = .returned u ∧ Own w' w.heap.size 5 .u8 u (pseu s d p l.length ++ l) ∧ Ext w w' := by
  obtain ⟨a, cap, rfl, hc1, hc2, hr⟩ := hv
  have hv : Rd .u8 w (.slice a l.length cap) l := ⟨a, cap, rfl, hc1, hc2, hr⟩
  have HV := Lib.hid hv
  clear hr hv
  have hand : bits BinOp.and IntKind.u32 (l.length : Int) 65535 = (l.length : Int) := by rw [mask16_u32 _ (by omega) (by omega)]; omega
  have HAND := Lib.hid hand
  clear hand
  go_enter Tryz.func53, Tryz.ntmps53
  go_wp2_with fail
  refine (rlay_any _ [] s 4 _ (Rd.nil _ _) (by simp) (by omega) (by omega)).mono ?_
  rintro e w1 ⟨u1, rfl, hu1, hx1⟩
  rw [List.nil_append, bys_four s hs] at hu1
  go_wp2_with fail
  refine (rlay_any _ (by4 s) d 4 _ hu1.rd (by simp [by4]) (by omega) (by omega)).mono ?_
  rintro e w2 ⟨u2, rfl, hu2, hx2⟩
  rw [bys_four d hd] at hu2
  have hx02 := Ext.tr hx1 hx2
  have hu2 := hu2.low (base' := w.heap.size) hx1.size
  go_wp2_with (at_builtin; go_must (refine wpList_app isU8 rfl (.tmp _) (.tmp _) rfl w.heap.size _ (by4 s ++ by4 d) rfl (hu2.kept (Ext.new _ _)) _ [0, p] rfl (rd_new .u8 _ _ _ _ rfl rfl rfl rfl (by simp [maxLen])) (by simp [by4]) (by simp [maxLen, by4]) (by have := hx02.size; simp; omega) ?_); intro v3 w3 hown3 hg3 hat3)
  have hx03 : Ext w w3 := (hu2.kept (Ext.new _ _)).grow hg3 (hx02.al _)
  clear hg3 hat3 hu1 hu2
  rw [HAND.out]
  refine (rlay_any _ (by4 s ++ by4 d ++ [0, p]) l.length 2 _ hown3.rd (by simp [by4]) (by omega) (by omega)).mono ?_
  rintro e w4 ⟨u4, rfl, hu4, hx4⟩
  rw [bys_two l.length (by omega)] at hu4
  have hx04 := Ext.tr hx03 hx4
  have hu4 := hu4.low (base' := w.heap.size) hx03.size
  have hL : Hid (by4 s ++ by4 d ++ [0, p] ++ by2 l.length = pseu s d p l.length) := by
    unfold pseu by2 Hid
    rw [List.append_assoc]
    congr 1
    simp
    omega
  rw [hL.out] at hu4
  have hpl := pseu_len s d p l.length
  have HPL := Lib.hid hpl
  clear hpl
  generalize hLd : pseu s d p l.length = L at *
  have HLd := Lib.hid hLd
  clear hLd
  go_wp2_with (at_builtin; go_must (refine wpList_app isU8 rfl (.tmp _) (.tmp _) rfl w.heap.size _ L rfl hu4 _ l rfl (HV.out.ext hx04) (by rw [HPL.out]; omega) (by rw [HPL.out]; simp [maxLen]; omega) hx04.size ?_); intro v5 w5 hown5 hg5 hat5)
  go_ret
  exact ⟨_, rfl, by rw [HLd.out]; exact hown5, hu4.grow hg5 hx04⟩

theorem r7put_any (s d sp dp : Int) (v : Value) (l : List Int) (w : World) (hv : Rd .u8 w v l) (hb : Byt l) (hs : 0 ≤ s ∧ s ≤ 4294967295) (hd : 0 ≤ d ∧ d ≤ 4294967295) (hsp : 0 ≤ sp ∧ sp ≤ 65535) (hdp : 0 ≤ dp ∧ dp ≤ 65535) (hl : l.length ≤ 140737488351232) :
    Calls Tryz.prog 17 #[.int .u32 s, .int .u32 d, .agg #[.int .u16 sp, .int .u16 dp, v]] w fun e w' => ∃ u, e = .returned (.tuple #[u, .int .i64 (uput s d sp dp l).2]) ∧ Own w' w.heap.size 5 .u8 u (uput s d sp dp l).1 ∧ Ext w w' := by
  have hv' := hv
  obtain ⟨a, cap, rfl, hc1, hc2, hr⟩ := hv'
  clear hr
  by_cases hlong : 1480 < 8 + l.length
  · have hU : uput s d sp dp l = ([], 3) := by unfold uput; rw [if_pos hlong]
    rw [hU]
    clear hU
    go_enter Tryz.func17, Tryz.ntmps17
    go_wp2_with fail
    go_ret2
    exact ⟨_, rfl, Own.nil _ _ _ _, Ext.new _ _⟩
  · have hU : Hid (uput s d sp dp l = (udpl sp dp (8 + l.length) (udpf s d sp dp l) l, 0)) := by unfold uput; rw [if_neg hlong]; exact rfl
    have hfd : Hid (udpf s d sp dp l = if 65535 - csum (pseu s d 17 (8 + l.length) ++ udpl sp dp (8 + l.length) 0 l) = 0 then 65535 else 65535 - csum (pseu s d 17 (8 + l.length) ++ udpl sp dp (8 + l.length) 0 l)) := rfl
    have hlen := udpl_len sp dp (8 + l.length) 0 l
    have hby : Byt (udpl sp dp (8 + l.length) 0 l) := udpl_byt hsp hdp (by omega) (by omega) hb
    have hbb : Byt (pseu s d 17 (8 + l.length) ++ udpl sp dp (8 + l.length) 0 l) := (pseu_byt _ hs hd (by omega)).app hby
    have hll : (pseu s d 17 (8 + l.length) ++ udpl sp dp (8 + l.length) 0 l).length ≤ 281474976710656 := by rw [List.length_append, hlen, pseu_len]; omega
    have hcs := csum_bd hbb
    have HB := Lib.hid hbb
    have HN := Lib.hid hlen
    have HLL := Lib.hid hll
    have hn8 : ((8 + l.length : Nat) : Int) = 8 + (l.length : Int) := by omega
    have HN8 := Lib.hid hn8
    clear hby hlen hb hbb hn8 hll
    have hx0 := Ext.new w (.cells #[.int .u16 sp, .int .u16 dp, .slice a l.length cap] 31)
    have hblk := heap_alloc_new w (.cells #[.int .u16 sp, .int .u16 dp, .slice a l.length cap] 31)
    have c0 := cell_blk hblk 0
    have c1 := cell_blk hblk 1
    have c2 := cell_blk hblk 2
    simp at c0 c1 c2
    go_enter Tryz.func17, Tryz.ntmps17
    go_wp2_with fail
    generalize (w.alloc (.cells #[.int .u16 sp, .int .u16 dp, .slice a l.length cap] 31)) = w0 at *
    refine (r7laid_any sp dp 0 _ l _ (hv.ext hx0) (by omega) hsp hdp (by omega)).mono ?_
    rintro e w1 ⟨u1, rfl, hu1, hx1⟩
    go_wp2_with fail
    refine (r7pseudo_any s d 17 _ _ _ hu1.rd hs hd (by omega) (by rw [HN.out]; omega)).mono ?_
    rw [HN.out, HN8.out]
    rintro e w2 ⟨u2, rfl, hu2, hx2⟩
    go_wp2_with fail
    refine (rsum_any _ _ _ hu2.rd HB.out HLL.out).mono ?_
    rintro e w9 ⟨rfl, rfl⟩
    have hx02 : Ext w w9 := Ext.tr hx0 (hx1.tr hx2)
    have hx12 : Ext w0 w9 := Ext.tr hx1 hx2
    have hb2 := hx12.block hblk
    have c0 := cell_blk hb2 0
    have c1 := cell_blk hb2 1
    have c2 := cell_blk hb2 2
    simp at c0 c1 c2
    have hv2 := hv.ext hx02
    clear hu1 hu2 hb2 hblk
    generalize hcd : csum (pseu s d 17 (8 + l.length) ++ udpl sp dp (8 + l.length) 0 l) = c at *
    have HCD := Lib.hid hcd
    clear hcd
    by_cases hz : c = 65535
    · have hz0 : ((65535 : Int) - c == 0) = true := by rw [hz]; rfl
      have hfd2 : Hid (udpf s d sp dp l = 65535) := by unfold Hid; rw [hfd.out, if_pos (by omega)]
      have HZ := Lib.hid hz
      clear hz
      go_wp2_with fail
      refine (r7laid_any sp dp 65535 _ l _ hv2 (by omega) hsp hdp (by omega)).mono ?_
      rintro e w4 ⟨u4, rfl, hu4, hx4⟩
      go_wp2
      go_ret2
      rw [hU.out, hfd2.out]
      exact ⟨_, rfl, hu4.low hx02.size, hx02.tr hx4⟩
    · have hz0 : ((65535 : Int) - c == 0) = false := by rw [beq_eq_false_iff_ne]; omega
      have hfd2 : Hid (udpf s d sp dp l = 65535 - c) := by unfold Hid; rw [hfd.out, if_neg (by omega)]
      go_wp2_with fail
      refine (r7laid_any sp dp (65535 - c) _ l _ hv2 (by omega) hsp hdp (by omega)).mono ?_
      rintro e w4 ⟨u4, rfl, hu4, hx4⟩
      go_wp2
      go_ret2
      rw [hU.out, hfd2.out]
      exact ⟨_, rfl, hu4.low hx02.size, hx02.tr hx4⟩

theorem num_two {l : List Int} {k : Nat} (h : k + 2 ≤ l.length) : num ((l.drop k).take 2) = be16 l k := by
  have h1 : (l.drop k).take 2 = [l.getD k 0, l.getD (k + 1) 0] := by
    apply List.ext_getElem?
    intro i
    rcases i with _ | _ | i
    · simp [List.getD, show k < l.length by omega]
    · simp [List.getD, List.getElem?_drop, show k + 1 < l.length by omega]
    · simp; omega
  rw [h1]
  simp [num, be16]

theorem r7same_any (sp dp sp' dp' : Int) (v v' : Value) (l l' : List Int) (w : World) (hv : Rd .u8 w v l) (hv' : Rd .u8 w v' l') (hb : Byt l) (hb' : Byt l') :
    Calls Tryz.prog 30 #[.agg #[.int .u16 sp, .int .u16 dp, v], .agg #[.int .u16 sp', .int .u16 dp', v']] w fun e w' => e = .returned (.bool (usame sp dp l sp' dp' l')) ∧ Ext w w' := by
  have hU : Hid (usame sp dp l sp' dp' l' = ((sp == sp') && (dp == dp') && decide (l = l'))) := rfl
  have hx0 : Ext w ((w.alloc (.cells #[.int .u16 sp, .int .u16 dp, v] 31)).alloc (.cells #[.int .u16 sp', .int .u16 dp', v'] 31)) := (Ext.new _ _).al _
  have h1 := run_conv_rd (P := Tryz.prog) (src := 24) (e := 5) (dst := 9) (by kernel_rfl) (by kernel_rfl) (by kernel_rfl) (hv.ext hx0)
  have h2 := run_conv_rd (P := Tryz.prog) (src := 24) (e := 5) (dst := 9) (by kernel_rfl) (by kernel_rfl) (by kernel_rfl) (hv'.ext hx0)
  have hq : ((strOfNums l).toList == (strOfNums l').toList) = decide (l = l') := by
    rw [ByteArray.toList_eq, ByteArray.toList_eq, Bool.eq_iff_iff, decide_eq_true_iff, beq_iff_eq]
    refine ⟨fun h => ?_, fun h => by rw [h]⟩
    rw [← nums_back l hb, ← nums_back l' hb', h]
  obtain ⟨a, cap, rfl, -, -, -⟩ := hv
  obtain ⟨a', cap', rfl, -, -, -⟩ := hv'
  clear hb hb'
  rcases hs : (sp == sp') with _ | _
  · rw [hs] at hU
    go_enter Tryz.func30, Tryz.ntmps30
    go_wp2
    go_ret
    rw [hU.out]
    exact ⟨rfl, hx0⟩
  rcases hd : (dp == dp') with _ | _
  · rw [hs, hd] at hU
    go_enter Tryz.func30, Tryz.ntmps30
    go_wp2
    go_ret
    rw [hU.out]
    exact ⟨rfl, hx0⟩
  rw [hs, hd] at hU
  go_enter Tryz.func30, Tryz.ntmps30
  go_wp2
  go_ret
  rw [hU.out]
  exact ⟨rfl, hx0⟩
end Go.Proofs.YtbaidlkjbdeceaaGreat
