/-
  Proved here: the law Ipv4Fields returns true. Condition: each slice at most 2^47 - 4096 bytes (the form's own reach).
-/
import Derived.Test.YtebbnincclgagaaIpW
import Derived.Test.YtebbnincclgagaaShape
import Derived.BigRegion
import Derived.Deep.Cut
namespace Go.Proofs.Ytebbnincclgagaa.ipv4Fields
set_option maxRecDepth 16000
open Go.ChangeShapes Go.WideShapes Go.ChangeAt Go.RowKit Go.Cul Go.Loose
set_option linter.unusedVariables false
attribute [local go_sem] Loose.Still Loose.Upon Loose.vUpon

abbrev headSh : Sh := .agg 8 (.more 1 (.int .u8) (.more 1 (.int .u16) (.more 1 .bool (.more 1 (.int .u8) (.more 1 (.int .u8) (.more 1 (.int .u32) (.more 1 (.int .u32) (.more 1 (.ints .u8 1) .done))))))))
theorem open_head {w : World} {cs : Array Value} (h : Reads w headSh cs.toList) : ∃ (g : Hd) (vo : Value), cs = g.cells vo ∧ g.ok ∧ Rd .u8 w vo g.op ∧ g.op.length ≤ 140737488351232 := by
  simp only [Reads] at h
  obtain ⟨_, _, e0, ⟨x0, rfl, w0⟩, _, _, rfl, ⟨x1, rfl, w1⟩, _, _, rfl, ⟨x2, rfl⟩, _, _, rfl, ⟨x3, rfl, w3⟩, _, _, rfl, ⟨x4, rfl, w4⟩, _, _, rfl, ⟨x5, rfl, w5⟩, _, _, rfl, ⟨x6, rfl, w6⟩, _, _, rfl, ⟨v, l, rfl, hr, hw, hl⟩, rfl⟩ := h
  refine ⟨⟨x0, x1, x2, x3, x4, x5, x6, l⟩, v, by rw [← Array.toList_inj]; simpa using e0, ⟨wf_u8 w0, wf_u16 w1, wf_u8 w3, wf_u8 w4, wf_u32 w5, wf_u32 w6, byt_of_wf hw⟩, hr, by simpa using hl⟩

theorem by2_inj {x y : Int} (hx : 0 ≤ x ∧ x ≤ 65535) (hy : 0 ≤ y ∧ y ≤ 65535) : decide (by2 x = by2 y) = (x == y) := by
  rw [Bool.eq_iff_iff, decide_eq_true_iff, beq_iff_eq]
  simp only [by2, List.cons.injEq, and_true]
  constructor
  · rintro ⟨h1, h2⟩; omega
  · rintro rfl; exact ⟨rfl, rfl⟩
theorem by4_inj {x y : Int} (hx : 0 ≤ x ∧ x ≤ 4294967295) (hy : 0 ≤ y ∧ y ≤ 4294967295) : decide (by4 x = by4 y) = (x == y) := by
  rw [Bool.eq_iff_iff, decide_eq_true_iff, beq_iff_eq]
  simp only [by4, List.cons.injEq, and_true]
  constructor
  · rintro ⟨h1, h2, h3, h4⟩; omega
  · rintro rfl; exact ⟨rfl, rfl, rfl, rfl⟩
theorem one_inj {x y : Int} : decide ([x] = [y]) = (x == y) := by
  rw [Bool.eq_iff_iff, decide_eq_true_iff, beq_iff_eq]
  simp
theorem df_inj (x y : Bool) : decide (by2 (if x then 16384 else 0) = by2 (if y then 16384 else 0)) = (x == y) := by cases x <;> cases y <;> decide

theorem sameAt_any (i j : Nat) (B1 B2 : Nat) (v1 v2 : Value) (l1 l2 : List Int) (w : World) (k1 : w.heap[B1]? = some (.cells #[v1] 24)) (k2 : w.heap[B2]? = some (.cells #[v2] 24)) (h1 : Rd .u8 w v1 l1) (h2 : Rd .u8 w v2 l2)
    (b1 : Byt l1) (b2 : Byt l2) (hij : i ≤ j) (hj1 : j ≤ l1.length) (hj2 : j ≤ l2.length) {r : Bool} (hr : decide ((l1.drop i).take (j - i) = (l2.drop i).take (j - i)) = r) :
    Calls Try.prog 8 #[.int .i64 i, .int .i64 j, .pointer (some ⟨B1, 0, none⟩), .pointer (some ⟨B2, 0, none⟩)] w fun e w' => e = .returned (.bool r) ∧ Ext w w' := by
  have q1 := fun (a cap) (e : v1 = .slice a l1.length cap) => (e ▸ h1 : Rd .u8 w (.slice a l1.length cap) l1).cut i (j - i) j (by omega) hj1
  have q2 := fun (a cap) (e : v2 = .slice a l2.length cap) => (e ▸ h2 : Rd .u8 w (.slice a l2.length cap) l2).cut i (j - i) j (by omega) hj2
  obtain ⟨a1, c1, rfl, r1, r2, -⟩ := h1
  obtain ⟨a2, c2, rfl, r3, r4, -⟩ := h2
  have q1 := q1 _ _ rfl
  have q2 := q2 _ _ rfl
  have HR := Lib.hid hr
  clear hr
  have e1 := cell_blk k1 0
  simp at e1
  have e2 := cell_blk k2 0
  simp at e2
  go_enter Try.func8, Try.ntmps8
  go_wp2_with fail
  have i1 : (i : Int) ≤ (j : Int) := by omega
  have i2 : (j : Int) ≤ (c1 : Int) := by omega
  have i3 : (j : Int) ≤ (c2 : Int) := by omega
  unfold maxLen at r2 r4
  have hb1 : Byt ((l1.drop i).take (j - i)) := (b1.drop i).take _
  have hb2 : Byt ((l2.drop i).take (j - i)) := (b2.drop i).take _
  have hq : ((strOfNums ((l1.drop i).take (j - i))).toList == (strOfNums ((l2.drop i).take (j - i))).toList) = r := by
    rw [← HR.out, ByteArray.toList_eq, ByteArray.toList_eq, Bool.eq_iff_iff, decide_eq_true_iff, beq_iff_eq]
    refine ⟨fun h => ?_, fun h => by rw [h]⟩
    rw [← nums_back _ hb1, ← nums_back _ hb2, h]
  clear hb1 hb2 b1 b2 HR
  generalize hm1 : (l1.drop i).take (j - i) = m1 at *
  generalize hm2 : (l2.drop i).take (j - i) = m2 at *
  clear hm1 hm2
  refine wp_region_tail 11 [] lasts_nil (by kernel_rfl) (by kernel_rfl) (by kernel_rfl) ?_
  simp only [List.take, List.drop]
  iterate 1
    apply wpL_none rfl rfl
    · intro w' hw' hn'; have e1 := Ext.cell hw' e1; go_simp; exact rfl
    intro K hK; go_simp; refine hK _ _ ?_; clear hK K
  iterate 3
    apply wpL_none rfl rfl
    · intro w' hw' hn'; go_simp; exact rfl
    intro K hK; go_simp; refine hK _ _ ?_; clear hK K
  generalize hs1 : (Value.slice (if c1 = i then a1 else Option.map (fun x => x.add i) a1) (j - i) (c1 - i)) = u1 at *
  apply wpL_none rfl rfl
  · intro w' hw' hn'
    have hc := run_conv_rd (P := Try.prog) (src := 24) (e := 5) (dst := 9) (by kernel_rfl) (by kernel_rfl) (by kernel_rfl) (q1.ext hw')
    go_simp
    exact rfl
  intro K hK; go_simp; refine hK _ _ ?_; clear hK K
  iterate 1
    apply wpL_none rfl rfl
    · intro w' hw' hn'; have e2 := Ext.cell hw' e2; go_simp; exact rfl
    intro K hK; go_simp; refine hK _ _ ?_; clear hK K
  iterate 3
    apply wpL_none rfl rfl
    · intro w' hw' hn'; go_simp; exact rfl
    intro K hK; go_simp; refine hK _ _ ?_; clear hK K
  generalize hs2 : (Value.slice (if c2 = i then a2 else Option.map (fun x => x.add i) a2) (j - i) (c2 - i)) = u2 at *
  apply wpL_none rfl rfl
  · intro w' hw' hn'
    have hc := run_conv_rd (P := Try.prog) (src := 24) (e := 5) (dst := 9) (by kernel_rfl) (by kernel_rfl) (by kernel_rfl) (q2.ext hw')
    go_simp
    exact rfl
  intro K hK; go_simp; refine hK _ _ ?_; clear hK K
  iterate 1
    apply wpL_none rfl rfl
    · intro w' hw' hn'; go_simp; exact rfl
    intro K hK; go_simp; refine hK _ _ ?_; clear hK K
  refine wpL_nil ?_
  intro w' hw' hD'
  iterate 1
    apply wpVL_step rfl
    intro K hK
    go_simp
    refine hK _ _ ?_
    clear hK K
  refine wpVL_nil ?_
  go_wp2_with fail
  go_ret
  exact ⟨rfl, hw'⟩

abbrev sameB (l1 l2 : List Int) (i j : Nat) : Bool := decide ((l1.drop i).take (j - i) = (l2.drop i).take (j - i))

set_option maxHeartbeats 4000000 in
set_option maxRecDepth 100000 in
theorem walk (w : World) (cs1 : Array Value) (hc1 : Reads w headSh cs1.toList) (cs2 : Array Value) (hc2 : Reads w headSh cs2.toList) (vp : Value) (p : List Int) (hvp : Rd .u8 w vp p) (hbp : Byt p) (hnp : p.length * 1 ≤ 140737488351232) :
    Calls Try.prog 3 #[.agg cs1, .agg cs2, vp] w fun e w' => e = .returned (.bool true) ∧ Ext w w' := by
  obtain ⟨g, vo, rfl, hg, hvo, hn⟩ := open_head hc1
  obtain ⟨k, vo', rfl, hk, hvo', -⟩ := open_head hc2
  clear hc1 hc2
  obtain ⟨ao, co, rfl, ho1, ho2, -⟩ := id hvo
  obtain ⟨ao', no', co', rfl⟩ := hvo'.shape
  obtain ⟨ap, cp, rfl, hp1, hp2, -⟩ := id hvp
  unfold maxLen at ho2 hp2
  obtain ⟨tos, idd, df, ttl, proto, src, dst, op⟩ := g
  obtain ⟨tos', idd', df', ttl', proto', src', dst', op'⟩ := k
  have hk2 : (Hd.mk tos' idd' df' ttl' proto' src' dst' op).ok := ⟨hk.tos, hk.id, hk.ttl, hk.proto, hk.src, hk.dst, hg.op⟩
  have hP1 := fun (W : World) (hx : Ext w W) => hput_any (Hd.mk tos idd df ttl proto src dst op) (.slice ao op.length co) (.slice ap p.length cp) p W hg (hvo.ext hx) (hvp.ext hx) hn (by omega)
  have hP2 := fun (W : World) (hx : Ext w W) => hput_any (Hd.mk tos' idd' df' ttl' proto' src' dst' op) (.slice ao op.length co) (.slice ap p.length cp) p W hk2 (hvo.ext hx) (hvp.ext hx) hn (by omega)
  have hM1 := fun (W : World) (hx : Ext w W) => hmay_any (Hd.mk tos idd df ttl proto src dst op) (.slice ao op.length co) W (hvo.ext hx) hg hn
  have hU1 : hput (Hd.mk tos idd df ttl proto src dst op) p = if (Hd.mk tos idd df ttl proto src dst op).may = false then ([], 1) else if 1500 - (20 + op.length) < p.length then ([], 3) else ((Hd.mk tos idd df ttl proto src dst op).lay p.length ((Hd.mk tos idd df ttl proto src dst op).field p.length) ++ p, 0) := rfl
  have hU2 : hput (Hd.mk tos' idd' df' ttl' proto' src' dst' op) p = if (Hd.mk tos' idd' df' ttl' proto' src' dst' op).may = false then ([], 1) else if 1500 - (20 + op.length) < p.length then ([], 3) else ((Hd.mk tos' idd' df' ttl' proto' src' dst' op).lay p.length ((Hd.mk tos' idd' df' ttl' proto' src' dst' op).field p.length) ++ p, 0) := rfl
  have hml : (Hd.mk tos idd df ttl proto src dst op).may = true → op.length ≤ 40 ∧ op.length % 4 = 0 := fun hm => by
    simp [Hd.may] at hm; omega
  generalize hQ1 : hput (Hd.mk tos idd df ttl proto src dst op) p = Q1 at *
  generalize hQ2 : hput (Hd.mk tos' idd' df' ttl' proto' src' dst' op) p = Q2 at *
  generalize hMM : (Hd.mk tos idd df ttl proto src dst op).may = M1 at *
  clear hQ1 hQ2 hMM
  obtain ⟨L1, E1⟩ := Q1
  obtain ⟨L2, E2⟩ := Q2
  dsimp only at hP1 hP2
  simp only [Hd.cells] at hP1 hP2 hM1 ⊢
  have HP1 := Lib.hid hP1
  have HP2 := Lib.hid hP2
  have HM1 := Lib.hid hM1
  have HU1 := Lib.hid hU1
  have HU2 := Lib.hid hU2
  have HML := Lib.hid hml
  have HG := Lib.hid hg
  have HK := Lib.hid hk2
  have HBP := Lib.hid hbp
  clear hP1 hP2 hM1 hU1 hU2 hg hk hk2 hbp hml hvo hvo' hvp
  go_enter Try.func3, Try.ntmps3
  go_upto_region 1 with (fail)
  generalize hW : (w.alloc _).alloc _ = W
  have hxW : Ext w W := by rw [← hW]; exact (Ext.new w _).al _
  have k1 : W.heap[w.heap.size]? = some (.cells #[.int .u8 tos, .int .u16 idd, .bool df, .int .u8 ttl, .int .u8 proto, .int .u32 src, .int .u32 dst, .slice ao op.length co] 26) := by rw [← hW]; simp only [heap_alloc_at, World.size_alloc]; repeat (first | rfl | rw [if_pos (by first | trivial | omega)] | rw [if_neg (by omega)])
  have k2 : W.heap[w.heap.size + 1]? = some (.cells #[.int .u8 tos', .int .u16 idd', .bool df', .int .u8 ttl', .int .u8 proto', .int .u32 src', .int .u32 dst', .slice ao' no' co'] 26) := by rw [← hW]; simp only [heap_alloc_at, World.size_alloc]; repeat (first | rfl | rw [if_pos (by first | trivial | omega)] | rw [if_neg (by omega)])
  clear hW
  have e7 := cell_blk k1 7
  simp at e7
  have y7 := cell_blk k2 7
  simp at y7
  have fz := fz_blk k2
  go_upto_region 2 with (fail)
  generalize hV : (W.setCell ⟨w.heap.size + 1, 7, none⟩ (.slice ao op.length co)) = V
  have k1 := set_oth (b := w.heap.size + 1) k1 (by omega) 7 (.slice ao op.length co)
  have k2 := set_blk k2 7 (.slice ao op.length co)
  rw [hV] at k1 k2
  have hxV : Ext w V := by rw [← hV]; exact Below.setCell hxW (Nat.le_succ _) _
  simp at k2
  clear hV e7 y7 fz hxW
  have e0 := cell_blk k1 0
  have e1 := cell_blk k1 1
  have e2 := cell_blk k1 2
  have e3 := cell_blk k1 3
  have e4 := cell_blk k1 4
  have e5 := cell_blk k1 5
  have e6 := cell_blk k1 6
  have e7 := cell_blk k1 7
  simp at e0 e1 e2 e3 e4 e5 e6 e7
  go_wp2_with fail
  refine (HP1.out _ hxV).mono ?_
  rintro e w1 ⟨u1, rfl, hu1, hx1⟩
  have hr1 := hu1.rd
  obtain ⟨a1, c1, rfl, hl1, hl2, -⟩ := id hr1
  clear hu1
  go_upto_region 3 with (fail)
  generalize hW1 : w1.alloc _ = W1
  have hx1W : Ext w1 W1 := by rw [← hW1]; exact Ext.new _ _
  have b1 : W1.heap[w1.heap.size]? = some (.cells #[.slice a1 L1.length c1] 24) := by rw [← hW1]; exact heap_alloc_new _ _
  have k1 := (hx1.tr hx1W).block k1
  have k2 := (hx1.tr hx1W).block k2
  have hxW1 := hxV.tr (hx1.tr hx1W)
  have hr1 := hr1.ext hx1W
  clear hW1 hx1W hx1 e0 e1 e2 e3 e4 e5 e6 e7
  generalize w1.heap.size = Ba at *
  have e0 := cell_blk k2 0
  have e1 := cell_blk k2 1
  have e2 := cell_blk k2 2
  have e3 := cell_blk k2 3
  have e4 := cell_blk k2 4
  have e5 := cell_blk k2 5
  have e6 := cell_blk k2 6
  have e7 := cell_blk k2 7
  simp at e0 e1 e2 e3 e4 e5 e6 e7
  go_wp2_with fail
  refine (HP2.out _ hxW1).mono ?_
  rintro e w2 ⟨u2, rfl, hu2, hx2⟩
  have hr2 := hu2.rd
  obtain ⟨a2, c2, rfl, hl3, hl4, -⟩ := id hr2
  clear hu2
  go_upto_region 4 with (fail)
  generalize hW1 : w2.alloc _ = W2
  have hx2W : Ext w2 W2 := by rw [← hW1]; exact Ext.new _ _
  have b2 : W2.heap[w2.heap.size]? = some (.cells #[.slice a2 L2.length c2] 24) := by rw [← hW1]; exact heap_alloc_new _ _
  have k1 := (hx2.tr hx2W).block k1
  have k2 := (hx2.tr hx2W).block k2
  have b1 := (hx2.tr hx2W).block b1
  have hxW2 := hxW1.tr (hx2.tr hx2W)
  have hr1 := hr1.ext (hx2.tr hx2W)
  have hr2 := hr2.ext hx2W
  clear hW1 hx2W hx2 e0 e1 e2 e3 e4 e5 e6 e7 hxW1 hxV
  generalize w2.heap.size = Bb at *
  have e0 := cell_blk k1 0
  have e1 := cell_blk k1 1
  have e2 := cell_blk k1 2
  have e3 := cell_blk k1 3
  have e4 := cell_blk k1 4
  have e5 := cell_blk k1 5
  have e6 := cell_blk k1 6
  have e7 := cell_blk k1 7
  simp at e0 e1 e2 e3 e4 e5 e6 e7
  have y0 := cell_blk k2 0
  have y1 := cell_blk k2 1
  have y2 := cell_blk k2 2
  have y3 := cell_blk k2 3
  have y4 := cell_blk k2 4
  have y5 := cell_blk k2 5
  have y6 := cell_blk k2 6
  have y7 := cell_blk k2 7
  simp at y0 y1 y2 y3 y4 y5 y6 y7
  have z1 := cell_blk b1 0
  simp at z1
  have z2 := cell_blk b2 0
  simp at z2
  cases M1
  · have hE := HU1.out
    rw [if_pos rfl] at hE
    obtain ⟨hL, rfl⟩ := Prod.mk.inj hE
    clear hL hE
    go_wp2_with fail
    refine (HM1.out _ hxW2).mono ?_
    rintro e w3 ⟨rfl, hx3⟩
    have e7 := hx3.cell e7
    go_wp2_with fail
    refine (wakes4_any _).mono ?_
    rintro e w4 ⟨rfl, hx4⟩
    go_wp2_with fail
    go_ret
    exact ⟨rfl, hxW2.tr (hx3.tr hx4)⟩
  have hU1 := HU1.out
  rw [if_neg (by simp)] at hU1
  obtain ⟨hl40, hl4⟩ := HML.out rfl
  by_cases hlong : 1500 - (20 + op.length) < p.length
  · rw [if_pos hlong] at hU1
    obtain ⟨hL, rfl⟩ := Prod.mk.inj hU1
    have hlong' : ¬ (p.length : Int) + (op.length : Int) + 20 ≤ 1500 := by omega
    clear hL hU1 hlong
    go_wp2_with fail
    refine (HM1.out _ hxW2).mono ?_
    rintro e w3 ⟨rfl, hx3⟩
    have e7 := hx3.cell e7
    go_wp2_with fail
    refine (wakes4_any _).mono ?_
    rintro e w4 ⟨rfl, hx4⟩
    go_wp2_with fail
    go_ret
    refine ⟨ret_bool (a := !decide ((p.length : Int) + (op.length : Int) + 20 ≤ 1500)) ?_, hxW2.tr (hx3.tr hx4)⟩
    simp
    omega
  rw [if_neg hlong] at hU1
  obtain ⟨hL1, rfl⟩ := Prod.mk.inj hU1
  have HL1 := Lib.hid hL1
  have hU2 := HU2.out
  have hfit : 20 + op.length + p.length ≤ 1500 := by omega
  have hlong' : (p.length : Int) + (op.length : Int) + 20 ≤ 1500 := by omega
  clear hL1 hU1
  rcases hM2 : (Hd.mk tos' idd' df' ttl' proto' src' dst' op).may with _ | _
  · rw [if_pos hM2] at hU2
    obtain ⟨hL, rfl⟩ := Prod.mk.inj hU2
    clear hL hU2 hM2 hlong
    go_wp2_with fail
    refine (HM1.out _ hxW2).mono ?_
    rintro e w3 ⟨rfl, hx3⟩
    have e7 := hx3.cell e7
    go_wp2_with fail
    refine (wakes4_any _).mono ?_
    rintro e w4 ⟨rfl, hx4⟩
    go_wp2_with fail
    go_ret
    exact ⟨rfl, hxW2.tr (hx3.tr hx4)⟩
  rw [if_neg (by rw [hM2]; simp), if_neg hlong] at hU2
  obtain ⟨hL2, rfl⟩ := Prod.mk.inj hU2
  have hF1 := Hd.field_bd HG.out hl40 hfit
  have hF2 := Hd.field_bd HK.out hl40 hfit
  have hB1 := (Hd.lay_byt HG.out hl40 hfit hF1).app HBP.out
  have hB2 := (Hd.lay_byt HK.out hl40 hfit hF2).app HBP.out
  have hn1 := Hd.lay_len (Hd.mk tos idd df ttl proto src dst op) p.length
  have hn2 := Hd.lay_len (Hd.mk tos' idd' df' ttl' proto' src' dst' op) p.length
  have hL1 := HL1.out
  clear HL1 HU1 HU2 HML HP1 HP2 HM1 hU2 hM2 hlong hlong'
  generalize (Hd.mk tos idd df ttl proto src dst op).field p.length = F1 at *
  generalize (Hd.mk tos' idd' df' ttl' proto' src' dst' op).field p.length = F2 at *
  have hn1 := hn1 F1
  have hn2 := hn2 F2
  dsimp only at hn1 hn2
  have q0 : sameB ((Hd.mk tos idd df ttl proto src dst op).lay p.length F1 ++ p) ((Hd.mk tos' idd' df' ttl' proto' src' dst' op).lay p.length F2 ++ p) 0 1 = true := decide_eq_true rfl
  have q1 : sameB ((Hd.mk tos idd df ttl proto src dst op).lay p.length F1 ++ p) ((Hd.mk tos' idd' df' ttl' proto' src' dst' op).lay p.length F2 ++ p) 1 2 = (tos == tos') := one_inj
  have q2 : sameB ((Hd.mk tos idd df ttl proto src dst op).lay p.length F1 ++ p) ((Hd.mk tos' idd' df' ttl' proto' src' dst' op).lay p.length F2 ++ p) 2 4 = true := decide_eq_true rfl
  have q4 : sameB ((Hd.mk tos idd df ttl proto src dst op).lay p.length F1 ++ p) ((Hd.mk tos' idd' df' ttl' proto' src' dst' op).lay p.length F2 ++ p) 4 6 = (idd == idd') := by2_inj HG.out.id HK.out.id
  have q6 : sameB ((Hd.mk tos idd df ttl proto src dst op).lay p.length F1 ++ p) ((Hd.mk tos' idd' df' ttl' proto' src' dst' op).lay p.length F2 ++ p) 6 8 = (df == df') := df_inj df df'
  have q8 : sameB ((Hd.mk tos idd df ttl proto src dst op).lay p.length F1 ++ p) ((Hd.mk tos' idd' df' ttl' proto' src' dst' op).lay p.length F2 ++ p) 8 9 = (ttl == ttl') := one_inj
  have q9 : sameB ((Hd.mk tos idd df ttl proto src dst op).lay p.length F1 ++ p) ((Hd.mk tos' idd' df' ttl' proto' src' dst' op).lay p.length F2 ++ p) 9 10 = (proto == proto') := one_inj
  have q12 : sameB ((Hd.mk tos idd df ttl proto src dst op).lay p.length F1 ++ p) ((Hd.mk tos' idd' df' ttl' proto' src' dst' op).lay p.length F2 ++ p) 12 16 = (src == src') := by4_inj HG.out.src HK.out.src
  have q16 : sameB ((Hd.mk tos idd df ttl proto src dst op).lay p.length F1 ++ p) ((Hd.mk tos' idd' df' ttl' proto' src' dst' op).lay p.length F2 ++ p) 16 20 = (dst == dst') := by4_inj HG.out.dst HK.out.dst
  have q20 : ∀ N, sameB ((Hd.mk tos idd df ttl proto src dst op).lay p.length F1 ++ p) ((Hd.mk tos' idd' df' ttl' proto' src' dst' op).lay p.length F2 ++ p) 20 N = true := fun N => decide_eq_true rfl
  have hN1 : ((Hd.mk tos idd df ttl proto src dst op).lay p.length F1 ++ p).length = 20 + op.length + p.length := by rw [List.length_append, hn1]
  have hN2 : ((Hd.mk tos' idd' df' ttl' proto' src' dst' op).lay p.length F2 ++ p).length = 20 + op.length + p.length := by rw [List.length_append, hn2]
  rw [← hL1] at hB1 hN1
  rw [← hL2] at hB2 hN2
  rw [← hL1, ← hL2] at q0
  rw [← hL1, ← hL2] at q1
  rw [← hL1, ← hL2] at q2
  rw [← hL1, ← hL2] at q4
  rw [← hL1, ← hL2] at q6
  rw [← hL1, ← hL2] at q8
  rw [← hL1, ← hL2] at q9
  rw [← hL1, ← hL2] at q12
  rw [← hL1, ← hL2] at q16
  have q20 : ∀ N, sameB L1 L2 20 N = true := by rw [hL1, hL2]; exact q20
  rw [hN1] at z1 hl1 b1 hr1
  rw [hN2] at z2 hl3 b2 hr2
  simp only [hN1, hN2]
  generalize hN : 20 + op.length + p.length = N at *
  have hN20 : 20 ≤ N ∧ N ≤ 1500 := by omega
  have hNi : ¬ ((N : Int) < 20) := by omega
  have HB1 := Lib.hid hB1
  have HB2 := Lib.hid hB2
  have HN1 := Lib.hid hN1
  have HN2 := Lib.hid hN2
  have HQ := Lib.hid (⟨q0, q1, q2, q4, q6, q8, q9, q12, q16, q20⟩ : _ ∧ _ ∧ _ ∧ _ ∧ _ ∧ _ ∧ _ ∧ _ ∧ _ ∧ _)
  clear q0 q1 q2 q4 q6 q8 q9 q12 q16 q20 hB1 hB2 hN1 hN2 hL1 hL2 hN hn1 hn2 hF1 hF2 HG HK HBP
  clear hl40 hl4 hfit
  go_upto_region 7 with (fail)
  refine wp_region_grow [(1, is (.bool true)), (4, is (.bool (tos == tos'))), (14, is (.bool true)), (18, is (.bool (idd == idd'))), (28, is (.bool (df == df'))), (38, is (.bool (ttl == ttl'))), (48, is (.bool (proto == proto'))), (58, is (.bool (src == src'))), (68, is (.bool (dst == dst'))), (80, is (.bool true)), (83, is (.bool true))] (lasts_is (lasts_is (lasts_is (lasts_is (lasts_is (lasts_is (lasts_is (lasts_is (lasts_is (lasts_is (lasts_is (lasts_nil)))))))))))) (by kernel_rfl) (by kernel_rfl) ?_
  iterate 1
    apply wpL_none rfl rfl
    · intro w' hw' hn'; go_simp; exact rfl
    intro K hK; go_simp; refine hK _ _ ?_; clear hK K
  apply wpL_some rfl rfl
  · intro w' hw' hn'
    go_simp
    refine ⟨Ext.rfl' _, ?_⟩
    refine (sameAt_any 0 1 Ba Bb _ _ L1 L2 _ (Ext.block hw' b1) (Ext.block hw' b2) (hr1.ext hw') (hr2.ext hw') HB1.out HB2.out (by omega) (by have := HN1.out; omega) (by have := HN2.out; omega) (HQ.out.1)).mono ?_
    rintro e w2 ⟨rfl, hx⟩
    exact ⟨_, rfl, hx, rfl⟩
  intro v w' hw' hD' hv
  obtain rfl : v = _ := hv
  clear hw' hD' w'
  intro K hK; go_simp; refine hK _ _ ?_; clear hK K
  iterate 2
    apply wpL_none rfl rfl
    · intro w' hw' hn'; go_simp; exact rfl
    intro K hK; go_simp; refine hK _ _ ?_; clear hK K
  apply wpL_some rfl rfl
  · intro w' hw' hn'
    go_simp
    refine ⟨Ext.rfl' _, ?_⟩
    refine (sameAt_any 1 2 Ba Bb _ _ L1 L2 _ (Ext.block hw' b1) (Ext.block hw' b2) (hr1.ext hw') (hr2.ext hw') HB1.out HB2.out (by omega) (by have := HN1.out; omega) (by have := HN2.out; omega) (HQ.out.2.1)).mono ?_
    rintro e w2 ⟨rfl, hx⟩
    exact ⟨_, rfl, hx, rfl⟩
  intro v w' hw' hD' hv
  obtain rfl : v = _ := hv
  clear hw' hD' w'
  intro K hK; go_simp; refine hK _ _ ?_; clear hK K
  iterate 1
    apply wpL_none rfl rfl
    · intro w' hw' hn'; go_simp; exact rfl
    intro K hK; go_simp; refine hK _ _ ?_; clear hK K
  iterate 1
    apply wpL_none rfl rfl
    · intro w' hw' hn'; have e0 := Ext.cell hw' e0; go_simp; exact rfl
    intro K hK; go_simp; refine hK _ _ ?_; clear hK K
  iterate 1
    apply wpL_none rfl rfl
    · intro w' hw' hn'; go_simp; exact rfl
    intro K hK; go_simp; refine hK _ _ ?_; clear hK K
  iterate 1
    apply wpL_none rfl rfl
    · intro w' hw' hn'; have y0 := Ext.cell hw' y0; go_simp; exact rfl
    intro K hK; go_simp; refine hK _ _ ?_; clear hK K
  iterate 5
    apply wpL_none rfl rfl
    · intro w' hw' hn'; go_simp; exact rfl
    intro K hK; go_simp; refine hK _ _ ?_; clear hK K
  apply wpL_some rfl rfl
  · intro w' hw' hn'
    go_simp
    refine ⟨Ext.rfl' _, ?_⟩
    refine (sameAt_any 2 4 Ba Bb _ _ L1 L2 _ (Ext.block hw' b1) (Ext.block hw' b2) (hr1.ext hw') (hr2.ext hw') HB1.out HB2.out (by omega) (by have := HN1.out; omega) (by have := HN2.out; omega) (HQ.out.2.2.1)).mono ?_
    rintro e w2 ⟨rfl, hx⟩
    exact ⟨_, rfl, hx, rfl⟩
  intro v w' hw' hD' hv
  obtain rfl : v = _ := hv
  clear hw' hD' w'
  intro K hK; go_simp; refine hK _ _ ?_; clear hK K
  iterate 3
    apply wpL_none rfl rfl
    · intro w' hw' hn'; go_simp; exact rfl
    intro K hK; go_simp; refine hK _ _ ?_; clear hK K
  apply wpL_some rfl rfl
  · intro w' hw' hn'
    go_simp
    refine ⟨Ext.rfl' _, ?_⟩
    refine (sameAt_any 4 6 Ba Bb _ _ L1 L2 _ (Ext.block hw' b1) (Ext.block hw' b2) (hr1.ext hw') (hr2.ext hw') HB1.out HB2.out (by omega) (by have := HN1.out; omega) (by have := HN2.out; omega) (HQ.out.2.2.2.1)).mono ?_
    rintro e w2 ⟨rfl, hx⟩
    exact ⟨_, rfl, hx, rfl⟩
  intro v w' hw' hD' hv
  obtain rfl : v = _ := hv
  clear hw' hD' w'
  intro K hK; go_simp; refine hK _ _ ?_; clear hK K
  iterate 1
    apply wpL_none rfl rfl
    · intro w' hw' hn'; go_simp; exact rfl
    intro K hK; go_simp; refine hK _ _ ?_; clear hK K
  iterate 1
    apply wpL_none rfl rfl
    · intro w' hw' hn'; have e1 := Ext.cell hw' e1; go_simp; exact rfl
    intro K hK; go_simp; refine hK _ _ ?_; clear hK K
  iterate 1
    apply wpL_none rfl rfl
    · intro w' hw' hn'; go_simp; exact rfl
    intro K hK; go_simp; refine hK _ _ ?_; clear hK K
  iterate 1
    apply wpL_none rfl rfl
    · intro w' hw' hn'; have y1 := Ext.cell hw' y1; go_simp; exact rfl
    intro K hK; go_simp; refine hK _ _ ?_; clear hK K
  iterate 5
    apply wpL_none rfl rfl
    · intro w' hw' hn'; go_simp; exact rfl
    intro K hK; go_simp; refine hK _ _ ?_; clear hK K
  apply wpL_some rfl rfl
  · intro w' hw' hn'
    go_simp
    refine ⟨Ext.rfl' _, ?_⟩
    refine (sameAt_any 6 8 Ba Bb _ _ L1 L2 _ (Ext.block hw' b1) (Ext.block hw' b2) (hr1.ext hw') (hr2.ext hw') HB1.out HB2.out (by omega) (by have := HN1.out; omega) (by have := HN2.out; omega) (HQ.out.2.2.2.2.1)).mono ?_
    rintro e w2 ⟨rfl, hx⟩
    exact ⟨_, rfl, hx, rfl⟩
  intro v w' hw' hD' hv
  obtain rfl : v = _ := hv
  clear hw' hD' w'
  intro K hK; go_simp; refine hK _ _ ?_; clear hK K
  iterate 1
    apply wpL_none rfl rfl
    · intro w' hw' hn'; go_simp; exact rfl
    intro K hK; go_simp; refine hK _ _ ?_; clear hK K
  iterate 1
    apply wpL_none rfl rfl
    · intro w' hw' hn'; have e2 := Ext.cell hw' e2; go_simp; exact rfl
    intro K hK; go_simp; refine hK _ _ ?_; clear hK K
  iterate 1
    apply wpL_none rfl rfl
    · intro w' hw' hn'; go_simp; exact rfl
    intro K hK; go_simp; refine hK _ _ ?_; clear hK K
  iterate 1
    apply wpL_none rfl rfl
    · intro w' hw' hn'; have y2 := Ext.cell hw' y2; go_simp; exact rfl
    intro K hK; go_simp; refine hK _ _ ?_; clear hK K
  iterate 5
    apply wpL_none rfl rfl
    · intro w' hw' hn'; go_simp; exact rfl
    intro K hK; go_simp; refine hK _ _ ?_; clear hK K
  apply wpL_some rfl rfl
  · intro w' hw' hn'
    go_simp
    refine ⟨Ext.rfl' _, ?_⟩
    refine (sameAt_any 8 9 Ba Bb _ _ L1 L2 _ (Ext.block hw' b1) (Ext.block hw' b2) (hr1.ext hw') (hr2.ext hw') HB1.out HB2.out (by omega) (by have := HN1.out; omega) (by have := HN2.out; omega) (HQ.out.2.2.2.2.2.1)).mono ?_
    rintro e w2 ⟨rfl, hx⟩
    exact ⟨_, rfl, hx, rfl⟩
  intro v w' hw' hD' hv
  obtain rfl : v = _ := hv
  clear hw' hD' w'
  intro K hK; go_simp; refine hK _ _ ?_; clear hK K
  iterate 1
    apply wpL_none rfl rfl
    · intro w' hw' hn'; go_simp; exact rfl
    intro K hK; go_simp; refine hK _ _ ?_; clear hK K
  iterate 1
    apply wpL_none rfl rfl
    · intro w' hw' hn'; have e3 := Ext.cell hw' e3; go_simp; exact rfl
    intro K hK; go_simp; refine hK _ _ ?_; clear hK K
  iterate 1
    apply wpL_none rfl rfl
    · intro w' hw' hn'; go_simp; exact rfl
    intro K hK; go_simp; refine hK _ _ ?_; clear hK K
  iterate 1
    apply wpL_none rfl rfl
    · intro w' hw' hn'; have y3 := Ext.cell hw' y3; go_simp; exact rfl
    intro K hK; go_simp; refine hK _ _ ?_; clear hK K
  iterate 5
    apply wpL_none rfl rfl
    · intro w' hw' hn'; go_simp; exact rfl
    intro K hK; go_simp; refine hK _ _ ?_; clear hK K
  apply wpL_some rfl rfl
  · intro w' hw' hn'
    go_simp
    refine ⟨Ext.rfl' _, ?_⟩
    refine (sameAt_any 9 10 Ba Bb _ _ L1 L2 _ (Ext.block hw' b1) (Ext.block hw' b2) (hr1.ext hw') (hr2.ext hw') HB1.out HB2.out (by omega) (by have := HN1.out; omega) (by have := HN2.out; omega) (HQ.out.2.2.2.2.2.2.1)).mono ?_
    rintro e w2 ⟨rfl, hx⟩
    exact ⟨_, rfl, hx, rfl⟩
  intro v w' hw' hD' hv
  obtain rfl : v = _ := hv
  clear hw' hD' w'
  intro K hK; go_simp; refine hK _ _ ?_; clear hK K
  iterate 1
    apply wpL_none rfl rfl
    · intro w' hw' hn'; go_simp; exact rfl
    intro K hK; go_simp; refine hK _ _ ?_; clear hK K
  iterate 1
    apply wpL_none rfl rfl
    · intro w' hw' hn'; have e4 := Ext.cell hw' e4; go_simp; exact rfl
    intro K hK; go_simp; refine hK _ _ ?_; clear hK K
  iterate 1
    apply wpL_none rfl rfl
    · intro w' hw' hn'; go_simp; exact rfl
    intro K hK; go_simp; refine hK _ _ ?_; clear hK K
  iterate 1
    apply wpL_none rfl rfl
    · intro w' hw' hn'; have y4 := Ext.cell hw' y4; go_simp; exact rfl
    intro K hK; go_simp; refine hK _ _ ?_; clear hK K
  iterate 5
    apply wpL_none rfl rfl
    · intro w' hw' hn'; go_simp; exact rfl
    intro K hK; go_simp; refine hK _ _ ?_; clear hK K
  apply wpL_some rfl rfl
  · intro w' hw' hn'
    go_simp
    refine ⟨Ext.rfl' _, ?_⟩
    refine (sameAt_any 12 16 Ba Bb _ _ L1 L2 _ (Ext.block hw' b1) (Ext.block hw' b2) (hr1.ext hw') (hr2.ext hw') HB1.out HB2.out (by omega) (by have := HN1.out; omega) (by have := HN2.out; omega) (HQ.out.2.2.2.2.2.2.2.1)).mono ?_
    rintro e w2 ⟨rfl, hx⟩
    exact ⟨_, rfl, hx, rfl⟩
  intro v w' hw' hD' hv
  obtain rfl : v = _ := hv
  clear hw' hD' w'
  intro K hK; go_simp; refine hK _ _ ?_; clear hK K
  iterate 1
    apply wpL_none rfl rfl
    · intro w' hw' hn'; go_simp; exact rfl
    intro K hK; go_simp; refine hK _ _ ?_; clear hK K
  iterate 1
    apply wpL_none rfl rfl
    · intro w' hw' hn'; have e5 := Ext.cell hw' e5; go_simp; exact rfl
    intro K hK; go_simp; refine hK _ _ ?_; clear hK K
  iterate 1
    apply wpL_none rfl rfl
    · intro w' hw' hn'; go_simp; exact rfl
    intro K hK; go_simp; refine hK _ _ ?_; clear hK K
  iterate 1
    apply wpL_none rfl rfl
    · intro w' hw' hn'; have y5 := Ext.cell hw' y5; go_simp; exact rfl
    intro K hK; go_simp; refine hK _ _ ?_; clear hK K
  iterate 5
    apply wpL_none rfl rfl
    · intro w' hw' hn'; go_simp; exact rfl
    intro K hK; go_simp; refine hK _ _ ?_; clear hK K
  apply wpL_some rfl rfl
  · intro w' hw' hn'
    go_simp
    refine ⟨Ext.rfl' _, ?_⟩
    refine (sameAt_any 16 20 Ba Bb _ _ L1 L2 _ (Ext.block hw' b1) (Ext.block hw' b2) (hr1.ext hw') (hr2.ext hw') HB1.out HB2.out (by omega) (by have := HN1.out; omega) (by have := HN2.out; omega) (HQ.out.2.2.2.2.2.2.2.2.1)).mono ?_
    rintro e w2 ⟨rfl, hx⟩
    exact ⟨_, rfl, hx, rfl⟩
  intro v w' hw' hD' hv
  obtain rfl : v = _ := hv
  clear hw' hD' w'
  intro K hK; go_simp; refine hK _ _ ?_; clear hK K
  iterate 1
    apply wpL_none rfl rfl
    · intro w' hw' hn'; go_simp; exact rfl
    intro K hK; go_simp; refine hK _ _ ?_; clear hK K
  iterate 1
    apply wpL_none rfl rfl
    · intro w' hw' hn'; have e6 := Ext.cell hw' e6; go_simp; exact rfl
    intro K hK; go_simp; refine hK _ _ ?_; clear hK K
  iterate 1
    apply wpL_none rfl rfl
    · intro w' hw' hn'; go_simp; exact rfl
    intro K hK; go_simp; refine hK _ _ ?_; clear hK K
  iterate 1
    apply wpL_none rfl rfl
    · intro w' hw' hn'; have y6 := Ext.cell hw' y6; go_simp; exact rfl
    intro K hK; go_simp; refine hK _ _ ?_; clear hK K
  iterate 5
    apply wpL_none rfl rfl
    · intro w' hw' hn'; go_simp; exact rfl
    intro K hK; go_simp; refine hK _ _ ?_; clear hK K
  iterate 1
    apply wpL_none rfl rfl
    · intro w' hw' hn'; have z1 := Ext.cell hw' z1; go_simp; exact rfl
    intro K hK; go_simp; refine hK _ _ ?_; clear hK K
  iterate 1
    apply wpL_none rfl rfl
    · intro w' hw' hn'; go_simp; exact rfl
    intro K hK; go_simp; refine hK _ _ ?_; clear hK K
  apply wpL_some rfl rfl
  · intro w' hw' hn'
    go_simp
    refine ⟨Ext.rfl' _, ?_⟩
    refine (sameAt_any 20 N Ba Bb _ _ L1 L2 _ (Ext.block hw' b1) (Ext.block hw' b2) (hr1.ext hw') (hr2.ext hw') HB1.out HB2.out (by omega) (by have := HN1.out; omega) (by have := HN2.out; omega) (HQ.out.2.2.2.2.2.2.2.2.2 N)).mono ?_
    rintro e w2 ⟨rfl, hx⟩
    exact ⟨_, rfl, hx, rfl⟩
  intro v w' hw' hD' hv
  obtain rfl : v = _ := hv
  clear hw' hD' w'
  intro K hK; go_simp; refine hK _ _ ?_; clear hK K
  iterate 2
    apply wpL_none rfl rfl
    · intro w' hw' hn'; go_simp; exact rfl
    intro K hK; go_simp; refine hK _ _ ?_; clear hK K
  apply wpL_some rfl rfl
  · intro w' hw' hn'
    go_simp
    refine ⟨Ext.rfl' _, ?_⟩
    refine (wakes4_any _).mono ?_
    rintro e w2 ⟨rfl, hx⟩
    exact ⟨_, rfl, hx, rfl⟩
  intro v w' hw' hD' hv
  obtain rfl : v = _ := hv
  clear hw' hD' w'
  intro K hK; go_simp; refine hK _ _ ?_; clear hK K
  iterate 2
    apply wpL_none rfl rfl
    · intro w' hw' hn'; go_simp; exact rfl
    intro K hK; go_simp; refine hK _ _ ?_; clear hK K
  refine wpL_nil ?_
  intro w9 hx9 _
  go_wp2_with fail
  go_ret
  exact ⟨by simp, hxW2.tr hx9⟩
end Go.Proofs.Ytebbnincclgagaa.ipv4Fields
