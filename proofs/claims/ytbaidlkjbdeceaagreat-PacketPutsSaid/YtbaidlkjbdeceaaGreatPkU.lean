/-
  Proved here: what the document's Put of layer 4 computes. (PRINTED BY tools/genpku.py)
-/
import Derived.Test.YtbaidlkjbdeceaaGreatPkN
import Derived.Deep.Cut
import Derived.Deep.CutRange
namespace Go.Proofs.YtbaidlkjbdeceaaGreat
set_option maxRecDepth 200000
open Go.ChangeShapes Go.WideShapes Go.ChangeAt Go.RowKit Go.Cul Go.Loose
set_option linter.unusedVariables false
attribute [local go_sem] Loose.Still Loose.Upon Loose.vUpon First.pUpon

/-- A number below 65536, as its bytes are worked out. -/
theorem halves {x : Int} (h : 0 ≤ x ∧ x ≤ 65535) : ∃ a b : Int, x / 256 = a ∧ x % 256 = b ∧ x.tdiv 256 = a ∧ x.tmod 256 = b ∧ (0 ≤ a ∧ a ≤ 255) ∧ (0 ≤ b ∧ b ≤ 255) :=
  ⟨x / 256, x % 256, rfl, rfl, Int.tdiv_eq_ediv_of_nonneg h.1, Int.tmod_eq_emod_of_nonneg h.1, by omega, by omega⟩
theorem byt_wraps {a : Int} (h : 0 ≤ a ∧ a ≤ 255) : IntKind.u16.wrap a = a ∧ IntKind.i64.wrap a = a ∧ wrap64 a = a ∧ IntKind.u8.wrap a = a ∧ a % 256 = a :=
  ⟨by rw [IntKind.wrap_u16]; omega, by rw [IntKind.wrap_i64]; omega, by unfold wrap64; omega, by rw [IntKind.wrap_u8]; omega, by omega⟩

theorem cellMv {S : Nat → Prop} {w w' : World} (h : Mvs S w w') {a : Addr} {v : Value} (hc : w.cell? a = some v) (hS : ¬ S a.block) : w'.cell? a = some v := by
  have hb := h.block a.block (lt_of_cell hc) hS
  rw [← hc]
  simp only [World.cell?, hb]

set_option maxHeartbeats 8000000
set_option maxRecDepth 100000
theorem r4put_any (h : Hd) (vo vp : Value) (p : List Int) (w : World) (hh : h.ok) (hvo : Rd .u8 w vo h.op) (hvp : Rd .u8 w vp p) (hl : h.op.length ≤ 140737488351232) (hp : p.length ≤ 140737488351232) :
    Calls Tryz.prog 19 #[.agg (h.cells vo), vp] w fun e w' => ∃ u, e = .returned (.tuple #[u, .int .i64 (hput h p).2]) ∧ Own w' w.heap.size 5 .u8 u (hput h p).1 ∧ Ext w w' := by
  obtain ⟨ao, co, rfl, ho1, ho2, -⟩ := id hvo
  obtain ⟨ap, cp, rfl, hp1, hp2, -⟩ := id hvp
  have HM := Lib.hid (fun (W : World) (hx : Ext w W) => r4may_any h _ W (hvo.ext hx) hh hl)
  have HVO := Lib.hid hvo
  have HVP := Lib.hid hvp
  have HP := Lib.hid hp
  have hU : Hid (hput h p = if h.may = false then ([], 1) else if 1500 - (20 + h.op.length) < p.length then ([], 3) else (h.lay p.length (h.field p.length) ++ p, 0)) := rfl
  have hMay : Hid (h.may = true → h.op.length ≤ 40 ∧ h.op.length % 4 = 0) := fun q => by
    unfold Hd.may at q
    simp only [Bool.and_eq_true, decide_eq_true_eq] at q
    exact q.2
  have HH := Lib.hid hh
  have HLAY : Hid (∀ f, h.lay p.length f = [64 + (((20 + h.op.length) / 4 : Nat) : Int), h.tos] ++ by2 ((20 + h.op.length + p.length : Nat) : Int) ++ by2 h.id ++ by2 (if h.df then 16384 else 0) ++ [h.ttl, h.proto] ++ by2 f ++ by4 h.src ++ by4 h.dst ++ h.op) := fun f => rfl
  have HLB := Lib.hid (fun (q1 : h.op.length ≤ 40) (q2 : 20 + h.op.length + p.length ≤ 1500) => Hd.lay_byt hh q1 q2 (f := 0) (by omega))
  have HLN := Lib.hid (h.lay_len p.length 0)
  have HF : Hid (h.field p.length = 65535 - csum (h.lay p.length 0)) := rfl
  generalize hput h p = PP at *
  generalize h.field p.length = FLD at *
  generalize h.lay p.length = LAY at *
  generalize h.may = MAY at *
  clear hvo hvp hh hl hp
  obtain ⟨tos, idd, df, ttl, proto, src, dst, op⟩ := h
  dsimp only [Hd.cells] at *
  unfold maxLen at ho2 hp2
  go_enter Tryz.func19, Tryz.ntmps19
  go_upto_region 1 with (fail)
  generalize hW : World.alloc w _ = W
  have hxW : Ext w W := by rw [← hW]; exact Ext.new _ _
  have kh : W.heap[w.heap.size]? = some (.cells #[.int .u8 tos, .int .u16 idd, .bool df, .int .u8 ttl, .int .u8 proto, .int .u32 src, .int .u32 dst, .slice ao op.length co] 26) := by rw [← hW]; exact heap_alloc_new w _
  clear hW
  go_wp2_with (refine wpList_load_bigG 26 w.heap.size _ _ _ rfl kh rfl Tryz.underlying26 rfl (by kernel_rfl) ?_; simp only [Act.put, List.setIfInBounds_toArray, List.set_cons_succ, List.set_cons_zero])
  refine (HM.out W hxW).mono ?_
  clear HM
  rintro e w1 ⟨rfl, hx1⟩
  have hx := hxW.tr hx1
  have kh := hx1.block kh
  clear hxW hx1
  cases MAY
  · go_wp2_with fail
    go_ret2
    rw [hU.out]
    exact ⟨_, rfl, Own.nil _ _ _ _, hx⟩
  obtain ⟨hq1, hq2⟩ := hMay.out rfl
  clear hMay
  obtain ⟨m, hm⟩ : ∃ m : Nat, 20 + op.length = m := ⟨_, rfl⟩
  obtain ⟨al, hal⟩ : ∃ a : Nat, m + p.length = a := ⟨_, rfl⟩
  have a1 : wrap64 (20 + (op.length : Int)) = (m : Int) := by unfold wrap64; omega
  have a2 : wrap64 ((m : Int) + (p.length : Int)) = (al : Int) := by have := HP.out; unfold wrap64; omega
  have HQ := Lib.hid (And.intro hq1 hq2)
  have HNM := Lib.hid (And.intro hm hal)
  clear hq1 hq2 hm hal
  have e7 := cell_blk kh 7
  simp at e7
  by_cases hlong : 1500 < al
  · have hPP : Hid (PP = ([], 3)) := by unfold Hid; have g1 := HNM.out; have g2 := HQ.out; rw [hU.out, if_neg (by decide), if_pos (by omega)]
    have hlong' : (1500 : Int) < (al : Int) := by omega
    clear hlong
    go_wp2_with fail
    go_ret2
    rw [hPP.out]
    exact ⟨_, rfl, Own.nil _ _ _ _, hx⟩
  have hPP : Hid (PP = (LAY FLD ++ p, 0)) := by unfold Hid; have g1 := HNM.out; have g2 := HQ.out; rw [hU.out, if_neg (by decide), if_neg (by omega)]
  have hlong' : ¬ (1500 : Int) < (al : Int) := by omega
  obtain ⟨hm, hal⟩ := HNM.out
  obtain ⟨hq1, hq2⟩ := HQ.out
  have HLB := Lib.hid (HLB.out hq1 (by omega))
  clear hU
  obtain ⟨K, hK⟩ : ∃ K : Int, (((20 + op.length) / 4 : Nat) : Int) = K := ⟨_, rfl⟩
  have hKb : 0 ≤ K ∧ K ≤ 15 := by omega
  have k1 : (m : Int).tdiv 4 = K := by rw [Int.tdiv_eq_ediv_of_nonneg (by omega)]; omega
  obtain ⟨B0, hB0⟩ : ∃ B : Int, 64 + K = B := ⟨_, rfl⟩
  have hBb : 0 ≤ B0 ∧ B0 ≤ 255 := by omega
  obtain ⟨k2, k3, k4, k5, k6⟩ := byt_wraps (a := K) (by omega)
  obtain ⟨j2, j3, j4, j5, j6⟩ := byt_wraps hBb
  have j7 : wrap64 (64 + K) = B0 := by rw [hB0]; exact j4
  have j8 : IntKind.i64.wrap (64 + K) = B0 := by rw [hB0]; exact j3
  obtain ⟨A1, A2, hA1, hA2, v1, v2, hA1b, hA2b⟩ := halves (x := (al : Int)) (by omega)
  obtain ⟨x2, x3, x4, x5, x6⟩ := byt_wraps hA1b
  obtain ⟨y2, y3, y4, y5, y6⟩ := byt_wraps hA2b
  obtain ⟨I1, I2, hI1, hI2, u1, u2, hI1b, hI2b⟩ := halves HH.out.id
  obtain ⟨r2, r3, r4, r5, r6⟩ := byt_wraps hI1b
  obtain ⟨t2, t3, t4, t5, t6⟩ := byt_wraps hI2b
  dsimp only at u1 u2 hI1 hI2
  have HNUM := Lib.hid (And.intro hm (And.intro hal (And.intro hK (And.intro hB0 (And.intro hA1 (And.intro hA2 (And.intro hI1 hI2)))))))
  clear hm hal hK hB0 hA1 hA2 hI1 hI2 hq1 hq2 hlong hKb hBb hA1b hA2b hI1b hI2b
  obtain ⟨w2, hr, hu, hxk⟩ := run_mk (P := Tryz.prog) isU8 w1 w.heap.size .i64 .i64 20 (by decide) (by decide) hx.size
  have hr : Sem.run Tryz.prog (Instr.makeSlice 24 (.int .i64 20) (.int .i64 20)) w1 = .ok (.slice (some ⟨w1.heap.size, 0, none⟩) 20 20) w2 := hr
  have kh2 := hxk.block kh
  have hx2 := hx.tr hxk
  have hlG := lt_of_block kh
  have HX1 := Lib.hid hx
  have hGs := hx.size
  generalize w1.heap.size = G at *
  clear kh
  go_upto_region 8 with (fail)
  clear hr e7 hxk hx
  go_upto_region 9 with (refine wpList_put_own 5 hu 0 B0 rfl rfl (by simp) (by kernel_rfl) ?_; intro w3 own3 m3)
  have own3 : Own w3 w.heap.size 5 .u8 (.slice (some ⟨G, 0, none⟩) 20 20) [B0, 0, 0, 0, 0, 0, 0, 0, 0, 0, 0, 0, 0, 0, 0, 0, 0, 0, 0, 0] := own3
  have kh3 := m3.keep kh2 (by omega)
  try simp only [Act.put]
  have e0 := cell_blk kh3 0
  simp at e0
  go_upto_region 10 with (refine wpList_put_own 5 own3 1 tos rfl rfl (by simp) (by kernel_rfl) ?_; intro w4 own4 m4)
  have own4 : Own w4 w.heap.size 5 .u8 (.slice (some ⟨G, 0, none⟩) 20 20) [B0, tos, 0, 0, 0, 0, 0, 0, 0, 0, 0, 0, 0, 0, 0, 0, 0, 0, 0, 0] := own4
  have kh4 := m4.keep kh3 (by omega)
  clear e0
  try simp only [Act.put]
  go_upto_region 11 with (first | (refine wpList_put_own 5 own4 2 A1 rfl rfl (by simp) (by kernel_rfl) ?_; intro w5 own5 m5) | (refine wpList_put_own 5 own5 3 A2 rfl rfl (by simp) (by kernel_rfl) ?_; intro w6 own6 m6))
  have own6 : Own w6 w.heap.size 5 .u8 (.slice (some ⟨G, 0, none⟩) 20 20) [B0, tos, A1, A2, 0, 0, 0, 0, 0, 0, 0, 0, 0, 0, 0, 0, 0, 0, 0, 0] := own6
  have kh6 := m6.keep (m5.keep kh4 (by omega)) (by omega)
  have mv6 : Mvs (fun j => j = G) w2 w6 := (m3.tr m4).tr (m5.tr m6)
  clear m3 m4 m5 m6 own3 own4 own5 kh3 kh4
  try simp only [Act.put]
  have c1 := cell_blk kh6 1
  simp at c1
  have hGne : ¬ (w.heap.size = G) := by omega
  go_upto_region 11 with (fail)
  refine Order.wp_region_order [0, 1, 2, 3, 4, 5, 6, 7, 8, 9] [10, 11, 12, 13] 13 (fun w' => Mvs (fun j => j = G) w6 w') (fun _ _ => False) (fun _ _ _ _ h => h.elim) (fun _ h => Mvs.ofExt h) (by kernel_rfl) (by kernel_rfl) (by kernel_rfl) rfl (by kernel_rfl) ?_
  intro wd hwd
  have hwd : Ext w6 wd := hwd
  iterate 3
    apply Order.wpH_some rfl rfl
    · intro w' hw'; go_simp; exact rfl
    intro K hK; go_simp; refine hK _ ?_; clear hK K
  apply Order.wpH_some rfl rfl
  · intro w' hw'; have c1 := cellMv hw' c1 hGne; go_simp; exact rfl
  intro K hK; go_simp; refine hK _ ?_; clear hK K
  iterate 3
    apply Order.wpH_some rfl rfl
    · intro w' hw'; go_simp; exact rfl
    intro K hK; go_simp; refine hK _ ?_; clear hK K
  apply Order.wpH_some rfl rfl
  · intro w' hw'; have c1 := cellMv hw' c1 hGne; go_simp; exact rfl
  intro K hK; go_simp; refine hK _ ?_; clear hK K
  iterate 2
    apply Order.wpH_some rfl rfl
    · intro w' hw'; go_simp; exact rfl
    intro K hK; go_simp; refine hK _ ?_; clear hK K
  refine Order.wpH_nil ?_
  apply Order.wpI_step rfl rfl
  intro K1 hK1
  go_simp
  refine hK1 _ _ (fun _ => Mvs.ofExt hwd) ?_
  clear hK1 K1
  refine wpI_put_own 5 rfl (own6.kept hwd) 4 I1 rfl rfl (by simp) (by kernel_rfl) ?_
  intro w7 own7 m7 K1 hK1
  refine hK1 _ _ (fun _ => (Mvs.ofExt hwd).tr m7) ?_
  clear hK1 K1
  apply Order.wpI_step rfl rfl
  intro K1 hK1
  go_simp
  refine hK1 _ _ (fun _ => (Mvs.ofExt hwd).tr m7) ?_
  clear hK1 K1
  refine wpI_put_own 5 rfl own7 5 I2 rfl rfl (by simp) (by kernel_rfl) ?_
  intro w8 own8 m8 K1 hK1
  refine hK1 _ _ (fun h => absurd rfl h) ?_
  clear hK1 K1
  refine Order.wpI_nil ?_
  have own8 : Own w8 w.heap.size 5 .u8 (.slice (some ⟨G, 0, none⟩) 20 20) [B0, tos, A1, A2, I1, I2, 0, 0, 0, 0, 0, 0, 0, 0, 0, 0, 0, 0, 0, 0] := own8
  have m68 : Mvs (fun j => j = G) w6 w8 := ((Mvs.ofExt hwd).tr m7).tr m8
  have kh8 := m68.keep kh6 (by omega)
  have mv8 := mv6.tr m68
  clear m7 m8 hwd own6 own7 kh6 mv6 m68 c1
  try simp only [Act.put]
  have c2 := cell_blk kh8 2
  simp at c2
  go_upto_if 58 with (fail)
  obtain ⟨D6, hD6⟩ : ∃ d : Int, (if df then 64 else 0) = d := ⟨_, rfl⟩
  have HD6 := Lib.hid hD6
  clear hD6
  go_cut [] from 59 to 60 (fun wz => Own wz w.heap.size 5 .u8 (.slice (some ⟨G, 0, none⟩) 20 20) [B0, tos, A1, A2, I1, I2, D6, 0, 0, 0, 0, 0, 0, 0, 0, 0, 0, 0, 0, 0] ∧ Mvs (fun j => j = G) w8 wz)
  case first =>
    cases df
    · obtain rfl : 0 = D6 := HD6.out
      go_wp2_with fail
      go_meet
      case rel => exact ⟨own8, Mvs.refl _ _⟩
    · obtain rfl : 64 = D6 := HD6.out
      go_upto_region 13 with (fail)
      go_wp2_with (refine wpList_put_own 5 own8 6 64 rfl rfl (by simp) (by kernel_rfl) ?_; intro w9 own9 m9)
      try simp only [Act.put]
      go_meet
      case rel => exact ⟨own9, m9⟩
  obtain ⟨own9, m9⟩ := hcut
  have mv9 := mv8.tr m9
  have kh9 := m9.keep kh8 (by omega)
  clear own8 m9 mv8 kh8 c2
  have c3 := cell_blk kh9 3
  have c4 := cell_blk kh9 4
  simp at c3 c4
  go_upto_region 14 with (fail)
  refine Order.wp_region_order [0, 1, 2, 3, 4, 5] [6, 7, 8, 9] 9 (fun w' => Mvs (fun j => j = G) wc w') (fun _ _ => False) (fun _ _ _ _ h => h.elim) (fun _ h => Mvs.ofExt h) (by kernel_rfl) (by kernel_rfl) (by kernel_rfl) rfl (by kernel_rfl) ?_
  intro wd hwd
  have hwd : Ext wc wd := hwd
  iterate 3
    apply Order.wpH_some rfl rfl
    · intro w' hw'; go_simp; exact rfl
    intro K hK; go_simp; refine hK _ ?_; clear hK K
  apply Order.wpH_some rfl rfl
  · intro w' hw'; have c3 := cellMv hw' c3 hGne; go_simp; exact rfl
  intro K hK; go_simp; refine hK _ ?_; clear hK K
  iterate 1
    apply Order.wpH_some rfl rfl
    · intro w' hw'; go_simp; exact rfl
    intro K hK; go_simp; refine hK _ ?_; clear hK K
  apply Order.wpH_some rfl rfl
  · intro w' hw'; have c4 := cellMv hw' c4 hGne; go_simp; exact rfl
  intro K hK; go_simp; refine hK _ ?_; clear hK K
  refine Order.wpH_nil ?_
  apply Order.wpI_step rfl rfl
  intro K1 hK1
  go_simp
  refine hK1 _ _ (fun _ => Mvs.ofExt hwd) ?_
  clear hK1 K1
  refine wpI_put_own 5 rfl (own9.kept hwd) 8 ttl rfl rfl (by simp) (by kernel_rfl) ?_
  intro wa owna ma K1 hK1
  refine hK1 _ _ (fun _ => (Mvs.ofExt hwd).tr ma) ?_
  clear hK1 K1
  apply Order.wpI_step rfl rfl
  intro K1 hK1
  go_simp
  refine hK1 _ _ (fun _ => (Mvs.ofExt hwd).tr ma) ?_
  clear hK1 K1
  refine wpI_put_own 5 rfl owna 9 proto rfl rfl (by simp) (by kernel_rfl) ?_
  intro wb ownb mb K1 hK1
  refine hK1 _ _ (fun h => absurd rfl h) ?_
  clear hK1 K1
  refine Order.wpI_nil ?_
  have mvb : Mvs (fun j => j = G) w2 wb := mv9.tr (((Mvs.ofExt hwd).tr ma).tr mb)
  have khb := mb.keep (ma.keep (hwd.block kh9) (by omega)) (by omega)
  try simp only [Act.put]
  obtain ⟨LK, hLK⟩ : ∃ f : Nat → List Int, f = fun k => [B0, tos, A1, A2, I1, I2, D6, 0, ttl, proto, 0, 0] ++ ((by4 src).take k ++ List.replicate (4 - k) 0) ++ ((by4 dst).take k ++ List.replicate (4 - k) 0) := ⟨_, rfl⟩
  have hl0 : (LK 0).length = 20 := by rw [hLK]; rfl
  have hl1 : (LK 1).length = 20 := by rw [hLK]; rfl
  have hl2 : (LK 2).length = 20 := by rw [hLK]; rfl
  have hl3 : (LK 3).length = 20 := by rw [hLK]; rfl
  have hs0 : ((LK 0).set 12 (src / 16777216)).set 16 (dst / 16777216) = LK 1 := by rw [hLK]; rfl
  have hs1 : ((LK 1).set 13 (src / 65536 % 256)).set 17 (dst / 65536 % 256) = LK 2 := by rw [hLK]; rfl
  have hs2 : ((LK 2).set 14 (src / 256 % 256)).set 18 (dst / 256 % 256) = LK 3 := by rw [hLK]; rfl
  have hs3 : ((LK 3).set 15 (src % 256)).set 19 (dst % 256) = LK 4 := by rw [hLK]; rfl
  have h4 : LK 4 = [B0, tos, A1, A2, I1, I2, D6, 0, ttl, proto, 0, 0] ++ by4 src ++ by4 dst := by rw [hLK]; rfl
  have ownb : Own wb w.heap.size 5 .u8 (.slice (some ⟨G, 0, none⟩) 20 20) (LK 0) := by rw [hLK]; exact ownb
  have HL := Lib.hid (And.intro hl0 (And.intro hl1 (And.intro hl2 hl3)))
  have HS := Lib.hid (And.intro hs0 (And.intro hs1 (And.intro hs2 hs3)))
  have H4 := Lib.hid h4
  have q1 : IntKind.u8.wrap (src / 16777216) = src / 16777216 := by have := HH.out.src; dsimp only at this; rw [IntKind.wrap_u8]; omega
  have q2 : IntKind.u8.wrap (src / 65536) = src / 65536 % 256 := by rw [IntKind.wrap_u8]
  have q3 : IntKind.u8.wrap (src / 256) = src / 256 % 256 := by rw [IntKind.wrap_u8]
  have q4 : IntKind.u8.wrap src = src % 256 := by rw [IntKind.wrap_u8]
  have p1 : IntKind.u8.wrap (dst / 16777216) = dst / 16777216 := by have := HH.out.dst; dsimp only at this; rw [IntKind.wrap_u8]; omega
  have p2 : IntKind.u8.wrap (dst / 65536) = dst / 65536 % 256 := by rw [IntKind.wrap_u8]
  have p3 : IntKind.u8.wrap (dst / 256) = dst / 256 % 256 := by rw [IntKind.wrap_u8]
  have p4 : IntKind.u8.wrap dst = dst % 256 := by rw [IntKind.wrap_u8]
  have HKB := Lib.hid khb
  have HMB := Lib.hid mvb
  clear hLK hl0 hl1 hl2 hl3 hs0 hs1 hs2 hs3 h4 ma mb hwd own9 owna kh9 c3 c4 mv9 khb mvb a1 a2 k1 k2 k3 k4 k5 k6 j2 j3 j4 j5 j6 j7 j8 v1 v2 x2 x3 x4 x5 x6 y2 y3 y4 y5 y6 u1 u2 r2 r3 r4 r5 r6 t2 t3 t4 t5 t6
  go_wp2_with fail
  go_loopw [9] (fun iv wr => ∃ k : Nat, k ≤ 4 ∧ iv = .int .i64 k ∧ Own wr w.heap.size 5 .u8 (.slice (some ⟨G, 0, none⟩) 20 20) (LK k) ∧ Mvs (fun j => j = G) wb wr) (fun iv _ => 4 - (intOf iv).toNat)
  case atStart => exact ⟨0, by omega, rfl, ownb, Mvs.refl _ _⟩
  case round =>
    obtain ⟨k, hk, rfl, own, hmr⟩ := hrel
    have kh := hmr.keep HKB.out (by omega)
    have c5 := cell_blk kh 5
    have c6 := cell_blk kh 6
    have c7 := cell_blk kh 7
    simp at c5 c6 c7
    rcases (by omega : k = 0 ∨ k = 1 ∨ k = 2 ∨ k = 3 ∨ k = 4) with rfl | rfl | rfl | rfl | rfl
    · go_upto_region 19 with (refine wpList_put_own 5 own 12 (src / 16777216) rfl rfl (by rw [HL.out.1]; decide) (by kernel_rfl) ?_; intro we owne me)
      try simp only [Act.put]
      have c6 := cellMv me c6 hGne
      go_upto_region 17 with (refine wpList_put_own 5 owne 16 (dst / 16777216) rfl rfl (by rw [List.length_set, HL.out.1]; decide) (by kernel_rfl) ?_; intro wf ownf mf)
      try simp only [Act.put]
      rw [HS.out.1] at ownf
      have hmr := hmr.tr (me.tr mf)
      clear owne own me mf c5 c6 c7
      go_wp2_with fail
      go_roundw
      case rel => exact ⟨1, by omega, by go_num, ownf, hmr⟩
      case measure => decide
    · go_upto_region 19 with (refine wpList_put_own 5 own 13 (src / 65536 % 256) rfl rfl (by rw [HL.out.2.1]; decide) (by kernel_rfl) ?_; intro we owne me)
      try simp only [Act.put]
      have c6 := cellMv me c6 hGne
      go_upto_region 17 with (refine wpList_put_own 5 owne 17 (dst / 65536 % 256) rfl rfl (by rw [List.length_set, HL.out.2.1]; decide) (by kernel_rfl) ?_; intro wf ownf mf)
      try simp only [Act.put]
      rw [HS.out.2.1] at ownf
      have hmr := hmr.tr (me.tr mf)
      clear owne own me mf c5 c6 c7
      go_wp2_with fail
      go_roundw
      case rel => exact ⟨2, by omega, by go_num, ownf, hmr⟩
      case measure => decide
    · go_upto_region 19 with (refine wpList_put_own 5 own 14 (src / 256 % 256) rfl rfl (by rw [HL.out.2.2.1]; decide) (by kernel_rfl) ?_; intro we owne me)
      try simp only [Act.put]
      have c6 := cellMv me c6 hGne
      go_upto_region 17 with (refine wpList_put_own 5 owne 18 (dst / 256 % 256) rfl rfl (by rw [List.length_set, HL.out.2.2.1]; decide) (by kernel_rfl) ?_; intro wf ownf mf)
      try simp only [Act.put]
      rw [HS.out.2.2.1] at ownf
      have hmr := hmr.tr (me.tr mf)
      clear owne own me mf c5 c6 c7
      go_wp2_with fail
      go_roundw
      case rel => exact ⟨3, by omega, by go_num, ownf, hmr⟩
      case measure => decide
    · go_upto_region 19 with (refine wpList_put_own 5 own 15 (src % 256) rfl rfl (by rw [HL.out.2.2.2]; decide) (by kernel_rfl) ?_; intro we owne me)
      try simp only [Act.put]
      have c6 := cellMv me c6 hGne
      go_upto_region 17 with (refine wpList_put_own 5 owne 19 (dst % 256) rfl rfl (by rw [List.length_set, HL.out.2.2.2]; decide) (by kernel_rfl) ?_; intro wf ownf mf)
      try simp only [Act.put]
      rw [HS.out.2.2.2] at ownf
      have hmr := hmr.tr (me.tr mf)
      clear owne own me mf c5 c6 c7
      go_wp2_with fail
      go_roundw
      case rel => exact ⟨4, by omega, by go_num, ownf, hmr⟩
      case measure => decide
    · have hx4 : Ext w wr := (HMB.out.tr hmr).ext hx2 (fun j hj => by omega)
      have hown4 := own
      have hlen4 : (LK 4).length = 20 := by rw [H4.out]; simp [by4]
      have HL4 := Lib.hid hlen4
      clear hlen4 own hmr kh c5 c6 HS HL q1 q2 q3 q4 p1 p2 p3 p4 hx2 kh2
      generalize hQ4 : LK 4 = Q4 at *
      have HQ4 := Lib.hid hQ4
      clear hQ4
      go_upto_region 21 with (at_builtin; refine wpList_app isU8 rfl (.tmp 95) (.tmp 97) rfl w.heap.size _ Q4 rfl hown4 _ op rfl (HVO.out.ext hx4) (by have := HQ.out; rw [HL4.out]; omega) (by have := HQ.out; rw [HL4.out]; unfold maxLen; omega) hx4.size ?_; intro v10 w10 hown10 hg10 hat10; obtain ⟨g, cap, rfl, hg1, hg2, -, -, hc1, hc2, -⟩ := hown10.open (by rw [List.length_append, HL4.out]; omega))
      have hx10 : Ext w w10 := hown4.below hg10 hx4 hx4.size
      have hMO : Q4 ++ op = LAY 0 := by
        obtain ⟨g1, g2, g3, g4, g5, g6, g7, g8⟩ := HNUM.out
        have e1 : by2 ((20 + op.length + p.length : Nat) : Int) = [A1, A2] := by
          unfold by2
          rw [show ((20 + op.length + p.length : Nat) : Int) = (al : Int) by omega, g5, g6]
        have e2 : by2 idd = [I1, I2] := by unfold by2; rw [g7, g8]
        have e3 : by2 (if df = true then 16384 else 0) = [D6, 0] := by
          have e := HD6.out
          rw [← e]
          cases df <;> rfl
        have e4 : 64 + (((20 + op.length) / 4 : Nat) : Int) = B0 := by omega
        rw [HLAY.out 0, e1, e2, e3, e4, H4.out]
        simp [by2]
      have hLL : Q4.length + op.length = (LAY 0).length := by rw [← hMO, List.length_append]
      rw [hMO] at hown10 hc1
      rw [hLL]
      clear hLL
      have hFC : 65535 - csum (LAY 0) = FLD := by rw [HF.out]
      have hcb := csum_bd HLB.out
      have hfb : 0 ≤ FLD ∧ FLD ≤ 65535 := by omega
      have hSET : ((LAY 0).set 10 (FLD / 256)).set 11 (FLD % 256) = LAY FLD := by
        rw [HLAY.out 0, HLAY.out FLD]
        simp [by2]
      have HSET := Lib.hid hSET
      have HLNF : Hid ((LAY FLD).length = (LAY 0).length) := by unfold Hid; rw [← hSET, List.length_set, List.length_set]
      have hlen : 20 ≤ (LAY 0).length := by rw [HLN.out]; omega
      obtain ⟨F1, F2, hF1, hF2, f1, f5, hF1b, hF2b⟩ := halves hfb
      obtain ⟨f2, f3, f4, f6, f7⟩ := byt_wraps hF1b
      obtain ⟨l2, l3, l4, l6, l7⟩ := byt_wraps hF2b
      rw [hF1, hF2] at HSET
      have HLEN := Lib.hid (And.intro hlen (show (LAY 0).length ≤ 1000 by have := HQ.out; rw [HLN.out]; omega))
      generalize LAY 0 = LY at *
      clear hMO hSET hg10 hat10 hown4 hc1 hc2 HLN hcb hx4 hF1 hF2 hF1b hF2b HQ4 H4 HL4 HNUM HD6 HLAY HF c7
      go_wp2_with fail
      refine (rfield_any _ LY w10 hown10.rd HLB.out (by have := HLEN.out; omega)).mono ?_
      rintro e w11 ⟨rfl, rfl⟩
      rw [hFC]
      have hi2 : (10 : Int) < (LY.length : Int) := by omega
      have hi3 : (11 : Int) < (LY.length : Int) := by omega
      clear hFC
      go_upto_region 23 with (first | (refine wpList_put_own 5 hown10 10 F1 rfl rfl (by have := HLEN.out; omega) (by kernel_rfl) ?_; intro W6 own6 m6) | (refine wpList_put_own 5 own6 11 F2 rfl rfl (by have := HLEN.out; rw [List.length_set]; omega) (by kernel_rfl) ?_; intro W7 own7 m7))
      rw [HSET.out] at own7
      have hx7 := m7.ext (m6.ext hx10 (fun j hj => by omega)) (fun j hj => by omega)
      try simp only [Act.put]
      go_wp2_with (at_builtin; refine wpList_app isU8 rfl (.tmp 111) (.tmp 112) rfl w.heap.size _ (LAY FLD) rfl own7 _ p rfl (HVP.out.ext hx7) (by have := HLEN.out; have := HP.out; rw [HLNF.out]; omega) (by have := HLEN.out; have := HP.out; rw [HLNF.out]; unfold maxLen; omega) hx7.size ?_; intro v20 w20 hown20 hg20 hat20; obtain ⟨g2, cap2, rfl, hg3, hg4, -, -, hc3, hc4, -⟩ := hown20.open (by have := HLEN.out; rw [List.length_append, HLNF.out]; omega))
      rw [List.length_append] at hown20
      go_ret2
      rw [hPP.out]
      exact ⟨_, rfl, hown20, own7.below hg20 hx7 hx7.size⟩
end Go.Proofs.YtbaidlkjbdeceaaGreat
