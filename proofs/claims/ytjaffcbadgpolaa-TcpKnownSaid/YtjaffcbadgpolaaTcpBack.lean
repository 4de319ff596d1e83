/-
  Proved here: the law TcpBack returns true. Condition: each slice at most 2^47 - 4096 bytes (the form's own reach).
-/
import Derived.Test.YtjaffcbadgpolaaTcpL
import Derived.Test.YtjaffcbadgpolaaTcpS
import Derived.Deep.Cut
namespace Go.Proofs.Ytjaffcbadgpolaa.tcpBack
open Go.ChangeShapes Go.WideShapes Go.ChangeAt Go.RowKit Go.Cul Go.Loose
set_option linter.unusedVariables false

theorem alike_any (a b : Int) (w : World) : Calls Try.prog 25 #[.int .u16 a, .int .u16 b] w fun e w' => e = .returned (.bool (like a b)) ∧ w' = w := by
  have hl : Hid (like a b = decide (a = b ∨ (a = 0 ∧ b = 65535) ∨ (a = 65535 ∧ b = 0))) := rfl
  rcases h1 : (a == b) with _ | _
  · rcases h2 : (a == 0) with _ | _
    · rcases h3 : (a == 65535) with _ | _
      · have hr : Hid (like a b = false) := by unfold Hid; rw [hl.out]; simp_all
        go_enter Try.func25, Try.ntmps25
        go_wp2_with fail
        go_ret
        exact ⟨by rw [hr.out]; rfl, rfl⟩
      · have hr : Hid (like a b = (b == 0)) := by unfold Hid; rw [hl.out, Bool.eq_iff_iff]; simp_all
        go_enter Try.func25, Try.ntmps25
        go_wp2_with fail
        go_ret
        exact ⟨by rw [hr.out]; rfl, rfl⟩
    · have hr : Hid (like a b = (b == 65535)) := by unfold Hid; rw [hl.out, Bool.eq_iff_iff]; simp_all
      have h3 : (a == 65535) = false := by simp_all
      rcases h4 : (b == 65535) with _ | _
      all_goals
        go_enter Try.func25, Try.ntmps25
        go_wp2_with fail
        go_ret
        exact ⟨by rw [hr.out, h4]; rfl, rfl⟩
  · have hr : Hid (like a b = true) := by unfold Hid; rw [hl.out]; simp_all
    go_enter Try.func25, Try.ntmps25
    go_wp2_with fail
    go_ret
    exact ⟨by rw [hr.out]; rfl, rfl⟩

/-- A segment's variable is overwritten. -/
theorem _root_.Go.Proofs.Ytjaffcbadgpolaa.seg_set {w V : World} {b : Nat} {g h : Sg} {a1 a2 b1 b2 : Value} {T : TypeId} (k : w.heap[b]? = some (.cells (g.cells a1 a2) T))
    (hV : (((((((((w.setCell ⟨b, 0, none⟩ (.int .u16 h.sp)).setCell ⟨b, 1, none⟩ (.int .u16 h.dp)).setCell ⟨b, 2, none⟩ (.int .u32 h.seq)).setCell ⟨b, 3, none⟩ (.int .u32 h.ack)).setCell ⟨b, 4, none⟩ (.int .u8 h.f)).setCell ⟨b, 5, none⟩ (.int .u16 h.win)).setCell ⟨b, 6, none⟩ (.int .u16 h.urg)).setCell ⟨b, 7, none⟩ b1).setCell ⟨b, 8, none⟩ b2) = V) :
    V.heap[b]? = some (.cells (h.cells b1 b2) T) ∧ Mvs (fun k => k = b) w V := by
  subst hV
  refine ⟨?_, ?_⟩
  · have h9 := set_blk (set_blk (set_blk (set_blk (set_blk (set_blk (set_blk (set_blk (set_blk k 0 (.int .u16 h.sp)) 1 (.int .u16 h.dp)) 2 (.int .u32 h.seq)) 3 (.int .u32 h.ack)) 4 (.int .u8 h.f)) 5 (.int .u16 h.win)) 6 (.int .u16 h.urg)) 7 b1) 8 b2
    simpa using h9
  · repeat (first | with_reducible exact Mvs.refl _ _ | refine Mvs.tr ?_ (Mvs.set _ _ _ rfl))

set_option maxHeartbeats 4000000 in
set_option maxRecDepth 100000 in
theorem walk (w : World) (s : Int) (hs : 0 ≤ s ∧ s ≤ 4294967295) (d : Int) (hd : 0 ≤ d ∧ d ≤ 4294967295) (s' : Int) (hs' : 0 ≤ s' ∧ s' ≤ 4294967295) (d' : Int) (hd' : 0 ≤ d' ∧ d' ≤ 4294967295)
    (cs : Array Value) (hcs : Reads w segSh cs.toList) (bv : Value) (l : List Int) (hbv : Rd .u8 w bv l) (hbl : Byt l) (hnl : l.length * 1 ≤ 140737488351232) :
    Calls Try.prog 7 #[.int .u32 s, .int .u32 d, .int .u32 s', .int .u32 d', .agg cs, bv] w fun e w' => e = .returned (.bool true) ∧ Ext w w' := by
  obtain ⟨g, vo, vd, rfl, hg, hvo, hvd, hn, hno⟩ := open_segment hcs
  clear hcs hno
  obtain ⟨ao, co, rfl⟩ := hvo.shape
  obtain ⟨ad, cd, rfl, hd1, hd2, -⟩ := id hvd
  obtain ⟨ab, cb, rfl, hb1, hb2, -⟩ := id hbv
  have hput := fun (W : World) (hx : Ext w W) => tput_any s d g _ _ W hg (hvo.ext hx) (hvd.ext hx) hs hd hn
  have hmay := fun (W : World) (hx : Ext w W) => tmay_any g _ _ W hg (hvo.ext hx) (hvd.ext hx) hn
  have hmi := tmay_iff g s d
  have htc := tput_cases hg hs hd
  have hLE : ∃ L E, tput s d g = (L, E) ∧ L.length ≤ 1480 := by
    rcases htc with ⟨E, h1, h2, -⟩ | ⟨O, h1, h2, h3, h4, h5, h6, -, -⟩
    · exact ⟨_, _, h2, Nat.zero_le _⟩
    · exact ⟨_, _, h6, by rw [lay_len]; exact h5⟩
  obtain ⟨L, E, hLE, hLn⟩ := hLE
  rw [hLE] at hput hmi
  dsimp only at hput hmi
  have HPUT := Lib.hid hput
  have HMAY := Lib.hid hmay
  have HMI := Lib.hid hmi
  have HTC := Lib.hid htc
  have HLE := Lib.hid hLE
  have HB := Lib.hid hbl
  clear hput hmay hmi htc hLE hbl
  go_enter Try.func7, Try.ntmps7
  go_upto_region 1 with (fail)
  generalize hW : World.alloc w _ = W
  have hxW : Ext w W := by rw [← hW]; exact Ext.new _ _
  have kg : W.heap[w.heap.size]? = some (.cells (g.cells (.slice ao g.os.length co) (.slice ad g.data.length cd)) 27) := by rw [← hW]; exact heap_alloc_new w _
  clear hW
  generalize w.heap.size = G at *
  have e0 := cell_blk kg 0
  have e1 := cell_blk kg 1
  have e2 := cell_blk kg 2
  have e3 := cell_blk kg 3
  have e4 := cell_blk kg 4
  have e5 := cell_blk kg 5
  have e6 := cell_blk kg 6
  have e7 := cell_blk kg 7
  have e8 := cell_blk kg 8
  simp at e0 e1 e2 e3 e4 e5 e6 e7 e8
  go_wp2_with fail
  refine (HPUT.out _ hxW).mono ?_
  rintro e w1 ⟨u, rfl, hu, hx1⟩
  have hur := hu.rd
  obtain ⟨au, cu, rfl, hu1, hu2, -⟩ := id hur
  have hxW := hxW.tr hx1
  have kg := hx1.block kg
  clear hx1 e0 e1 e2 e3 e4 e5 e6 e7 e8 hu
  have e0 := cell_blk kg 0
  have e1 := cell_blk kg 1
  have e2 := cell_blk kg 2
  have e3 := cell_blk kg 3
  have e4 := cell_blk kg 4
  have e5 := cell_blk kg 5
  have e6 := cell_blk kg 6
  have e7 := cell_blk kg 7
  have e8 := cell_blk kg 8
  simp at e0 e1 e2 e3 e4 e5 e6 e7 e8
  go_upto_region 2 with (fail)
  go_cut [44] from 24 (fun v wc => v = .bool false ∧ Ext w1 wc)
  case first =>
    by_cases hE : E = 0
    · have hE1 : (E == 0) = true := by simp [hE]
      have hE2 : (E != 0) = false := by simp [hE]
      have hm : Hid (tmay g = true) := by unfold Hid; rw [HMI.out]; simp [hE]
      clear hE
      go_wp2_with fail
      refine (HMAY.out _ hxW).mono ?_
      rw [hm.out]
      rintro e w2 ⟨rfl, hx2⟩
      go_wp2_with fail
      go_meet
      case rel => exact ⟨rfl, hx2⟩
    · have hE1 : (E == 0) = false := by simp [hE]
      have hE2 : (E != 0) = true := by simp [hE]
      have hm : Hid (tmay g = false) := by unfold Hid; rw [HMI.out]; simp [hE]
      have hL0 : L = [] := by
        rcases HTC.out with ⟨E', h1, h2, -⟩ | ⟨O, -, -, -, -, -, h2, -, -⟩
        · rw [HLE.out] at h2; exact (Prod.mk.inj h2).1
        · rw [HLE.out] at h2; exact absurd (Prod.mk.inj h2).2 hE
      have HL0 := Lib.hid hL0
      clear hE hL0
      go_wp2_with fail
      refine (HMAY.out _ hxW).mono ?_
      rw [hm.out]
      rintro e w2 ⟨rfl, hx2⟩
      go_wp2_with fail
      go_meet
      case rel => exact ⟨by rw [HL0.out]; rfl, hx2⟩
  obtain ⟨rfl, hx2⟩ := hcut
  obtain ⟨W2, rfl⟩ : ∃ W2 : World, W2 = wc := ⟨_, rfl⟩
  have hxW := hxW.tr hx2
  have kg := hx2.block kg
  have hur := hur.ext hx2
  clear hx2 e0 e1 e2 e3 e4 e5 e6 e7 e8
  have e0 := cell_blk kg 0
  have e1 := cell_blk kg 1
  have e2 := cell_blk kg 2
  have e3 := cell_blk kg 3
  have e4 := cell_blk kg 4
  have e5 := cell_blk kg 5
  have e6 := cell_blk kg 6
  have e7 := cell_blk kg 7
  have e8 := cell_blk kg 8
  simp at e0 e1 e2 e3 e4 e5 e6 e7 e8
  go_upto_if 46 with (fail)
  go_cut [] from 24 (fun wd => Ext W2 wd)
  case first =>
    by_cases hE : E = 0
    · rcases HTC.out with ⟨E', h1, h2, -⟩ | ⟨O, ho, hO, hl4, h4, hf, hT, hF, -⟩
      · rw [HLE.out] at h2
        exact absurd ((Prod.mk.inj h2).2.symm.trans hE) h1
      have hLl : L = g.lay O (g.field s d O) := by rw [HLE.out] at hT; exact (Prod.mk.inj hT).1
      have hP1 : Hid (tpar s d L = (g, 0)) := by unfold Hid; rw [hLl, tpar_lay hg hs hd hs hd ho hO hl4 h4 hf, if_pos rfl]
      have hP2 : Hid (tpar s' d' L = if aw s d % 65535 = aw s' d' % 65535 then (g, 0) else (Sg.none, 20)) := by unfold Hid; rw [hLl, tpar_lay hg hs hd hs' hd' ho hO hl4 h4 hf]
      have hC1 : Hid (csum (pseu s d 6 L.length ++ L) = 65535) := by unfold Hid; rw [hLl, lay_len]; exact csum_lay hg hs hd hO hl4 hf
      have hLB : Hid (Byt L) := by unfold Hid; rw [hLl]; exact lay_byt hg hO hl4 hF
      have hE1 : (E == 0) = true := by simp [hE]
      have hLn' : ¬ (1480 : Int) < (L.length : Int) := by omega
      have hsr : Hid (tsame g g = true) := tsame_refl g
      clear hE ho hO hl4 h4 hf hT hF hLl
      go_wp2_with fail
      refine (tparse_any s d _ L _ hur hLB.out hs hd (by omega)).mono ?_
      rw [hP1.out]
      rintro e w3 ⟨vo', vd', rfl, hfo, hfr, hx3⟩
      have hfo := hfo.rdo
      have hfr := hfr.rd
      obtain ⟨ao', co', rfl⟩ := hfo.shape
      obtain ⟨ad', nd', cd', rfl⟩ := hfr.shape
      dsimp only [Sg.cells] at hfo hfr ⊢
      go_upto_region 6 with (fail)
      generalize hV : World.alloc w3 _ = V
      have hx4 : Ext w3 V := by rw [← hV]; exact Ext.new _ _
      have k15 : V.heap[w3.heap.size]? = some (.cells (g.cells (.slice ao' g.os.length co') (.slice ad' nd' cd')) 27) := by rw [← hV]; exact heap_alloc_new w3 _
      clear hV
      have hGB : G < w3.heap.size := Nat.lt_of_lt_of_le (lt_of_block kg) hx3.size
      have hWB : W2.heap.size ≤ w3.heap.size := hx3.size
      have kgW := kg
      have hurW := hur
      generalize w3.heap.size = B15 at *
      have hx2V := hx3.tr hx4
      have hxV := hxW.tr hx2V
      have kg := hx2V.block kg
      have hur := hur.ext hx2V
      have hfo := hfo.ext hx4
      have hfr := hfr.ext hx4
      clear hx3 hx4 e0 e1 e2 e3 e4 e5 e6 e7 e8
      have e0 := cell_blk kg 0
      have e1 := cell_blk kg 1
      have e2 := cell_blk kg 2
      have e3 := cell_blk kg 3
      have e4 := cell_blk kg 4
      have e5 := cell_blk kg 5
      have e6 := cell_blk kg 6
      have e7 := cell_blk kg 7
      have e8 := cell_blk kg 8
      simp at e0 e1 e2 e3 e4 e5 e6 e7 e8
      have y0 := cell_blk k15 0
      have y1 := cell_blk k15 1
      have y2 := cell_blk k15 2
      have y3 := cell_blk k15 3
      have y4 := cell_blk k15 4
      have y5 := cell_blk k15 5
      have y6 := cell_blk k15 6
      have y7 := cell_blk k15 7
      have y8 := cell_blk k15 8
      simp at y0 y1 y2 y3 y4 y5 y6 y7 y8
      go_wp2_with fail
      refine (tsame_any g g _ _ _ _ _ hg hg (hvo.ext hxV) (hvd.ext hxV) hfo hfr).mono ?_
      rw [hsr.out]
      rintro e w4 ⟨rfl, hx4⟩
      have hx2V := hx2V.tr hx4
      have hxV := hxV.tr hx4
      have kg := hx4.block kg
      have k15 := hx4.block k15
      have hur := hur.ext hx4
      clear hx4 e0 e1 e2 e3 e4 e5 e6 e7 e8 y0 y1 y2 y3 y4 y5 y6 y7 y8 hfo hfr
      go_wp2_with fail
      refine (pseudo_any s d 6 _ _ hs hd (by omega)).mono ?_
      rintro e w5 ⟨u, rfl, ho, hx5⟩
      have hor := ho.rd
      obtain ⟨u1, u2, u3, rfl⟩ := hor.shape
      have hx5a := hx5.al (.cells #[.slice u1 u2 u3, .slice au L.length cu] 25)
      have hrds := rds_two hor (hur.ext hx5) (t := 25) rfl
      have hpb := pseu_byt L.length hs hd (p := 6) (by omega)
      have hpl := pseu_len s d 6 L.length
      go_wp2_with fail
      refine (right_any _ _ _ hrds ?_ ?_).mono ?_
      · intro x hx
        simp only [List.mem_cons, List.not_mem_nil, or_false] at hx
        rcases hx with rfl | rfl
        · exact hpb
        · exact hLB.out
      · simp only [List.flatten_cons, List.flatten_nil, List.append_nil, List.length_append]
        omega
      rw [show [pseu s d 6 (L.length : Int), L].flatten = pseu s d 6 L.length ++ L from by simp, hC1.out]
      rintro e w6 ⟨rfl, hx6⟩
      have hx6 := hx5a.tr hx6
      have hx2V := hx2V.tr hx6
      have hxV := hxV.tr hx6
      have kg := hx6.block kg
      have k15 := hx6.block k15
      have hur := hur.ext hx6
      clear hx6 hx5 hx5a hrds hor ho hpb hpl
      go_wp2_with fail
      refine (tparse_any s' d' _ L _ hur hLB.out hs' hd' (by omega)).mono ?_
      rintro e w7 ⟨vo', vd', rfl, hfo, hfr, hx7⟩
      obtain ⟨q, Q, hq, hqQ⟩ : ∃ q Q, tpar s' d' L = (q, Q) ∧ ((decide (aw s d % 65535 = aw s' d' % 65535) = true ∧ q = g ∧ Q = 0) ∨ (decide (aw s d % 65535 = aw s' d' % 65535) = false ∧ q = Sg.none ∧ Q = 20)) := by
        rw [hP2.out]
        by_cases h : aw s d % 65535 = aw s' d' % 65535
        · rw [if_pos h]; exact ⟨_, _, rfl, .inl ⟨decide_eq_true h, rfl, rfl⟩⟩
        · rw [if_neg h]; exact ⟨_, _, rfl, .inr ⟨decide_eq_false h, rfl, rfl⟩⟩
      rw [hq] at hfo hfr ⊢
      have HQ := Lib.hid hqQ
      clear hqQ hq hP2
      dsimp only [Sg.cells] at hfo hfr ⊢
      obtain ⟨ao', co', rfl⟩ := hfo.rdo.shape
      obtain ⟨ad', nd', cd', rfl⟩ := hfr.rd.shape
      have hBs6 := lt_of_block k15
      have k15 := hx7.block k15
      have hx2V := hx2V.tr hx7
      have y0 := cell_blk k15 0
      have y1 := cell_blk k15 1
      have y2 := cell_blk k15 2
      have y3 := cell_blk k15 3
      have y4 := cell_blk k15 4
      have y5 := cell_blk k15 5
      have y6 := cell_blk k15 6
      have y7 := cell_blk k15 7
      have y8 := cell_blk k15 8
      simp at y0 y1 y2 y3 y4 y5 y6 y7 y8
      have fz := fz_blk k15
      go_upto_region 10 with (fail)
      generalize hV2 : World.setCell _ _ _ = V2
      obtain ⟨k15, hmv⟩ := seg_set k15 hV2
      have hkp := Keep.ofMvs hmv (base := w6.heap.size) (fun k hk => by omega)
      have hfo := (hfo.keep hkp).rdo
      have hfr := (Fr.keep hfr hkp).rd
      have hx2V := hmv.ext hx2V (fun k hk => by omega)
      clear hV2 hmv hkp fz y0 y1 y2 y3 y4 y5 y6 y7 y8
      go_wp2_with fail
      refine (pseudo_any s d 0 0 _ hs hd (by omega)).mono ?_
      rintro e w8 ⟨u, rfl, ho, hx8⟩
      have hor := ho.rd
      obtain ⟨u1, u2, u3, rfl⟩ := hor.shape
      have hp1 := pseu_byt 0 hs hd (p := 0) (by omega)
      have hp2 := pseu_byt 0 hs' hd' (p := 0) (by omega)
      go_wp2_with fail
      refine (sum_any _ _ _ (rds_one hor (t := 25) rfl) (by simpa using hp1) (by simp [pseu_len])).mono ?_
      rw [show [pseu s d 0 0].flatten = pseu s d 0 0 from by simp]
      rintro e w9 ⟨rfl, hx9⟩
      have hx9 := (hx8.al _).tr hx9
      go_wp2_with fail
      refine (pseudo_any s' d' 0 0 _ hs' hd' (by omega)).mono ?_
      rintro e w10 ⟨u, rfl, ho, hx10⟩
      have hor := ho.rd
      obtain ⟨u1, u2, u3, rfl⟩ := hor.shape
      go_wp2_with fail
      refine (sum_any _ _ _ (rds_one hor (t := 25) rfl) (by simpa using hp2) (by simp [pseu_len])).mono ?_
      rw [show [pseu s' d' 0 0].flatten = pseu s' d' 0 0 from by simp]
      rintro e w11 ⟨rfl, hx11⟩
      have hx11 := hx9.tr ((hx10.al _).tr hx11)
      clear hx8 hx9 hx10 hor ho hp1 hp2
      go_wp2_with fail
      refine (alike_any _ _ _).mono ?_
      rw [alike_addr hs hd hs' hd']
      rintro e w12 ⟨rfl, rfl⟩
      have hx2V := hx2V.tr hx11
      have k15 := hx11.block k15
      have hfoZ := hfo.ext hx11
      have hfrZ := hfr.ext hx11
      have kg := hx2V.block kgW
      have hxV := hxW.tr hx2V
      clear hx11
      have e0 := cell_blk kg 0
      have e1 := cell_blk kg 1
      have e2 := cell_blk kg 2
      have e3 := cell_blk kg 3
      have e4 := cell_blk kg 4
      have e5 := cell_blk kg 5
      have e6 := cell_blk kg 6
      have e7 := cell_blk kg 7
      have e8 := cell_blk kg 8
      simp at e0 e1 e2 e3 e4 e5 e6 e7 e8
      have y0 := cell_blk k15 0
      have y1 := cell_blk k15 1
      have y2 := cell_blk k15 2
      have y3 := cell_blk k15 3
      have y4 := cell_blk k15 4
      have y5 := cell_blk k15 5
      have y6 := cell_blk k15 6
      have y7 := cell_blk k15 7
      have y8 := cell_blk k15 8
      simp at y0 y1 y2 y3 y4 y5 y6 y7 y8
      rcases HQ.out with ⟨hq1, hq2, hq3⟩ | ⟨hq1, hq2, hq3⟩
      · subst hq2 hq3
        rw [hq1]
        go_wp2_with fail
        refine (tsame_any q q _ _ _ _ _ hg hg (hvo.ext hxV) (hvd.ext hxV) hfoZ hfrZ).mono ?_
        rw [hsr.out]
        rintro e w13 ⟨rfl, hx13⟩
        go_wp2_with fail
        go_meet
        case rel => exact hx2V.tr hx13
      · subst hq2 hq3
        rw [hq1]
        go_wp2_with fail
        go_meet
        case rel => exact hx2V
    · have hE1 : (E == 0) = false := by simp [hE]
      clear hE
      go_wp2_with fail
      go_meet
      case rel => exact Ext.rfl' _
  obtain ⟨W3, rfl⟩ : ∃ W3 : World, W3 = wc := ⟨_, rfl⟩
  have hxW := hxW.tr hcut
  clear hcut HPUT HMAY HMI HTC HLE kg hur e0 e1 e2 e3 e4 e5 e6 e7 e8 hvo hvd hd1 hd2 hg hn
  by_cases ht : terr s d l = 0
  · obtain ⟨O, ho, hO, hl4, h4, hf, hl⟩ := again HB.out ht
    have htp : Hid (tpar s d l = (tseg l, 0)) := by unfold Hid tpar; rw [if_pos ht]
    have hg := tseg_ok HB.out
    generalize tseg l = g at *
    have hput := fun (vo vd : Value) (W : World) (h1 : RdO W vo g.os) (h2 : Rd .u8 W vd g.data) => tput_any s d g vo vd W hg h1 h2 hs hd (by omega)
    rw [tput_fit ho (by omega)] at hput
    have hP1 : Hid (tpar s d (g.lay O (g.field s d O)) = (g, 0)) := by unfold Hid; rw [tpar_lay hg hs hd hs hd ho hO hl4 h4 (by omega), if_pos rfl]
    have hLB : Hid (Byt (g.lay O (g.field s d O))) := lay_byt hg hO hl4 (field_bd hg hs hd hO hl4)
    have hLl := lay_len g O (g.field s d O)
    dsimp only at hput
    generalize g.lay O (g.field s d O) = L at *
    have hLn : L.length ≤ 1480 := by omega
    have hLle : (L.length : Int) ≤ (l.length : Int) := by omega
    have HP := Lib.hid hput
    have hsr : Hid (tsame g g = true) := tsame_refl g
    clear hput ht ho hO hl4 h4 hf hl hLl
    go_wp2_with fail
    refine (tparse_any s d _ l _ (hbv.ext hxW) HB.out hs hd (by omega)).mono ?_
    rw [htp.out]
    rintro e w3 ⟨vo', vd', rfl, hfo, hfr, hx3⟩
    have hfo := hfo.rdo
    have hfr := hfr.rd
    obtain ⟨ao', co', rfl⟩ := hfo.shape
    obtain ⟨ad', nd', cd', rfl⟩ := hfr.shape
    dsimp only [Sg.cells] at hfo hfr ⊢
    go_upto_region 16 with (fail)
    generalize hV : World.alloc w3 _ = V
    have hx4 : Ext w3 V := by rw [← hV]; exact Ext.new _ _
    have k18 : V.heap[w3.heap.size]? = some (.cells (g.cells (.slice ao' g.os.length co') (.slice ad' nd' cd')) 27) := by rw [← hV]; exact heap_alloc_new w3 _
    clear hV
    generalize w3.heap.size = B18 at *
    have hxW := (hxW.tr hx3).tr hx4
    have hfo := hfo.ext hx4
    have hfr := hfr.ext hx4
    clear hx3 hx4
    have e0 := cell_blk k18 0
    have e1 := cell_blk k18 1
    have e2 := cell_blk k18 2
    have e3 := cell_blk k18 3
    have e4 := cell_blk k18 4
    have e5 := cell_blk k18 5
    have e6 := cell_blk k18 6
    have e7 := cell_blk k18 7
    have e8 := cell_blk k18 8
    simp at e0 e1 e2 e3 e4 e5 e6 e7 e8
    go_wp2_with fail
    refine (HP.out _ _ _ hfo hfr).mono ?_
    rintro e w4 ⟨u, rfl, hu, hx4⟩
    have hur := hu.rd
    obtain ⟨au, cu, rfl, hu1, hu2, -⟩ := id hur
    go_wp2_with fail
    refine (tparse_any s d _ L _ hur hLB.out hs hd (by omega)).mono ?_
    rw [hP1.out]
    rintro e w5 ⟨vo2, vd2, rfl, hfo2, hfr2, hx5⟩
    have hfo2 := hfo2.rdo
    have hfr2 := hfr2.rd
    obtain ⟨ao2, co2, rfl⟩ := hfo2.shape
    obtain ⟨ad2, nd2, cd2, rfl⟩ := hfr2.shape
    dsimp only [Sg.cells] at hfo2 hfr2 ⊢
    go_upto_region 20 with (fail)
    generalize hV : World.alloc w5 _ = V2
    have hx6 : Ext w5 V2 := by rw [← hV]; exact Ext.new _ _
    have k22 : V2.heap[w5.heap.size]? = some (.cells (g.cells (.slice ao2 g.os.length co2) (.slice ad2 nd2 cd2)) 27) := by rw [← hV]; exact heap_alloc_new w5 _
    clear hV
    generalize w5.heap.size = B22 at *
    have hxx := hx4.tr (hx5.tr hx6)
    have k18 := hxx.block k18
    clear hx4 hx5 e0 e1 e2 e3 e4 e5 e6 e7 e8
    have e0 := cell_blk k18 0
    have e1 := cell_blk k18 1
    have e2 := cell_blk k18 2
    have e3 := cell_blk k18 3
    have e4 := cell_blk k18 4
    have e5 := cell_blk k18 5
    have e6 := cell_blk k18 6
    have e7 := cell_blk k18 7
    have e8 := cell_blk k18 8
    simp at e0 e1 e2 e3 e4 e5 e6 e7 e8
    have y0 := cell_blk k22 0
    have y1 := cell_blk k22 1
    have y2 := cell_blk k22 2
    have y3 := cell_blk k22 3
    have y4 := cell_blk k22 4
    have y5 := cell_blk k22 5
    have y6 := cell_blk k22 6
    have y7 := cell_blk k22 7
    have y8 := cell_blk k22 8
    simp at y0 y1 y2 y3 y4 y5 y6 y7 y8
    go_wp2_with fail
    refine (tsame_any g g _ _ _ _ _ hg hg (hfo.ext hxx) (hfr.ext hxx) (hfo2.ext hx6) (hfr2.ext hx6)).mono ?_
    rw [hsr.out]
    rintro e w7 ⟨rfl, hx7⟩
    go_wp2_with fail
    refine (wakes6_any _).mono ?_
    rintro e w8 ⟨rfl, hx8⟩
    go_wp2_with fail
    go_ret
    exact ⟨rfl, hxW.tr (hxx.tr (hx7.tr hx8))⟩
  · have htp : Hid (tpar s d l = (Sg.none, terr s d l)) := by unfold Hid tpar; rw [if_neg ht]
    generalize terr s d l = E2 at *
    have hE2 : (E2 != 0) = true := by simpa using ht
    have hsr : Hid (tsame Sg.none Sg.none = true) := tsame_refl _
    clear ht
    go_wp2_with fail
    refine (tparse_any s d _ l _ (hbv.ext hxW) HB.out hs hd (by omega)).mono ?_
    rw [htp.out]
    rintro e w3 ⟨vo', vd', rfl, hfo, hfr, hx3⟩
    have hfo := hfo.rdo
    have hfr := hfr.rd
    obtain ⟨ao', co', rfl⟩ := hfo.shape
    obtain ⟨ad', nd', cd', rfl⟩ := hfr.shape
    dsimp only [Sg.cells, Sg.none] at hfo hfr ⊢
    have hx4 := hx3.al (.cells #[.int .u16 0, .int .u16 0, .int .u32 0, .int .u32 0, .int .u8 0, .int .u16 0, .int .u16 0, .slice ao' 0 co', .slice ad' nd' cd'] 27)
    go_wp2_with fail
    refine (tsame_any Sg.none Sg.none _ _ _ _ _ none_ok none_ok (hfo.ext (Ext.new _ _)) (hfr.ext (Ext.new _ _)) (RdO.nil _) (Rd.nil _ _)).mono ?_
    rw [hsr.out]
    rintro e w7 ⟨rfl, hx7⟩
    go_wp2_with fail
    refine (wakes6_any _).mono ?_
    rintro e w8 ⟨rfl, hx8⟩
    go_wp2_with fail
    go_ret
    exact ⟨rfl, hxW.tr (hx4.tr (hx7.tr hx8))⟩
end Go.Proofs.Ytjaffcbadgpolaa.tcpBack
