/-
  Proved here: the law UdpCut returns true. Condition: each slice at most 2^47 - 4096 bytes (the form's own reach).
-/
import Derived.Test.YthhkdjoonnofdaaUdpQ
import Derived.Test.YthhkdjoonnofdaaTailA
import Derived.Deep.Cut
namespace Go.Proofs.Ythhkdjoonnofdaa.udpCut
open Go.ChangeShapes Go.WideShapes Go.ChangeAt Go.RowKit Go.Cul Go.Loose
set_option linter.unusedVariables false
attribute [local go_sem] Loose.Still Loose.Upon Loose.vUpon

theorem open_ragged {w : World} {cs : Array Value} (h : Reads w (.agg 2 (.more 1 (.int .u16) (.more 1 (.ints .u8 1) .done))) cs.toList) :
    ∃ left v l, cs = #[.int .u16 left, v] ∧ (0 ≤ left ∧ left ≤ 65535) ∧ Rd .u8 w v l ∧ Byt l := by
  simp only [Reads] at h
  obtain ⟨_, _, e0, ⟨x, rfl, wx⟩, _, _, rfl, ⟨v, l, rfl, hr, hb, hn⟩, rfl⟩ := h
  exact ⟨x, v, l, by rw [← Array.toList_inj]; simpa using e0, wf_u16 wx, hr, byt_of_wf hb⟩

theorem be16_take {l : List Int} {k i : Nat} (h : i + 2 ≤ k) : be16 (l.take k) i = be16 l i := by
  unfold be16
  simp only [List.getD, List.getElem?_take]
  rw [if_pos (by omega), if_pos (by omega)]
theorem be16_app {l r : List Int} {i : Nat} (h : i + 2 ≤ l.length) : be16 (l ++ r) i = be16 l i := by
  unfold be16
  simp only [List.getD]
  rw [List.getElem?_append_left (by omega), List.getElem?_append_left (by omega)]
theorem uerr_cut (s d sp dp f : Int) {l : List Int} (hn : l.length ≤ 1472) {k : Nat} (hk : k < 8 + l.length) : uerr s d ((udpl sp dp (8 + l.length) f l).take k) = if k < 8 then 4 else 5 := by
  have hlen : ((udpl sp dp (8 + l.length) f l).take k).length = k := by rw [List.length_take, udpl_len]; omega
  obtain ⟨b0, b2, b4, b6⟩ := udpl_be sp dp (8 + l.length) f l
  unfold uerr
  rw [hlen, if_neg (by omega)]
  by_cases h8 : k < 8
  · rw [if_pos h8, if_pos h8]
  · rw [if_neg h8, if_neg h8, be16_take (by omega), b4, if_pos (by omega)]
theorem uerr_more (s d sp dp f : Int) {l r : List Int} (hr : r ≠ []) : uerr s d (udpl sp dp (8 + l.length) f l ++ r) = if 1480 < 8 + l.length + r.length then 3 else 5 := by
  have hlen : (udpl sp dp (8 + l.length) f l ++ r).length = 8 + l.length + r.length := by rw [List.length_append, udpl_len]
  have hr0 : 0 < r.length := List.length_pos_iff.2 hr
  obtain ⟨b0, b2, b4, b6⟩ := udpl_be sp dp (8 + l.length) f l
  unfold uerr
  rw [hlen]
  by_cases h : 1480 < 8 + l.length + r.length
  · rw [if_pos h, if_pos h]
  · rw [if_neg h, if_neg h, if_neg (by omega), be16_app (by rw [udpl_len]; omega), b4, if_pos (by omega)]

/-- What Parse hands back, but for the datagram. -/
def PT (E : Int) (v : Value) (_ : World) : Prop := ∃ sp dp a n c, v = .tuple #[.agg #[.int .u16 sp, .int .u16 dp, .slice a n c], .int .i64 E]
/-- A new variable of a datagram. -/
def NV (W : World) (v : Value) (w : World) : Prop := ∃ g, v = .pointer (some ⟨g, 0, none⟩) ∧ W.heap.size ≤ g ∧ w.heap[g]? = some (.cells #[.int .u16 0, .int .u16 0, .slice none 0 0] 28)
theorem NV.lasts {W : World} : ∀ v w w', Ext w w' → NV W v w → NV W v w' := fun v w w' hx ⟨g, h1, h2, h3⟩ => ⟨g, h1, h2, hx.block h3⟩

set_option maxHeartbeats 2000000 in
theorem walk (w : World) (cs : Array Value) (hcs : Reads w (.agg 2 (.more 1 (.int .u32) (.more 1 (.int .u32) .done))) cs.toList)
    (c1 : Array Value) (h1 : Reads w (.agg 3 (.more 1 (.int .u16) (.more 1 (.int .u16) (.more 1 (.ints .u8 1) .done)))) c1.toList)
    (c2 : Array Value) (h2 : Reads w (.agg 2 (.more 1 (.int .u16) (.more 1 (.ints .u8 1) .done))) c2.toList) :
    Calls Try.prog 4 #[.agg cs, .agg c1, .agg c2] w fun e w' => e = .returned (.bool true) ∧ Ext w w' := by
  obtain ⟨s, d, rfl, hs, hd⟩ := open_ends hcs
  obtain ⟨sp, dp, v1, l1, rfl, hsp, hdp, hv1, hb1, hn1⟩ := open_datagram h1
  obtain ⟨left, v2, l2, rfl, hleft, hv2, hb2⟩ := open_ragged h2
  clear hcs h1 h2
  obtain ⟨a1, cap1, rfl, q1, q2, -⟩ := id hv1
  obtain ⟨a2, cap2, rfl, q3, q4, -⟩ := id hv2
  obtain ⟨m1, hm1⟩ : ∃ m : Nat, m = min l1.length 2000 := ⟨_, rfl⟩
  have hml1 : m1 ≤ l1.length := by omega
  have hmb1 : m1 ≤ 2000 := by omega
  have hmin1 : (if (2000 : Int) < (l1.length : Int) then (2000 : Int) else (l1.length : Int)) = (m1 : Int) := by split <;> omega
  obtain ⟨m2, hm2⟩ : ∃ m : Nat, m = min l2.length 20 := ⟨_, rfl⟩
  have hml2 : m2 ≤ l2.length := by omega
  have hmb2 : m2 ≤ 20 := by omega
  have hmin2 : (if (20 : Int) < (l2.length : Int) then (20 : Int) else (l2.length : Int)) = (m2 : Int) := by split <;> omega
  have hv1 := hv1.take hml1
  have hb1 := hb1.take m1
  have hL1 : (l1.take m1).length = m1 := by rw [List.length_take]; omega
  have hv2 := hv2.take hml2
  have hb2 := hb2.take m2
  have hM : (l2.take m2).length = m2 := by rw [List.length_take]; omega
  clear hm1 hm2
  generalize l1.take m1 = L at *
  generalize l2.take m2 = M at *
  have HL1 := Lib.hid hL1
  have HM := Lib.hid hM
  have HB1 := Lib.hid hb1
  have HB2 := Lib.hid hb2
  have HV1 := Lib.hid hv1
  have HV2 := Lib.hid hv2
  by_cases hlong : 1472 < m1
  · have HU : Hid (uput s d sp dp L = ([], 3)) := by unfold uput; rw [if_pos (by omega)]; exact rfl
    clear hL1 hM hb1 hb2 hv1 hv2
    go_enter Try.func4, Try.ntmps4
    go_wp2_with fail
    generalize hW : ((w.alloc (.cells #[.int .u32 s, .int .u32 d] 24)).alloc (.cells #[.int .u16 sp, .int .u16 dp, .slice a1 m1 cap1] 28)).alloc (.cells #[.int .u16 left, .slice a2 l2.length cap2] 39) = W
    have hxW : Ext w W := by
      rw [← hW]
      repeat (first | with_reducible exact Below.refl _ _ | with_reducible assumption | with_reducible exact Ext.drN (Ext.rfl' _) _ | with_reducible refine Below.setCell ?_ ?_ _ | with_reducible refine Ext.al ?_ _ | with_reducible refine Ext.drN ?_ _ | with_reducible refine Ext.dr ?_ | exact Nat.le_refl _ | omega | (dsimp only; omega) | (show _ ≤ _; omega) | (simp; done) | (simp; omega))
    have k0 : W.heap[w.heap.size]? = some (.cells #[.int .u32 s, .int .u32 d] 24) := by rw [← hW]; simp only [heap_alloc_at, World.size_alloc]; repeat (first | rfl | rw [if_pos (by first | trivial | omega)] | rw [if_neg (by omega)])
    have k1 : W.heap[w.heap.size + 1]? = some (.cells #[.int .u16 sp, .int .u16 dp, .slice a1 m1 cap1] 28) := by rw [← hW]; simp only [heap_alloc_at, World.size_alloc]; repeat (first | rfl | rw [if_pos (by first | trivial | omega)] | rw [if_neg (by omega)])
    have k2 : W.heap[w.heap.size + 1 + 1]? = some (.cells #[.int .u16 left, .slice a2 l2.length cap2] 39) := by rw [← hW]; simp only [heap_alloc_at, World.size_alloc]; repeat (first | rfl | rw [if_pos (by first | trivial | omega)] | rw [if_neg (by omega)])
    have hsW : W.heap.size = w.heap.size + 3 := by rw [← hW]; simp
    clear hW
    refine (put_any s d sp dp _ L _ (HV1.out.ext hxW) HB1.out hs hd hsp hdp (by rw [HL1.out]; omega)).mono ?_
    rw [HU.out]
    rintro e w1 ⟨u1, rfl, hu1, hx1⟩
    obtain ⟨au, cu, rfl, -, -, -⟩ := hu1.rd
    have k1 := hx1.block k1
    have y2 := cell_blk k1 2
    simp at y2
    clear k0 k2 hu1
    go_wp2_with fail
    refine (awake7_any _).mono ?_
    rintro e w2 ⟨rfl, hx2⟩
    go_wp2
    go_ret
    exact ⟨rfl, hxW.tr (hx1.tr hx2)⟩
  obtain rfl : m1 = l1.length := by split at hmin1 <;> omega
  clear hmin1
  have hLn : L.length ≤ 1472 := by omega
  have HU := Lib.hid (uput_of (s := s) (d := d) (sp := sp) (dp := dp) hLn)
  have HF := udpf_bd hs hd hsp hdp (by omega) hb1
  have HE0 := Lib.hid (uerr_put hs hd hsp hdp hb1 hLn)
  have HE1 : Hid (∀ k : Nat, k < 8 + L.length → _) := fun k hk => uerr_cut s d sp dp (udpf s d sp dp L) hLn hk
  have HE2 : Hid (∀ r : List Int, r ≠ [] → _) := fun r hr => uerr_more s d sp dp (udpf s d sp dp L) (l := L) hr
  have hBl := udpl_len sp dp (8 + L.length) (udpf s d sp dp L) L
  have hBb : Byt (udpl sp dp (8 + L.length) (udpf s d sp dp L) L) := udpl_byt hsp hdp (by omega) (by omega) hb1
  have HBb := Lib.hid hBb
  have HBl := Lib.hid hBl
  clear hBb hBl
  generalize udpl sp dp (8 + L.length) (udpf s d sp dp L) L = B at *
  obtain ⟨N, hN⟩ : ∃ N : Nat, N = 8 + l1.length := ⟨_, rfl⟩
  have hBN : Hid (B.length = N) := by unfold Hid; rw [HBl.out, hL1, hN]
  have hNb : 8 ≤ N ∧ N ≤ 1480 := by omega
  have hLN : Hid (8 + L.length = N) := by unfold Hid; omega
  obtain ⟨left, rfl⟩ := Int.eq_ofNat_of_zero_le hleft.1
  obtain ⟨k, hk⟩ : ∃ k : Nat, k = left % N := ⟨_, rfl⟩
  have hkN : k < N := by rw [hk]; exact Nat.mod_lt _ (by omega)
  have hkm : (left : Int) % (N : Int) = (k : Int) := by rw [hk]; omega
  have hkt : (left : Int).tmod (N : Int) = (k : Int) := by rw [Int.tmod_eq_emod_of_nonneg (by omega)]; exact hkm
  have hNz : ((N : Int) == 0) = false := by rw [beq_eq_false_iff_ne]; omega
  have HK := Lib.hid hk
  have HN := Lib.hid hN
  clear hL1 hM hb1 hb2 hv1 hv2 hk hN
  go_enter Try.func4, Try.ntmps4
  go_wp2_with fail
  generalize hW : ((w.alloc (.cells #[.int .u32 s, .int .u32 d] 24)).alloc (.cells #[.int .u16 sp, .int .u16 dp, .slice a1 l1.length cap1] 28)).alloc (.cells #[.int .u16 left, .slice a2 l2.length cap2] 39) = W
  have hxW : Ext w W := by
    rw [← hW]
    repeat (first | with_reducible exact Below.refl _ _ | with_reducible assumption | with_reducible exact Ext.drN (Ext.rfl' _) _ | with_reducible refine Below.setCell ?_ ?_ _ | with_reducible refine Ext.al ?_ _ | with_reducible refine Ext.drN ?_ _ | with_reducible refine Ext.dr ?_ | exact Nat.le_refl _ | omega | (dsimp only; omega) | (show _ ≤ _; omega) | (simp; done) | (simp; omega))
  have k0 : W.heap[w.heap.size]? = some (.cells #[.int .u32 s, .int .u32 d] 24) := by rw [← hW]; simp only [heap_alloc_at, World.size_alloc]; repeat (first | rfl | rw [if_pos (by first | trivial | omega)] | rw [if_neg (by omega)])
  have k1 : W.heap[w.heap.size + 1]? = some (.cells #[.int .u16 sp, .int .u16 dp, .slice a1 l1.length cap1] 28) := by rw [← hW]; simp only [heap_alloc_at, World.size_alloc]; repeat (first | rfl | rw [if_pos (by first | trivial | omega)] | rw [if_neg (by omega)])
  have k2 : W.heap[w.heap.size + 1 + 1]? = some (.cells #[.int .u16 left, .slice a2 l2.length cap2] 39) := by rw [← hW]; simp only [heap_alloc_at, World.size_alloc]; repeat (first | rfl | rw [if_pos (by first | trivial | omega)] | rw [if_neg (by omega)])
  have hsW : W.heap.size = w.heap.size + 3 := by rw [← hW]; simp
  clear hW
  refine (put_any s d sp dp _ L _ (HV1.out.ext hxW) HB1.out hs hd hsp hdp (by rw [HL1.out]; omega)).mono ?_
  rw [HU.out]
  rintro e w1 ⟨u1, rfl, hu1, hx1⟩
  have k0 := hx1.block k0
  have k1 := hx1.block k1
  have k2 := hx1.block k2
  have e0 := cell_blk k0 0
  have e1 := cell_blk k0 1
  simp at e0 e1
  have y2 := cell_blk k1 2
  simp at y2
  have z0 := cell_blk k2 0
  have z1 := cell_blk k2 1
  simp at z0 z1
  have hu1r := hu1.rd
  simp only at hu1r
  obtain ⟨au, cu, hue, hcu1, hcu2, -⟩ := id hu1r
  rw [hBN.out] at hue
  subst hue
  clear hu1
  go_wp2_with fail
  have hE8 : (uerr s d (B.take k) = 4 ∧ ((k : Int) < 8)) ∨ (uerr s d (B.take k) = 5 ∧ ¬ ((k : Int) < 8)) := by
    have h := HE1.out k (by rw [hLN.out]; exact hkN)
    by_cases h8 : k < 8
    · rw [if_pos h8] at h; exact .inl ⟨h, by omega⟩
    · rw [if_neg h8] at h; exact .inr ⟨h, by omega⟩
  generalize hEd : uerr s d (B.take k) = E at *
  have HEd := Lib.hid hEd
  have hx1W : Ext w w1 := hxW.tr hx1
  have hkc : k ≤ cu := by have := hBN.out; omega
  have hcut := hu1r.take (m := k) (by omega)
  have hcl : (B.take k).length ≤ 1480 := by rw [List.length_take]; omega
  clear hEd hkt hkm
  refine wp_region_tail 12 [(7, PT E), (11, NV w1)] ?_ (by kernel_rfl) (by kernel_rfl) (by kernel_rfl) ?_
  · exact lasts_cons (fun _ _ _ _ h => h) (lasts_cons NV.lasts lasts_nil)
  simp only [List.take, List.drop]
  iterate 4
    apply wpL_none rfl rfl
    · intro w' hw' hn'; have e0 := Ext.cell hw' e0; have e1 := Ext.cell hw' e1; go_simp; exact rfl
    intro K hK; go_simp; refine hK _ _ ?_; clear hK K
  iterate 2
    apply wpL_none rfl rfl
    · intro w' hw' hn'; go_simp; exact rfl
    intro K hK; go_simp; refine hK _ _ ?_; clear hK K
  iterate 1
    apply wpL_none rfl rfl
    · intro w' hw' hn'; go_simp; exact rfl
    intro K hK; go_simp; refine hK _ _ ?_; clear hK K
  apply wpL_some rfl rfl
  · intro w' hw' hn'
    go_simp
    refine ⟨Ext.rfl' _, ?_⟩
    refine (parse_any s d _ (B.take k) _ (hcut.ext hw') (HBb.out.take k) hs hd (by omega)).mono ?_
    rw [HEd.out]
    rintro e w2 ⟨u, rfl, ho, hx⟩
    obtain ⟨a, n, c, rfl⟩ := ho.rd.shape
    exact ⟨_, rfl, hx, ⟨_, _, _, _, _, rfl⟩⟩
  intro v w' hw' hD' hv
  obtain ⟨spx, dpx, ax, nx, cx, rfl⟩ := hv
  clear hw' hD' w'
  intro K hK; go_simp; refine hK _ _ ?_; clear hK K
  iterate 3
    apply wpL_none rfl rfl
    · intro w' hw' hn'; go_simp; exact rfl
    intro K hK; go_simp; refine hK _ _ ?_; clear hK K
  apply wpL_some rfl rfl
  · intro w' hw' hn'
    go_simp
    exact ⟨Ext.new _ _, _, rfl, hw'.size, heap_alloc_new _ _⟩
  intro v w' hw' hD' hv
  obtain ⟨g, rfl, hg, hb⟩ := hv
  clear hD' hw' hb w'
  intro K hK; go_simp; refine hK _ _ ?_; clear hK K
  refine wpL_nil ?_
  intro w' hw' hD'
  have hnv := hD' 11
  simp [Loose.upd] at hnv
  obtain ⟨g', hg1, hg2, hg3⟩ := hnv
  cases hg1
  have q0 := cell_blk hg3 0
  have q1 := cell_blk hg3 1
  have q2 := cell_blk hg3 2
  have qf := fz_blk hg3
  simp at q0 q1 q2
  apply wpVL_step rfl
  intro K hK
  go_simp
  refine hK _ _ ?_
  clear hK K
  apply wpVL_step rfl
  intro K hK
  go_simp
  refine hK _ _ ?_
  clear hK K
  refine wpVL_nil ?_
  have hx13 : Ext w1 (((w'.setCell ⟨g, 0, none⟩ (.int .u16 spx)).setCell ⟨g, 1, none⟩ (.int .u16 dpx)).setCell ⟨g, 2, none⟩ (.slice ax nx cx)) := Below.setCell (Below.setCell (Below.setCell hw' hg2 _) hg2 _) hg2 _
  generalize (((w'.setCell ⟨g, 0, none⟩ (.int .u16 spx)).setCell ⟨g, 1, none⟩ (.int .u16 dpx)).setCell ⟨g, 2, none⟩ (.slice ax nx cx)) = w3 at *
  clear hw' hD' hg3 q0 q1 q2 qf hg2 hcut hcl
  have k0 := hx13.block k0
  have k2 := hx13.block k2
  have hu3 := hu1r.ext hx13
  clear e0 e1 y2 z0 z1
  have e0 := cell_blk k0 0
  have e1 := cell_blk k0 1
  simp at e0 e1
  have z1 := cell_blk k2 1
  simp at z1
  rcases hE8 with ⟨rfl, hk8⟩ | ⟨rfl, hk8⟩
  all_goals
    go_upto_region 15 with (fail)
    refine LooseT.wp_region_tailT 13 [(7, RowsKeep w3.heap.size B.length 5)] [(5, fun v w => Fr w w3.heap.size 5 .u8 v B), (7, fun v w => Fr w w3.heap.size 5 .u8 v (B ++ M)), (8, PT (uerr s d (B ++ M))), (12, NV w3)] ?_ ?_ (by kernel_rfl) (by kernel_rfl) (by kernel_rfl) ?_
    · intro k b c hsz h
      simp only [LooseT.tk] at h
      split at h
      · exact h.1.1
      · exact Below.mono h hsz
    · refine LooseT.lastsT_cons (fun j v w w' hj h hs => ?_) (LooseT.lastsT_cons (fun j v w w' hj h hs => ?_) (LooseT.lastsT_free (fun _ _ _ h => h) (LooseT.lastsT_cons (fun j v w w' hj h hs => ?_) LooseT.lastsT_nil)))
      · simp only [LooseT.tk] at h
        split at h
        · exact h.fr hs (Nat.le_refl _)
        · exact hs.kept h
      · simp only [LooseT.tk] at h
        rw [if_neg hj] at h
        exact hs.kept h
      · simp only [LooseT.tk] at h
        split at h
        · obtain ⟨g, h1, h2, h3⟩ := hs
          exact ⟨g, h1, h2, h.1.2 g _ h3 (fun cur he => by cases he)⟩
        · exact NV.lasts v w w' h hs
    simp only [List.take, List.drop]
    iterate 5
      apply LooseT.wpL_none rfl rfl
      · intro w' hw' hn'; have e0 := Ext.cell hw'.1 e0; have e1 := Ext.cell hw'.1 e1; go_simp; exact rfl
      intro K hK; go_simp; refine hK _ _ ?_; clear hK K
    apply LooseT.wpL_some rfl rfl
    · intro w' hw' hn'
      go_simp
      refine ⟨Ext.rfl' _, ?_⟩
      refine (bclone_any _ B _ (hu3.ext hw'.1) (by have := hBN.out; omega)).mono ?_
      rintro e w2 ⟨u, rfl, ho, hx⟩
      exact ⟨u, rfl, hx, ho.low hw'.2⟩
    intro v5 w' hw' hD' hv
    clear hv hw' hD' w'
    intro K hK; go_simp; refine hK _ _ ?_; clear hK K
    iterate 1
      apply LooseT.wpL_none rfl rfl
      · intro w' hw' hn'; go_simp; exact rfl
      intro K hK; go_simp; refine hK _ _ ?_; clear hK K
    apply LooseT.wpL_some rfl rfl
    · intro w' hw' hn'
      have hr : Fr w' w3.heap.size 5 .u8 v5 B := hn' ⟨5, .data⟩ (by simp) rfl
      refine upon_app_keep isU8 (.tmp 89) (.tmp 90) (by rfl) w3.heap.size v5 B (by rfl) hr (.slice a2 m2 cap2) M (by rfl) (HV2.out.ext ((hx1W.tr hx13).tr hw'.1)) (by have := hBN.out; have := HM.out; omega) (by have := hBN.out; have := HM.out; unfold maxLen; omega) hw'.2 (fun v' w'' h1 h2 => ⟨h2, h1⟩)
    intro v7 w' hw' hD' hv
    clear hv hw' hD' w'
    intro K hK; go_simp; refine hK _ _ ?_; clear hK K
    apply LooseT.wpL_some rfl rfl
    · intro w' hw' hn'
      have hr : Fr w' w3.heap.size 5 .u8 v7 (B ++ M) := hn' ⟨7, .data⟩ (by simp) rfl
      go_simp
      refine ⟨Ext.rfl' _, ?_⟩
      refine (parse_any s d _ (B ++ M) _ hr.rd (HBb.out.app HB2.out) hs hd (by rw [List.length_append]; have := hBN.out; have := HM.out; omega)).mono ?_
      rintro e w2 ⟨u, rfl, ho, hx⟩
      obtain ⟨a, n, c, rfl⟩ := ho.rd.shape
      exact ⟨_, rfl, hx, ⟨_, _, _, _, _, rfl⟩⟩
    intro v w' hw' hD' hv
    obtain ⟨spy, dpy, ay, ny, cy, rfl⟩ := hv
    clear hw' hD' w'
    intro K hK; go_simp; refine hK _ _ ?_; clear hK K
    iterate 3
      apply LooseT.wpL_none rfl rfl
      · intro w' hw' hn'; go_simp; exact rfl
      intro K hK; go_simp; refine hK _ _ ?_; clear hK K
    apply LooseT.wpL_some rfl rfl
    · intro w' hw' hn'
      go_simp
      exact ⟨Ext.new _ _, _, rfl, hw'.2, heap_alloc_new _ _⟩
    intro v w' hw' hD' hv
    obtain ⟨g2, rfl, hg2, hb2⟩ := hv
    clear hD' hw' hb2 w'
    intro K hK; go_simp; refine hK _ _ ?_; clear hK K
    refine LooseT.wpL_nil ?_
    intro w' hw' hD'
    have hnv := hD' 12
    simp [Loose.upd] at hnv
    obtain ⟨g', hg1', hg2', hg3⟩ := hnv
    cases hg1'
    have q0 := cell_blk hg3 0
    have q1 := cell_blk hg3 1
    have q2 := cell_blk hg3 2
    simp at q0 q1 q2
    have qf := fz_blk hg3
    apply wpVL_step rfl
    intro K hK
    go_simp
    refine hK _ _ ?_
    clear hK K
    apply wpVL_step rfl
    intro K hK
    go_simp
    refine hK _ _ ?_
    clear hK K
    refine wpVL_nil ?_
    have HXF := Lib.hid ((hx1W.tr hx13).tr (show Ext w3 (((w'.setCell ⟨g2, 0, none⟩ (.int .u16 spy)).setCell ⟨g2, 1, none⟩ (.int .u16 dpy)).setCell ⟨g2, 2, none⟩ (.slice ay ny cy)) from Below.setCell (Below.setCell (Below.setCell hw'.1 hg2' _) hg2' _) hg2' _))
    generalize (((w'.setCell ⟨g2, 0, none⟩ (.int .u16 spy)).setCell ⟨g2, 1, none⟩ (.int .u16 dpy)).setCell ⟨g2, 2, none⟩ (.slice ay ny cy)) = w5 at *
    clear hw' hD' hg3 q0 q1 q2 qf e0 e1 z1 k0 k2
    by_cases hm0 : m2 = 0
    · have hM0 : M = [] := List.eq_nil_of_length_eq_zero (by rw [HM.out, hm0])
      have hE2 : uerr s d (B ++ M) = 0 := by rw [hM0, List.append_nil]; exact HE0.out
      rw [hE2]
      subst hm0
      clear hM0 hE2
      go_wp2_with fail
      refine (awake7_any _).mono ?_
      rintro e w9 ⟨rfl, hx9⟩
      go_wp2
      go_ret
      exact ⟨rfl, HXF.out.tr hx9⟩
    · have hE2 : uerr s d (B ++ M) = if 1480 < N + m2 then 3 else 5 := by
        have h := HE2.out M (by intro h; have := HM.out; rw [h] at this; simp at this; omega)
        rw [hLN.out, HM.out] at h
        exact h
      have hmz : ((m2 : Int) == 0) = false := by rw [beq_eq_false_iff_ne]; omega
      by_cases hbig : 1480 < N + m2
      · rw [if_pos hbig] at hE2
        rw [hE2]
        have hbi : (1480 : Int) < (N : Int) + (m2 : Int) := by omega
        clear hE2 hm0
        go_wp2_with fail
        refine (awake7_any _).mono ?_
        rintro e w9 ⟨rfl, hx9⟩
        go_wp2
        go_ret
        exact ⟨rfl, HXF.out.tr hx9⟩
      · rw [if_neg hbig] at hE2
        rw [hE2]
        have hbi : ¬ ((1480 : Int) < (N : Int) + (m2 : Int)) := by omega
        clear hE2 hm0
        go_wp2_with fail
        refine (awake7_any _).mono ?_
        rintro e w9 ⟨rfl, hx9⟩
        go_wp2
        go_ret
        exact ⟨rfl, HXF.out.tr hx9⟩
end Go.Proofs.Ythhkdjoonnofdaa.udpCut
