/-
  Proved here: the law UdpPuts returns true. Condition: each slice at most 2^47 - 4096 bytes (the form's own reach).
-/
import Derived.Test.YthhkdjoonnofdaaUdpO
import Derived.Test.YthhkdjoonnofdaaTail
import Derived.BigRegion
namespace Go.Proofs.Ythhkdjoonnofdaa.udpPuts
open Go.ChangeShapes Go.WideShapes Go.ChangeAt Go.RowKit Go.Cul Go.Loose
set_option linter.unusedVariables false
attribute [local go_sem] Loose.Still Loose.Upon

set_option maxHeartbeats 1000000 in
theorem walk (w : World) (cs : Array Value) (hcs : Reads w (.agg 2 (.more 1 (.int .u32) (.more 1 (.int .u32) .done))) cs.toList)
    (c1 : Array Value) (h1 : Reads w (.agg 3 (.more 1 (.int .u16) (.more 1 (.int .u16) (.more 1 (.ints .u8 1) .done)))) c1.toList)
    (c2 : Array Value) (h2 : Reads w (.agg 3 (.more 1 (.int .u16) (.more 1 (.int .u16) (.more 1 (.ints .u8 1) .done)))) c2.toList) :
    Calls Try.prog 6 #[.agg cs, .agg c1, .agg c2] w fun e w' => e = .returned (.bool true) ∧ Ext w w' := by
  obtain ⟨s, d, rfl, hs, hd⟩ := open_ends hcs
  obtain ⟨sp, dp, v1, l1, rfl, hsp, hdp, hv1, hb1, hn1⟩ := open_datagram h1
  obtain ⟨sp2, dp2, v2, l2, rfl, hsp2, hdp2, hv2, hb2, hn2⟩ := open_datagram h2
  clear hcs h1 h2
  obtain ⟨a1, cap1, rfl, q1, q2, -⟩ := id hv1
  obtain ⟨a2, cap2, rfl, q3, q4, -⟩ := id hv2
  obtain ⟨m1, hm1⟩ : ∃ m : Nat, m = min l1.length 1600 := ⟨_, rfl⟩
  obtain ⟨m2, hm2⟩ : ∃ m : Nat, m = min l2.length 1600 := ⟨_, rfl⟩
  have hml1 : m1 ≤ l1.length := by omega
  have hml2 : m2 ≤ l2.length := by omega
  have hmb1 : m1 ≤ 1600 := by omega
  have hmb2 : m2 ≤ 1600 := by omega
  have hmin1 : (if (1600 : Int) < (l1.length : Int) then (1600 : Int) else (l1.length : Int)) = (m1 : Int) := by split <;> omega
  have hmin2 : (if (1600 : Int) < (l2.length : Int) then (1600 : Int) else (l2.length : Int)) = (m2 : Int) := by split <;> omega
  have hv1 := hv1.take hml1
  have hv2 := hv2.take hml2
  have hb1 := hb1.take m1
  have hb2 := hb2.take m2
  have hL1 : (l1.take m1).length = m1 := by rw [List.length_take]; omega
  have hL2 : (l2.take m2).length = m2 := by rw [List.length_take]; omega
  clear hm1 hm2
  have HL1 := Lib.hid hL1
  have HL2 := Lib.hid hL2
  have HB1 := Lib.hid hb1
  have HB2 := Lib.hid hb2
  have HV1 := Lib.hid hv1
  have HV2 := Lib.hid hv2
  clear hL1 hL2 hb1 hb2 hv1 hv2
  generalize l1.take m1 = L1 at *
  generalize l2.take m2 = L2 at *
  go_enter Try.func6, Try.ntmps6
  go_wp2_with fail
  generalize hW : (((w.alloc (.cells #[.int .u32 s, .int .u32 d] 24)).alloc (.cells #[.int .u16 sp, .int .u16 dp, .slice a1 l1.length cap1] 28)).alloc (.cells #[.int .u16 sp2, .int .u16 dp2, .slice a2 l2.length cap2] 28)) = W
  have hxW : Ext w W := by
    rw [← hW]
    repeat (first | with_reducible exact Below.refl _ _ | with_reducible assumption | with_reducible exact Ext.drN (Ext.rfl' _) _ | with_reducible refine Below.setCell ?_ ?_ _ | with_reducible refine Ext.al ?_ _ | with_reducible refine Ext.drN ?_ _ | with_reducible refine Ext.dr ?_ | exact Nat.le_refl _ | omega | (dsimp only; omega) | (show _ ≤ _; omega) | (simp; done) | (simp; omega))
  have k0 : W.heap[w.heap.size]? = some (.cells #[.int .u32 s, .int .u32 d] 24) := by rw [← hW]; simp only [heap_alloc_at, World.size_alloc]; repeat (first | rfl | rw [if_pos (by first | trivial | omega)] | rw [if_neg (by omega)])
  have k1 : W.heap[w.heap.size + 1]? = some (.cells #[.int .u16 sp, .int .u16 dp, .slice a1 l1.length cap1] 28) := by rw [← hW]; simp only [heap_alloc_at, World.size_alloc]; repeat (first | rfl | rw [if_pos (by first | trivial | omega)] | rw [if_neg (by omega)])
  have k2 : W.heap[w.heap.size + 1 + 1]? = some (.cells #[.int .u16 sp2, .int .u16 dp2, .slice a2 l2.length cap2] 28) := by rw [← hW]; simp only [heap_alloc_at, World.size_alloc]; repeat (first | rfl | rw [if_pos (by first | trivial | omega)] | rw [if_neg (by omega)])
  have hsW : W.heap.size = w.heap.size + 3 := by rw [← hW]; simp
  clear hW
  have x1 := cell_blk k1 2
  simp at x1
  have x2 := cell_blk k2 2
  simp at x2
  have f1 := fz_blk k1 2
  have f2 := fz_blk k2 2
  go_region
  generalize hW2 : ((W.setCell ⟨w.heap.size + 1, 2, none⟩ (.slice a1 m1 cap1)).setCell ⟨w.heap.size + 1 + 1, 2, none⟩ (.slice a2 m2 cap2)).drew = W2
  have hx2 : Ext w W2 := by
    rw [← hW2]
    repeat (first | with_reducible exact Below.refl _ _ | with_reducible assumption | with_reducible exact Ext.drN (Ext.rfl' _) _ | with_reducible refine Below.setCell ?_ ?_ _ | with_reducible refine Ext.al ?_ _ | with_reducible refine Ext.drN ?_ _ | with_reducible refine Ext.dr ?_ | exact Nat.le_refl _ | omega | (dsimp only; omega) | (show _ ≤ _; omega) | (simp; done) | (simp; omega))
  have j0 : W2.heap[w.heap.size]? = some (.cells #[.int .u32 s, .int .u32 d] 24) := by rw [← hW2]; exact set_oth (set_oth k0 (by omega) _ _) (by omega) _ _
  have j1 : W2.heap[w.heap.size + 1]? = some (.cells #[.int .u16 sp, .int .u16 dp, .slice a1 m1 cap1] 28) := by rw [← hW2]; exact set_oth (set_blk k1 2 _) (by omega) _ _
  have j2 : W2.heap[w.heap.size + 1 + 1]? = some (.cells #[.int .u16 sp2, .int .u16 dp2, .slice a2 m2 cap2] 28) := by rw [← hW2]; exact set_blk (set_oth k2 (by omega) _ _) 2 _
  have hs2 : W2.heap.size = w.heap.size + 3 := by rw [← hW2]; simpa [World.drew] using hsW
  have hmL1 : L1.length ≤ 1600 := by rw [HL1.out]; exact hmb1
  have hmL2 : L2.length ≤ 1600 := by rw [HL2.out]; exact hmb2
  clear hW2 k0 k1 k2 x1 x2 f1 f2 hxW hsW W hmin1 hmin2
  have e0 := cell_blk j0 0
  have e1 := cell_blk j0 1
  simp at e0 e1
  have x0 := cell_blk j1 0
  have x1 := cell_blk j1 1
  have x2 := cell_blk j1 2
  simp at x0 x1 x2
  have x2 := fun (o : Obj) => (Ext.new W2 o).cell x2
  go_wp2_with (at_builtin; go_must (refine wpList_app_fr isU8 rfl (.tmp 30) (.tmp 32) rfl W2.heap.size _ [] rfl (.inr ⟨_, rfl, rfl⟩) _ L1 rfl (HV1.out.ext (hx2.al _)) (by simp; omega) (by simp [maxLen]; omega) (by simp) ?_); intro v1 w1 hfr1 hown1 hb1; obtain ⟨ao, no, co, rfl⟩ := hfr1.rd.shape; have hx21 : Ext W2 w1 := Below.trans (Ext.new W2 _) hb1; have e0 := hx21.cell e0; have e1 := hx21.cell e1; have x0 := hx21.cell x0; have x1 := hx21.cell x1)
  rw [List.nil_append] at hfr1
  clear hown1 hb1
  generalize hU : uput s d sp dp L1 = U
  obtain ⟨B, E⟩ := U
  have hBb : Byt B := by
    have h := uput_byt hs hd hsp hdp HB1.out
    rw [hU] at h
    exact h
  have hBl : B.length ≤ 1480 := by
    have h := uput_len s d sp dp L1
    rw [hU] at h
    exact h
  have hp := put_any s d sp dp _ L1 _ hfr1.rd HB1.out hs hd hsp hdp (by omega)
  rw [hU] at hp
  have hp2 := fun (W : World) (h : Ext W2 W) => r7put_any s d sp dp _ L1 W ((HV1.out.ext hx2).ext h) HB1.out hs hd hsp hdp (by omega)
  rw [hU] at hp2
  clear hU
  have HP2 := Lib.hid hp2
  clear hp2
  refine hp.mono ?_
  rintro e w3 ⟨u3, rfl, hu3, hx3⟩
  simp only at hu3
  clear hp
  have hx13 : Ext w1 w3 := hx3
  have hx23 : Ext W2 w3 := hx21.tr hx3
  have e0 := hx3.cell e0
  have e1 := hx3.cell e1
  have x0 := hx3.cell x0
  have x1 := hx3.cell x1
  have x2 : w3.cell? ⟨w.heap.size + 1, 2, none⟩ = some (.slice a1 m1 cap1) := hx23.cell (cell_blk j1 2)
  go_wp2_with fail
  refine (HP2.out _ hx23).mono ?_
  rintro e w4 ⟨u4, rfl, hu4, hx4⟩
  have hu3r := hu3.rd.ext hx4
  go_wp2_with fail
  refine (beq_any _ _ B B _ hu3r hu4.rd hBb hBb).mono ?_
  rw [decide_eq_true rfl]
  rintro e w5 ⟨rfl, hx5⟩
  have hx35 : Ext w3 w5 := hx4.tr hx5
  have hu5 := hu3.kept hx35
  obtain ⟨au, cu, rfl, -, -, -⟩ := hu3r
  have HBl := Lib.hid hBl
  obtain ⟨n, hn⟩ : ∃ n : Nat, n = B.length := ⟨_, rfl⟩
  rw [← hn] at hu5 hBl
  rw [← hn]
  have Hn := Lib.hid hn
  clear hn hu3 hu4
  go_wp2_with fail
  go_loopw [62] (fun i wr => ∃ (k : Nat) (N : List Int), k ≤ n ∧ N.length = n ∧ i = .int .i64 k ∧ Own wr w1.heap.size 5 .u8 (.slice au n cu) N ∧ Byt N ∧ Ext w1 wr) (fun i _ => n - (intOf i).toNat)
  case atStart => exact ⟨0, B, Nat.zero_le _, Hn.out.symm, rfl, hu5, hBb, hx3.tr hx35⟩
  case round =>
    obtain ⟨k, N, hk, hNn, rfl, hown, hNb, hxr⟩ := hrel
    by_cases hlt : k < n
    · obtain ⟨g', cap', hv', hg1, -, hcell, hfz, -, -, hset⟩ := hown.open (by omega)
      rw [hNn] at hv'
      cases hv'
      have cx := hcell k (by omega)
      have cf := hfz k
      have hby := hNb.at k
      have hx255 := xor255 _ hby.1 hby.2
      have hs1 := hset (255 - N.getD k 0) k (by omega)
      have hb1 := byt_set hNb k (x := 255 - N.getD k 0) (by omega)
      have hx6 : Ext w1 (wr.setCell ⟨g', k, none⟩ (.int .u8 (255 - N.getD k 0))) := Below.setCell hxr hg1 _
      clear hcell hfz hset hNb
      have HNM : Hid ((N.set k (255 - N.getD k 0)).length = n) := by unfold Hid; rw [List.length_set, hNn]
      generalize N.getD k 0 = y at *
      generalize N.set k (255 - y) = N' at *
      clear hNn hown
      go_wp2_with fail
      go_roundw
      case rel => exact ⟨k + 1, N', by omega, HNM.out, by go_num, hs1, hb1, hx6⟩
      case measure => simp [intOf]; omega
    · have hrd := (hfr1.rd.ext hxr)
      have hx2r : Ext W2 wr := hx21.tr hxr
      clear hown hNb
      go_wp2_with fail
      have j1r := hx2r.block j1
      have j2r := hx2r.block j2
      have y0 := cell_blk j1r 0
      have y1 := cell_blk j1r 1
      have y2 := cell_blk j1r 2
      have z0 := cell_blk j2r 0
      have z1 := cell_blk j2r 1
      have z2 := cell_blk j2r 2
      simp at y0 y1 y2 z0 z1 z2
      have hL1r := (HV1.out.ext hx2).ext hx2r
      have hL2r := (HV2.out.ext hx2).ext hx2r
      clear e0 e1 x0 x1 x2 hxr
      generalize hS : usame sp dp L1 sp2 dp2 L2 = X
      have HS := Lib.hid hS
      clear hS
      refine wp_region_grow [(0, is (.bool true)), (13, is (.bool true)), (18, is (.bool X)), (21, is (.bool X)), (27, is (.bool true))] ?_ (by kernel_rfl) (by kernel_rfl) ?_
      · exact lasts_is (lasts_is (lasts_is (lasts_is (lasts_is lasts_nil))))
      apply wpL_some rfl rfl
      · intro w' hw' hn'
        go_simp
        refine ⟨Ext.rfl' _, ?_⟩
        refine (awake7_any _).mono ?_
        rintro e w2 ⟨rfl, hx⟩
        exact ⟨_, rfl, hx, rfl⟩
      intro v w' hw' hD' hv
      obtain rfl : v = _ := hv
      clear hw' hD' w'
      intro K hK; go_simp; refine hK _ _ ?_; clear hK K
      iterate 11
        apply wpL_none rfl rfl
        · intro w' hw' hn'; go_simp; exact rfl
        intro K hK; go_simp; refine hK _ _ ?_; clear hK K
      iterate 1
        apply wpL_none rfl rfl
        · intro w' hw' hn'; have y2 := Ext.cell hw' y2; go_simp; exact rfl
        intro K hK; go_simp; refine hK _ _ ?_; clear hK K
      apply wpL_some rfl rfl
      · intro w' hw' hn'
        go_simp
        refine ⟨Ext.rfl' _, ?_⟩
        refine (beq_any _ _ L1 L1 _ (hrd.ext hw') (hL1r.ext hw') HB1.out HB1.out).mono ?_
        rw [decide_eq_true rfl]
        rintro e w2 ⟨rfl, hx⟩
        exact ⟨_, rfl, hx, rfl⟩
      intro v w' hw' hD' hv
      obtain rfl : v = _ := hv
      clear hw' hD' w'
      intro K hK; go_simp; refine hK _ _ ?_; clear hK K
      iterate 2
        apply wpL_none rfl rfl
        · intro w' hw' hn'; go_simp; exact rfl
        intro K hK; go_simp; refine hK _ _ ?_; clear hK K
      iterate 2
        apply wpL_none rfl rfl
        · intro w' hw' hn'; have y0 := Ext.cell hw' y0; have y1 := Ext.cell hw' y1; have y2 := Ext.cell hw' y2; have z0 := Ext.cell hw' z0; have z1 := Ext.cell hw' z1; have z2 := Ext.cell hw' z2; go_simp; exact rfl
        intro K hK; go_simp; refine hK _ _ ?_; clear hK K
      apply wpL_some rfl rfl
      · intro w' hw' hn'
        go_simp
        refine ⟨Ext.rfl' _, ?_⟩
        refine (usame_any sp dp sp2 dp2 _ _ L1 L2 _ (hL1r.ext hw') (hL2r.ext hw') HB1.out HB2.out).mono ?_
        rw [HS.out]
        rintro e w2 ⟨rfl, hx⟩
        exact ⟨_, rfl, hx, rfl⟩
      intro v w' hw' hD' hv
      obtain rfl : v = _ := hv
      clear hw' hD' w'
      intro K hK; go_simp; refine hK _ _ ?_; clear hK K
      iterate 2
        apply wpL_none rfl rfl
        · intro w' hw' hn'; have y0 := Ext.cell hw' y0; have y1 := Ext.cell hw' y1; have y2 := Ext.cell hw' y2; have z0 := Ext.cell hw' z0; have z1 := Ext.cell hw' z1; have z2 := Ext.cell hw' z2; go_simp; exact rfl
        intro K hK; go_simp; refine hK _ _ ?_; clear hK K
      apply wpL_some rfl rfl
      · intro w' hw' hn'
        go_simp
        refine ⟨Ext.rfl' _, ?_⟩
        refine (r7same_any sp dp sp2 dp2 _ _ L1 L2 _ (hL1r.ext hw') (hL2r.ext hw') HB1.out HB2.out).mono ?_
        rw [HS.out]
        rintro e w2 ⟨rfl, hx⟩
        exact ⟨_, rfl, hx, rfl⟩
      intro v w' hw' hD' hv
      obtain rfl : v = _ := hv
      clear hw' hD' w'
      intro K hK; go_simp; refine hK _ _ ?_; clear hK K
      iterate 3
        apply wpL_none rfl rfl
        · intro w' hw' hn'; go_simp; exact rfl
        intro K hK; go_simp; refine hK _ _ ?_; clear hK K
      iterate 2
        apply wpL_none rfl rfl
        · intro w' hw' hn'; have y0 := Ext.cell hw' y0; have y1 := Ext.cell hw' y1; have y2 := Ext.cell hw' y2; go_simp; exact rfl
        intro K hK; go_simp; refine hK _ _ ?_; clear hK K
      apply wpL_some rfl rfl
      · intro w' hw' hn'
        go_simp
        refine ⟨Ext.rfl' _, ?_⟩
        refine (usame_any sp dp sp dp _ _ L1 L1 _ (hL1r.ext hw') (hL1r.ext hw') HB1.out HB1.out).mono ?_
        rw [usame_self]
        rintro e w2 ⟨rfl, hx⟩
        exact ⟨_, rfl, hx, rfl⟩
      intro v w' hw' hD' hv
      obtain rfl : v = _ := hv
      clear hw' hD' w'
      intro K hK; go_simp; refine hK _ _ ?_; clear hK K
      iterate 2
        apply wpL_none rfl rfl
        · intro w' hw' hn'; go_simp; exact rfl
        intro K hK; go_simp; refine hK _ _ ?_; clear hK K
      refine wpL_nil ?_
      intro w9 hx9 _
      go_wp2_with fail
      go_ret
      exact ⟨rfl, hx2.tr (hx2r.tr hx9)⟩
end Go.Proofs.Ythhkdjoonnofdaa.udpPuts
