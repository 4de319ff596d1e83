/-
  Proved here: the law UdpBack returns true. Condition: each slice at most 2^47 - 4096 bytes (the form's own reach).
-/
import Derived.Test.YthhkdjoonnofdaaUdpT
import Derived.BigRegion
import Derived.Deep.Cut
import Derived.Deep.QuietTactic
import Derived.BigQuiet
namespace Go.Proofs.Ythhkdjoonnofdaa.udpBack
open Go.ChangeShapes Go.WideShapes Go.ChangeAt Go.RowKit Go.Cul
set_option linter.unusedVariables false

theorem open_turn {w : World} {cs : Array Value} (h : Reads w (.agg 2 (.more 1 (.int .u16) (.more 1 (.int .u16) .done))) cs.toList) :
    ∃ at_ by_, cs = #[.int .u16 at_, .int .u16 by_] ∧ (0 ≤ at_ ∧ at_ ≤ 65535) ∧ (0 ≤ by_ ∧ by_ ≤ 65535) := by
  simp only [Reads] at h
  obtain ⟨_, _, e0, ⟨x, rfl, wx⟩, _, _, rfl, ⟨y, rfl, wy⟩, rfl⟩ := h
  exact ⟨x, y, by rw [← Array.toList_inj]; simpa using e0, wf_u16 wx, wf_u16 wy⟩

/-- What Put hands back: the bytes, in memory of its own, spelled by their number. -/
def Put0 (w : World) (N : Nat) (B : List Int) (e : Ending) (w' : World) : Prop := ∃ g c, e = .returned (.tuple #[.slice (some ⟨g, 0, none⟩) N c, .int .i64 0]) ∧ w.heap.size ≤ g ∧ Own w' w.heap.size 5 .u8 (.slice (some ⟨g, 0, none⟩) N c) B ∧ Ext w w'

theorem own8 {w : World} {base N : Nat} {v : Value} {B : List Int} (ho : Own w base 5 .u8 v B) (hN : B.length = N) (h8 : 8 ≤ N) :
    ∃ g c, v = .slice (some ⟨g, 0, none⟩) N c ∧ base ≤ g ∧ g < w.heap.size ∧ w.cell? ⟨g, 6, none⟩ = some (.int .u8 (B.getD 6 0)) ∧ w.cell? ⟨g, 7, none⟩ = some (.int .u8 (B.getD 7 0)) ∧ w.frozen? ⟨g, 6, none⟩ = false ∧ w.frozen? ⟨g, 7, none⟩ = false ∧ N ≤ c := by
  subst hN
  obtain ⟨g, c, rfl, hg, hl, hcell, hfz, hc, -, -⟩ := ho.open (by omega)
  exact ⟨g, c, rfl, hg, hl, hcell 6 (by omega), hcell 7 (by omega), hfz 6, hfz 7, hc⟩

theorem own_set2 {w : World} {base g N c i j : Nat} {B : List Int} {x y : Int} (ho : Own w base 5 .u8 (.slice (some ⟨g, 0, none⟩) N c) B) (hi : i < B.length) (hj : j < B.length) :
    Own ((w.setCell ⟨g, i, none⟩ (.int .u8 x)).setCell ⟨g, j, none⟩ (.int .u8 y)) base 5 .u8 (.slice (some ⟨g, 0, none⟩) N c) ((B.set i x).set j y) := by
  obtain ⟨g', c', hv, -, -, -, -, -, -, hset⟩ := ho.open (by omega)
  cases hv
  have h1 := hset x i hi
  obtain ⟨g', c', hv, -, -, -, -, -, -, hset⟩ := h1.open (by rw [List.length_set]; omega)
  rw [List.length_set] at hv
  cases hv
  exact hset y j (by rw [List.length_set]; exact hj)

theorem own_cells {w : World} {base g N c : Nat} {B : List Int} (ho : Own w base 5 .u8 (.slice (some ⟨g, 0, none⟩) N c) B) (hB : 0 < B.length) :
    base ≤ g ∧ g < w.heap.size ∧ (∀ i, i < B.length → w.cell? ⟨g, i, none⟩ = some (.int .u8 (B.getD i 0))) ∧ (∀ i, w.frozen? ⟨g, i, none⟩ = false) ∧ N ≤ c := by
  obtain ⟨g', c', hv, hg, hl, hcell, hfz, hc, -⟩ := ho.open hB
  cases hv
  exact ⟨hg, hl, hcell, hfz, hc⟩

set_option maxRecDepth 100000 in
set_option maxHeartbeats 4000000 in
theorem walk (w : World) (cs : Array Value) (hcs : Reads w (.agg 2 (.more 1 (.int .u32) (.more 1 (.int .u32) .done))) cs.toList)
    (c1 : Array Value) (h1 : Reads w (.agg 3 (.more 1 (.int .u16) (.more 1 (.int .u16) (.more 1 (.ints .u8 1) .done)))) c1.toList)
    (c2 : Array Value) (h2 : Reads w (.agg 2 (.more 1 (.int .u16) (.more 1 (.int .u16) .done))) c2.toList) :
    Calls Try.prog 7 #[.agg cs, .agg c1, .agg c2] w fun e w' => e = .returned (.bool true) ∧ Ext w w' := by
  obtain ⟨s, d, rfl, hs, hd⟩ := open_ends hcs
  obtain ⟨sp, dp, v1, l1, rfl, hsp, hdp, hv1, hb1, hn1⟩ := open_datagram h1
  obtain ⟨at_, by_, rfl, hat, hby⟩ := open_turn h2
  clear hcs h1 h2
  obtain ⟨a1, cap1, rfl, q1, q2, -⟩ := id hv1
  obtain ⟨m1, hm1⟩ : ∃ m : Nat, m = min l1.length 1472 := ⟨_, rfl⟩
  have hml1 : m1 ≤ l1.length := by omega
  have hmb1 : m1 ≤ 1472 := by omega
  have hmin1 : (if (1472 : Int) < (l1.length : Int) then (1472 : Int) else (l1.length : Int)) = (m1 : Int) := by split <;> omega
  have hv1 := hv1.take hml1
  have hb1 := hb1.take m1
  have hL1 : (l1.take m1).length = m1 := by rw [List.length_take]; omega
  clear hm1
  generalize l1.take m1 = L at *
  have hLn : L.length ≤ 1472 := by omega
  have HU := uput_of (s := s) (d := d) (sp := sp) (dp := dp) hLn
  have HF := udpf_bd hs hd hsp hdp (by omega) hb1
  have HE0 := Lib.hid (uerr_put hs hd hsp hdp hb1 hLn)
  have HP0 := Lib.hid (upar_of (HE0.out))
  have HEZ := Lib.hid (uerr_zero s d (sp := sp) (dp := dp) hLn)
  have HPZ := Lib.hid (upar_of (HEZ.out))
  have HT0 := fun (t : Nat) (ht : 2 * t + 1 < 8 + L.length) (ht4 : t ≠ 2) (x y : Int) (hx : 0 ≤ x ∧ x ≤ 255) (hy : 0 ≤ y ∧ y ≤ 255) => uerr_turn hs hd hsp hdp hb1 hLn ht ht4 hx hy
  have HCS := udpf_right hs hd hsp hdp hb1
  have hbb : Byt (udpl sp dp (8 + L.length) (udpf s d sp dp L) L) := udpl_byt hsp hdp (by omega) (by omega) hb1
  have hbz : Byt (udpl sp dp (8 + L.length) 0 L) := udpl_byt hsp hdp (by omega) (by omega) hb1
  have hlb := udpl_len sp dp (8 + L.length) (udpf s d sp dp L) L
  have hlz := udpl_len sp dp (8 + L.length) 0 L
  have hz67 := udpl_zero sp dp (8 + L.length) (udpf s d sp dp L) L
  obtain ⟨-, -, -, hb6⟩ := udpl_be sp dp (8 + L.length) (udpf s d sp dp L) L
  have hpos : 0 < weigh 0 (pseu s d 17 (8 + (L.length : Int)) ++ udpl sp dp (8 + L.length) (udpf s d sp dp L) L) := by
    have h2 := weigh_udp s d sp dp (8 + L.length) (8 + L.length) (udpf s d sp dp L) L
    have h3 := weigh_pseu_val s d 17 (8 + L.length)
    have hw : 0 ≤ weigh 0 L := (weigh_bd 0 L hb1).1
    omega
  have HCS1 := Lib.hid ((csum_ones hpos).2 HCS)
  clear HCS hpos
  generalize hF : udpf s d sp dp L = F at *
  generalize udpl sp dp (8 + L.length) F L = B at *
  generalize udpl sp dp (8 + L.length) 0 L = Z at *
  obtain ⟨N, hN⟩ : ∃ N : Nat, N = 8 + m1 := ⟨_, rfl⟩
  have hBN : B.length = N := by omega
  have hNL : (8 + (L.length : Int)) = (N : Int) := by omega
  have hN8 : 8 ≤ N ∧ N ≤ 1480 := by omega
  have hput : ∀ w0 : World, Ext w w0 → Calls Try.prog 14 #[.int .u32 s, .int .u32 d, .agg #[.int .u16 sp, .int .u16 dp, .slice a1 m1 cap1]] w0 (Put0 w0 N B) := by
    intro w0 hx0
    refine (put_any s d sp dp _ L _ (hv1.ext hx0) hb1 hs hd hsp hdp (by omega)).mono ?_
    rw [HU]
    rintro e w' ⟨u, rfl, hu, hx⟩
    simp only at hu
    obtain ⟨g, c, rfl, hg, -⟩ := hu.open (by omega)
    rw [hBN] at hu ⊢
    exact ⟨g, c, rfl, hg, hu, hx⟩
  have HPUT := Lib.hid hput
  have HL1 := Lib.hid hL1
  have HB1 := Lib.hid hb1
  have HV1 := Lib.hid hv1
  have HBN := Lib.hid hBN
  have HNL := Lib.hid hNL
  have HN := Lib.hid hN
  have HBB := Lib.hid hbb
  have HBZ := Lib.hid hbz
  have HT := Lib.hid HT0
  clear HT0
  have HB6 := Lib.hid hb6
  have HZ67 := Lib.hid hz67
  have HZN : Hid (Z.length = N) := by unfold Hid; omega
  clear hF HU hlb hlz hL1 hb1 hv1 hbb hbz hBN hNL hN hput hz67 hb6
  rw [HNL.out] at HCS1
  go_enter Try.func7, Try.ntmps7
  go_wp2_with fail
  generalize hW : ((w.alloc (.cells #[.int .u32 s, .int .u32 d] 24)).alloc (.cells #[.int .u16 sp, .int .u16 dp, .slice a1 m1 cap1] 28)).alloc (.cells #[.int .u16 at_, .int .u16 by_] 48) = W
  have hxW : Ext w W := by
    rw [← hW]
    repeat (first | with_reducible exact Below.refl _ _ | with_reducible assumption | with_reducible exact Ext.drN (Ext.rfl' _) _ | with_reducible refine Below.setCell ?_ ?_ _ | with_reducible refine Ext.al ?_ _ | with_reducible refine Ext.drN ?_ _ | with_reducible refine Ext.dr ?_ | exact Nat.le_refl _ | omega | (dsimp only; omega) | (show _ ≤ _; omega) | (simp; done) | (simp; omega))
  have k0 : W.heap[w.heap.size]? = some (.cells #[.int .u32 s, .int .u32 d] 24) := by rw [← hW]; simp only [heap_alloc_at, World.size_alloc]; repeat (first | rfl | rw [if_pos (by first | trivial | omega)] | rw [if_neg (by omega)])
  have k1 : W.heap[w.heap.size + 1]? = some (.cells #[.int .u16 sp, .int .u16 dp, .slice a1 m1 cap1] 28) := by rw [← hW]; simp only [heap_alloc_at, World.size_alloc]; repeat (first | rfl | rw [if_pos (by first | trivial | omega)] | rw [if_neg (by omega)])
  have k2 : W.heap[w.heap.size + 1 + 1]? = some (.cells #[.int .u16 at_, .int .u16 by_] 48) := by rw [← hW]; simp only [heap_alloc_at, World.size_alloc]; repeat (first | rfl | rw [if_pos (by first | trivial | omega)] | rw [if_neg (by omega)])
  have hsW : W.heap.size = w.heap.size + 3 := by rw [← hW]; simp
  clear hW
  refine (HPUT.out _ hxW).mono ?_
  rintro e w1 ⟨g, cb, rfl, hg, hown, hx1⟩
  have k0 := hx1.block k0
  have k1 := hx1.block k1
  have k2 := hx1.block k2
  have hx1w := hxW.tr hx1
  have e0 := cell_blk k0 0
  have e1 := cell_blk k0 1
  simp at e0 e1
  go_wp2_with fail
  refine (parse_any s d _ B _ hown.rd HBB.out hs hd (by rw [HBN.out]; omega)).mono ?_
  rw [HE0.out, HP0.out]
  rintro e w2 ⟨u2, rfl, hu2, hx2⟩
  simp only at hu2
  obtain ⟨a2, n2, c2, rfl⟩ := hu2.rd.shape
  have k0 := hx2.block k0
  have k1 := hx2.block k1
  have k2 := hx2.block k2
  have y0 := cell_blk k1 0
  have y1 := cell_blk k1 1
  have y2 := cell_blk k1 2
  simp at y0 y1 y2
  have y0 := fun (o : Obj) => (Ext.new w2 o).cell y0
  have y1 := fun (o : Obj) => (Ext.new w2 o).cell y1
  have y2 := fun (o : Obj) => (Ext.new w2 o).cell y2
  go_wp2_with fail
  refine (usame_any sp dp sp dp _ _ L L _ (HV1.out.ext (hx1w.tr (hx2.al _))) (hu2.rd.ext (Ext.new _ _)) HB1.out HB1.out).mono ?_
  rw [usame_self]
  rintro e w3 ⟨rfl, hx3⟩
  have hx23 : Ext w2 w3 := (Ext.new _ _).tr hx3
  have k0 := hx23.block k0
  have k1 := hx23.block k1
  have k2 := hx23.block k2
  have hx13 : Ext w1 w3 := hx2.tr hx23
  clear y0 y1 y2 e0 e1
  have e0 := cell_blk k0 0
  have e1 := cell_blk k0 1
  simp at e0 e1
  have y2 := cell_blk k1 2
  simp at y2
  have hne : (((N : Int)) != (8 + (m1 : Int))) = false := by have := HN.out; rw [bne_eq_false_iff_eq]; omega
  go_wp2_with fail
  refine (pseudo_any s d 17 N _ hs hd (by omega)).mono ?_
  rintro e w4 ⟨u4, rfl, hu4, hx4⟩
  have hx14 := hx13.tr hx4
  have hu4r := hu4.rd
  obtain ⟨a4, n4, c4, rfl⟩ := hu4r.shape
  have hownr4 := hown.rd.ext hx14
  go_wp2_with fail
  refine (right_any _ [pseu s d 17 N, B] _ (rds_two hu4r hownr4 rfl) ?_ ?_).mono ?_
  · intro x hx
    simp only [List.mem_cons, List.not_mem_nil, or_false] at hx
    rcases hx with rfl | rfl
    · exact pseu_byt _ hs hd (by omega)
    · exact HBB.out
  · have := pseu_len s d 17 N
    have := HBN.out
    simp only [List.flatten_cons, List.flatten_nil, List.append_nil, List.length_append]
    omega
  rw [show (csum [pseu s d 17 (N : Int), B].flatten == 65535) = true from by simp [HCS1.out]]
  rintro e w5 ⟨rfl, hx5⟩
  have hx45 : Ext w4 w5 := (Ext.new _ _).tr hx5
  have hx15 := hx14.tr hx45
  have hown5 := hown.kept hx15
  obtain ⟨gg, cc, hv', -, -, c6, c7, -, -, hcc⟩ := own8 hown5 HBN.out hN8.1
  cases hv'
  have b6 := HBB.out.at 6
  have b7 := HBB.out.at 7
  have hF6 : B.getD 6 0 * 256 + B.getD 7 0 = F := HB6.out
  have k0 := (hx4.tr hx45).block k0
  have k1 := (hx4.tr hx45).block k1
  have k2 := (hx4.tr hx45).block k2
  clear e0 e1 y2
  generalize B.getD 6 0 = x6 at *
  generalize B.getD 7 0 = x7 at *
  have hbr : ((x6 == 0) = false) ∨ (x6 = 0 ∧ (x7 == 0) = false) := by
    by_cases h : x6 = 0
    · exact .inr ⟨h, by rw [beq_eq_false_iff_ne]; omega⟩
    · exact .inl (by simpa using h)
  have HF6 := Lib.hid hF6
  have hBl : B.length ≤ 1480 := by rw [HBN.out]; omega
  have hBne : B ≠ [] := by intro h; have := HBN.out; rw [h] at this; simp at this; omega
  have HBne := Lib.hid hBne
  have k0i : ∀ w', Ext w5 w' → w'.heap[w.heap.size]? = some (.cells #[.int .u32 s, .int .u32 d] 24) := fun _ h => h.block k0
  have K0 := Lib.hid k0i
  clear hF6 hBne k0i
  have hns5 : w5.heap.size ≤ w5.heap.size := Nat.le_refl _
  rcases hbr with q6 | ⟨rfl, q7⟩
  all_goals
    go_upto_region 8 with (at_builtin; go_must (refine wpList_app_fr isU8 rfl (.tmp 90) (.tmp 91) rfl w5.heap.size _ [] rfl (.inr ⟨_, rfl, rfl⟩) _ B rfl (hown5.rd.ext (Ext.new _ _)) (by simp; omega) (by simp [maxLen]; omega) (by simp) ?_); intro v6 w6 hfr6 hown6 hb6; have ho6 := hown6 HBne.out; rw [List.nil_append] at ho6; have hx56 : Ext w5 w6 := Below.trans (Ext.new w5 _) hb6; obtain ⟨g6, c6', rfl, hg6, hgl6, z6, z7, f6, f7, hcc6⟩ := own8 ho6 HBN.out hN8.1; clear hfr6 hown6)
    have hZ7 : Own ((w6.setCell ⟨g6, 6, none⟩ (.int .u8 0)).setCell ⟨g6, 7, none⟩ (.int .u8 0)) w5.heap.size 5 .u8 (.slice (some ⟨g6, 0, none⟩) N c6') Z := by
      have h := own_set2 ho6 (x := 0) (y := 0) (i := 6) (j := 7) (by rw [HBN.out]; omega) (by rw [HBN.out]; omega)
      rw [HZ67.out] at h
      exact h
    have hx57 : Ext w5 ((w6.setCell ⟨g6, 6, none⟩ (.int .u8 0)).setCell ⟨g6, 7, none⟩ (.int .u8 0)) := Below.setCell (Below.setCell hx56 hg6 _) hg6 _
    clear z6 z7 f6 f7 ho6
    generalize ((w6.setCell ⟨g6, 6, none⟩ (.int .u8 0)).setCell ⟨g6, 7, none⟩ (.int .u8 0)) = w7 at *
    have k0 := hx57.block k0
    have k1 := hx57.block k1
    have k2 := hx57.block k2
    have e0 := cell_blk k0 0
    have e1 := cell_blk k0 1
    simp at e0 e1
    go_wp2_with fail
    refine (parse_any s d _ Z _ hZ7.rd HBZ.out hs hd (by rw [HZN.out]; omega)).mono ?_
    rw [HEZ.out, HPZ.out]
    rintro e w8 ⟨u8, rfl, hu8, hx8⟩
    simp only at hu8
    obtain ⟨a8, n8, c8, rfl⟩ := hu8.rd.shape
    have k0 := hx8.block k0
    have k1 := hx8.block k1
    have k2 := hx8.block k2
    clear e0 e1
    have y0 := cell_blk k1 0
    have y1 := cell_blk k1 1
    have y2 := cell_blk k1 2
    simp at y0 y1 y2
    have y0 := fun (o : Obj) => (Ext.new w8 o).cell y0
    have y1 := fun (o : Obj) => (Ext.new w8 o).cell y1
    have y2 := fun (o : Obj) => (Ext.new w8 o).cell y2
    have hx58 : Ext w5 w8 := hx57.tr hx8
    go_wp2_with fail
    refine (usame_any sp dp sp dp _ _ L L _ (HV1.out.ext (hx1w.tr (hx15.tr (hx58.al _)))) (hu8.rd.ext (Ext.new _ _)) HB1.out HB1.out).mono ?_
    rw [usame_self]
    rintro e w9 ⟨rfl, hx9⟩
    have hx89 : Ext w8 w9 := (Ext.new _ _).tr hx9
    have k0 := hx89.block k0
    have k2 := hx89.block k2
    have hx59 : Ext w5 w9 := hx58.tr hx89
    have hown9 := hown5.kept hx59
    clear y0 y1 y2 hu8 hZ7 c6 c7 hu2
    have e0 := cell_blk k0 0
    have e1 := cell_blk k0 1
    simp at e0 e1
    have t0 := cell_blk k2 0
    have t1 := cell_blk k2 1
    simp at t0 t1
    obtain ⟨A, rfl⟩ := Int.eq_ofNat_of_zero_le hat.1
    have n0 : (((N : Int) / 2) == 0) = false := by rw [beq_eq_false_iff_ne]; omega
    have n1 : 0 < (N : Int) / 2 := by omega
    have hm : (A : Int) % ((N : Int) / 2) < (N : Int) / 2 := Int.emod_lt_of_pos _ n1
    have hm0 : 0 ≤ (A : Int) % ((N : Int) / 2) := Int.emod_nonneg _ (by omega)
    go_upto_region 12 with (fail)
    obtain ⟨T, hT⟩ : ∃ T : Nat, T = A % (N / 2) := ⟨_, rfl⟩
    have hT2 : 2 * T + 1 < N := by have : A % (N / 2) < N / 2 := Nat.mod_lt _ (by omega); omega
    obtain ⟨p, hp⟩ : ∃ p : Nat, p = 2 * T := ⟨_, rfl⟩
    have hpe : (A : Int) % ((N : Int) / 2) * 2 = (p : Int) := by rw [show (A : Int) % ((N : Int) / 2) = ((A % (N / 2) : Nat) : Int) from by rw [Int.natCast_emod, Int.natCast_ediv]; rfl, ← hT, hp]; omega
    rw [hpe]
    have HT2 := Lib.hid hp
    have hp1 : p + 1 < N := by omega
    have hpi : (p : Int) < (N : Int) := by omega
    have hpi1 : (p : Int) + 1 < (N : Int) := by omega
    have hpw : IntKind.i64.wrap ((p : Int) + 1) = (p : Int) + 1 := IntWalk.i64_in _ (by omega)
    clear hT hp hpe hm hm0 n0 n1
    obtain ⟨-, hglt, hcell, hfz, hcc9⟩ := own_cells hown9 (by rw [HBN.out]; omega)
    have hc0 := hcell p (by rw [HBN.out]; omega)
    have hc1 := hcell (p + 1) (by rw [HBN.out]; omega)
    have hz0 := hfz p
    have hz1 := hfz (p + 1)
    have hX := HBB.out.at p
    have hY := HBB.out.at (p + 1)
    have hbe : Hid (be16 B p = B.getD p 0 * 256 + B.getD (p + 1) 0) := rfl
    clear hcell hfz
    generalize hXd : B.getD p 0 = X at *
    generalize hYd : B.getD (p + 1) 0 = Y at *
    have HX := Lib.hid hXd
    have HY := Lib.hid hYd
    clear hXd hYd
    have hor := or8_u16 X Y hX.1 hX.2 hY.1 hY.2
    have e3 : IntKind.u16.wrap (X * 256) = X * 256 := by simp [IntKind.wrap, IntKind.bits, IntKind.signed]; omega
    go_quiet (fail)
    obtain ⟨wd, hwd⟩ : ∃ wd, wd = w9.drewN nq := ⟨_, rfl⟩
    rw [← hwd]
    have hx9d : Ext w9 wd := by rw [hwd]; exact Ext.drN (Ext.rfl' _) _
    have hownd := hown9.kept hx9d
    have k0 := hx9d.block k0
    have k2 := hx9d.block k2
    clear hwd hc0 hc1 hz0 hz1 e0 e1 t0 t1
    obtain ⟨-, hglt, hcell, hfz, -⟩ := own_cells hownd (by rw [HBN.out]; omega)
    have hc0 := hcell p (by rw [HBN.out]; omega)
    have hc1 := hcell (p + 1) (by rw [HBN.out]; omega)
    have hz0 := hfz p
    have hz1 := hfz (p + 1)
    rw [HX.out] at hc0
    rw [HY.out] at hc1
    have t0 := cell_blk k2 0
    have t1 := cell_blk k2 1
    simp at t0 t1
    have e0 := cell_blk k0 0
    have e1 := cell_blk k0 1
    simp at e0 e1
    clear hcell hfz
    have hwas : 0 ≤ X * 256 + Y ∧ X * 256 + Y ≤ 65535 := by omega
    have ht1 := turn_u16 hwas hby
    have htb := turn_bd hwas hby
    have hnot := not_u16 (X * 256 + Y) hwas.1 hwas.2
    have hsg : IntKind.u16.signed = false := rfl
    have HTB := Lib.hid (turn_bytes hX hY hby)
    have HNE := Lib.hid (fun h : 0 < by_ => turn_ne hwas ⟨h, hby.2⟩)
    have HXF := Lib.hid (hx1w.tr (hx15.tr (hx59.tr hx9d)))
    generalize hnew : turn (X * 256 + Y) by_ = new at *
    have Hnew := Lib.hid hnew
    clear hnew
    rcases q1 : (by_ == 0) with _ | _
    · rcases q2 : (new == 65535 - (X * 256 + Y)) with _ | _
      · rcases q3 : ((p : Int) == 4) with _ | _
        · by_cases hmain : ((p : Int) == 6) = false ∨ (((p : Int) == 6) = true ∧ (new == 0) = false)
          · rcases hmain with q4 | ⟨q4, q5⟩
            · go_upto_region 15 with (fail)
              have h8a := hi8_u8 hX hby
              have h8b := lo8_u8 hY hby
              have hgne : g ≠ w.heap.size + 1 + 1 := by omega
              have t1s : ∀ v, (wd.setCell ⟨g, p, none⟩ v).cell? ⟨w.heap.size + 1 + 1, 1, none⟩ = some (.int .u16 by_) := fun v => by
                rw [World.cell?_setCell_other _ _ _ _ (by intro h; have := congrArg Addr.block h; simp at this; omega)]
                exact t1
              have c1s : ∀ v, (wd.setCell ⟨g, p, none⟩ v).cell? ⟨g, p + 1, none⟩ = some (.int .u8 Y) := fun v => by
                rw [World.cell?_setCell_other _ _ _ _ (by intro h; have := congrArg Addr.off h; simp at this)]
                exact hc1
              go_region
              have hos := own_set2 hownd (x := hi8 X by_) (y := lo8 Y by_) (i := p) (j := p + 1) (by rw [HBN.out]; omega) (by rw [HBN.out]; omega)
              have hxs : Ext w ((wd.setCell ⟨g, p, none⟩ (.int .u8 (hi8 X by_))).setCell ⟨g, p + 1, none⟩ (.int .u8 (lo8 Y by_))) := Below.setCell (Below.setCell HXF.out (by show w.heap.size ≤ g; omega) _) (by show w.heap.size ≤ g; omega) _
              have k0s := set_oth (set_oth k0 (b := g) (by omega) p (.int .u8 (hi8 X by_))) (b := g) (by omega) (p + 1) (.int .u8 (lo8 Y by_))
              have hb8 := hi8_bd hX hby
              have hl8 := lo8_bd hY hby
              have hE20 : uerr s d ((B.set p (hi8 X by_)).set (p + 1) (lo8 Y by_)) = 20 := by
                have h := HT.out T (by have := HNL.out; omega) (by rw [beq_eq_false_iff_ne] at q3; have := HT2.out; omega) _ _ hb8 hl8
                rw [← HT2.out] at h
                have hbe' := hbe.out
                rw [HTB.out, hbe'] at h
                refine h ?_ ?_ ?_
                · have := HNE.out (by have := beq_eq_false_iff_ne.1 q1; omega)
                  exact this
                · exact beq_eq_false_iff_ne.1 q2
                · intro hT3
                  exfalso; have := beq_eq_false_iff_ne.1 q4; have := HT2.out; omega
              have hbt : Byt ((B.set p (hi8 X by_)).set (p + 1) (lo8 Y by_)) := byt_set (byt_set HBB.out _ hb8) _ hl8
              have HE20 := Lib.hid hE20
              have HBT := Lib.hid hbt
              have hbl : ((B.set p (hi8 X by_)).set (p + 1) (lo8 Y by_)).length ≤ 1480 := by rw [List.length_set, List.length_set, HBN.out]; omega
              clear hE20 hbt hc0 hc1 hz0 hz1 t0 t1 t1s c1s e0 e1
              generalize ((wd.setCell ⟨g, p, none⟩ (.int .u8 (hi8 X by_))).setCell ⟨g, p + 1, none⟩ (.int .u8 (lo8 Y by_))) = ws at *
              have hxd : Ext ws ws.drew := Ext.dr (Ext.rfl' ws)
              have k0d := hxd.block k0s
              have hod := hos.rd.ext hxd
              have hxwd := hxs.tr hxd
              generalize ws.drew = wr at *
              have e0 := cell_blk k0d 0
              have e1 := cell_blk k0d 1
              simp at e0 e1
              go_wp2_with fail
              refine (parse_err 20 s d _ _ _ hod HBT.out hs hd (by omega) HE20.out).mono ?_
              rintro e w10 ⟨sp10, dp10, u10, l10, rfl, hu10, hx10⟩
              obtain ⟨a10, n10, c10, rfl⟩ := hu10.rd.shape
              go_wp2_with fail
              refine (awake7_any _).mono ?_
              rintro e w11 ⟨rfl, hx11⟩
              go_wp2
              go_ret
              exact ⟨rfl, hxwd.tr (hx10.tr ((Ext.new _ _).tr hx11))⟩
            · obtain rfl : p = 6 := by have := beq_iff_eq.1 q4; omega
              clear q4 q3
              simp only [Nat.reduceAdd] at *
              go_upto_region 15 with (fail)
              have h8a := hi8_u8 hX hby
              have h8b := lo8_u8 hY hby
              have hgne : g ≠ w.heap.size + 1 + 1 := by omega
              have t1s : ∀ v, (wd.setCell ⟨g, 6, none⟩ v).cell? ⟨w.heap.size + 1 + 1, 1, none⟩ = some (.int .u16 by_) := fun v => by
                rw [World.cell?_setCell_other _ _ _ _ (by intro h; have := congrArg Addr.block h; simp at this; omega)]
                exact t1
              have c1s : ∀ v, (wd.setCell ⟨g, 6, none⟩ v).cell? ⟨g, 7, none⟩ = some (.int .u8 Y) := fun v => by
                rw [World.cell?_setCell_other _ _ _ _ (by intro h; have := congrArg Addr.off h; simp at this)]
                exact hc1
              go_region
              have hos := own_set2 hownd (x := hi8 X by_) (y := lo8 Y by_) (i := 6) (j := 7) (by rw [HBN.out]; omega) (by rw [HBN.out]; omega)
              have hxs : Ext w ((wd.setCell ⟨g, 6, none⟩ (.int .u8 (hi8 X by_))).setCell ⟨g, 7, none⟩ (.int .u8 (lo8 Y by_))) := Below.setCell (Below.setCell HXF.out (by show w.heap.size ≤ g; omega) _) (by show w.heap.size ≤ g; omega) _
              have k0s := set_oth (set_oth k0 (b := g) (by omega) 6 (.int .u8 (hi8 X by_))) (b := g) (by omega) (7) (.int .u8 (lo8 Y by_))
              have hb8 := hi8_bd hX hby
              have hl8 := lo8_bd hY hby
              have hE20 : uerr s d ((B.set 6 (hi8 X by_)).set (7) (lo8 Y by_)) = 20 := by
                have h := HT.out T (by have := HNL.out; omega) (by have := HT2.out; omega) _ _ hb8 hl8
                rw [← HT2.out, show 6 + 1 = 7 from rfl] at h
                have hbe' := hbe.out
                rw [HTB.out, hbe'] at h
                refine h ?_ ?_ ?_
                · have := HNE.out (by have := beq_eq_false_iff_ne.1 q1; omega)
                  exact this
                · exact beq_eq_false_iff_ne.1 q2
                · intro hT3
                  exact beq_eq_false_iff_ne.1 q5
              have hbt : Byt ((B.set 6 (hi8 X by_)).set (7) (lo8 Y by_)) := byt_set (byt_set HBB.out _ hb8) _ hl8
              have HE20 := Lib.hid hE20
              have HBT := Lib.hid hbt
              have hbl : ((B.set 6 (hi8 X by_)).set (7) (lo8 Y by_)).length ≤ 1480 := by rw [List.length_set, List.length_set, HBN.out]; omega
              clear hE20 hbt hc0 hc1 hz0 hz1 t0 t1 t1s c1s e0 e1
              generalize ((wd.setCell ⟨g, 6, none⟩ (.int .u8 (hi8 X by_))).setCell ⟨g, 7, none⟩ (.int .u8 (lo8 Y by_))) = ws at *
              have hxd : Ext ws ws.drew := Ext.dr (Ext.rfl' ws)
              have k0d := hxd.block k0s
              have hod := hos.rd.ext hxd
              have hxwd := hxs.tr hxd
              generalize ws.drew = wr at *
              have e0 := cell_blk k0d 0
              have e1 := cell_blk k0d 1
              simp at e0 e1
              go_wp2_with fail
              refine (parse_err 20 s d _ _ _ hod HBT.out hs hd (by omega) HE20.out).mono ?_
              rintro e w10 ⟨sp10, dp10, u10, l10, rfl, hu10, hx10⟩
              obtain ⟨a10, n10, c10, rfl⟩ := hu10.rd.shape
              go_wp2_with fail
              refine (awake7_any _).mono ?_
              rintro e w11 ⟨rfl, hx11⟩
              go_wp2
              go_ret
              exact ⟨rfl, hxwd.tr (hx10.tr ((Ext.new _ _).tr hx11))⟩
          · have q4 : ((p : Int) == 6) = true := by
              rcases h : ((p : Int) == 6) with _ | _
              · exact absurd (.inl h) hmain
              · rfl
            have q5 : (new == 0) = true := by
              rcases h : (new == 0) with _ | _
              · exact absurd (.inr ⟨q4, h⟩) hmain
              · rfl
            clear hmain
            obtain rfl : p = 6 := by have := beq_iff_eq.1 q4; omega
            obtain rfl : new = 0 := beq_iff_eq.1 q5
            clear q3 q4 q5
            go_wp2_with fail
            refine (awake7_any _).mono ?_
            rintro e w10 ⟨rfl, hx10⟩
            go_wp2
            go_ret
            exact ⟨rfl, HXF.out.tr hx10⟩
        · obtain rfl : p = 4 := by have := beq_iff_eq.1 q3; omega
          clear q3
          go_wp2_with fail
          refine (awake7_any _).mono ?_
          rintro e w10 ⟨rfl, hx10⟩
          go_wp2
          go_ret
          exact ⟨rfl, HXF.out.tr hx10⟩
      · obtain rfl : new = 65535 - (X * 256 + Y) := beq_iff_eq.1 q2
        clear q2
        go_wp2_with fail
        refine (awake7_any _).mono ?_
        rintro e w10 ⟨rfl, hx10⟩
        go_wp2
        go_ret
        exact ⟨rfl, HXF.out.tr hx10⟩
    · obtain rfl : by_ = 0 := beq_iff_eq.1 q1
      clear q1
      go_wp2_with fail
      refine (awake7_any _).mono ?_
      rintro e w10 ⟨rfl, hx10⟩
      go_wp2
      go_ret
      exact ⟨rfl, HXF.out.tr hx10⟩
end Go.Proofs.Ythhkdjoonnofdaa.udpBack
