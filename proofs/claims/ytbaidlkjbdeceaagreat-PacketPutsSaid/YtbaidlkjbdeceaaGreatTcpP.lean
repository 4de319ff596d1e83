/-
  Proved here: what tcp.Parse computes. Conditions: numbers within their kinds, at most 2^47 - 4096 bytes.
-/
import Derived.Test.YtbaidlkjbdeceaaGreatOptsR
import Derived.Test.YtbaidlkjbdeceaaGreatTcpS
import Derived.Test.YtbaidlkjbdeceaaGreatUdpP
import Derived.Test.YtbaidlkjbdeceaaGreatRegion
import Derived.Deep.Cut
import Derived.Laws.EntriesVeiled
namespace Go.Proofs.YtbaidlkjbdeceaaGreat
set_option maxRecDepth 200000
open Go.ChangeShapes Go.WideShapes Go.ChangeAt Go.RowKit Go.Cul Go.Loose
set_option linter.unusedVariables false
attribute [local go_sem] Loose.Still Loose.Upon Loose.vUpon First.pUpon

theorem tfail_no (r : Value) (e : Int) (w : World) : Calls Tryz.prog 63 #[r, .bool false, .int .i64 e] w fun x w' => x = .returned (.tuple #[]) ∧ w' = w := by
  go_enter Tryz.func63, Tryz.ntmps63
  go_wp2_with fail
  exact ⟨rfl, _, by simp [results, Tryz.results63], rfl, rfl⟩
theorem tfail_yes (B : Nat) (bv : Value) (l : List Int) (k : Nat) (e : Int) (he : e ≠ 0) (w : World) (h : Rdr w B bv l k) : Calls Tryz.prog 63 #[rp B, .bool true, .int .i64 e] w fun x w' => x = .panicked [{ v := gone B e, recovered := false }] ∧ Ext w w' := by
  go_enter Tryz.func63, Tryz.ntmps63
  go_wp2_with fail
  refine (fail_open B _ l k e he _ h).mono ?_
  rintro x w1 ⟨rfl, hx⟩
  exact ⟨rfl, rfl, hx⟩

/-- Where the data begin. -/
def toff (l : List Int) : Nat := (l.getD 12 0 / 16).toNat * 4
def topt (l : List Int) : List Int := (l.drop 20).take (toff l - 20)
/-- With which error bytes are no segment. -/
def terr (s d : Int) (l : List Int) : Int :=
  if 1480 < l.length then 3 else if l.length < 20 then 4 else if toff l < 20 then 5 else if l.length < toff l then 4 else if csum (pseu s d 6 l.length ++ l) ≠ 65535 then 20 else if (opar (topt l)).2 ≠ 0 then 5 else 0
def tseg (l : List Int) : Sg := ⟨be16 l 0, be16 l 2, be32 l 4, be32 l 8, l.getD 13 0, be16 l 14, be16 l 18, (opar (topt l)).1, l.drop (toff l)⟩

theorem FrO.low {w : World} {base base' : Nat} {v : Value} {os : List Op1} (h : FrO w base v os) (hb : base' ≤ base) : FrO w base' v os := by
  obtain ⟨xs, q1, q2, q3⟩ := h
  refine ⟨xs, q1, ⟨q2.1, ?_⟩, fun x hx => (q3 x hx).low hb⟩
  rcases q2.2 with h0 | ⟨g, cap, cur, h1, hb', r⟩
  · exact .inl h0
  · exact .inr ⟨g, cap, cur, h1, by omega, r⟩
/-- What Parse's closure leaves: the segment's block, if it ends well. -/
def TpQ (Bd : Nat) (s d : Int) (l : List Int) (w1 : World) (e : Int) (w2 : World) : Prop :=
  e = terr s d l ∧ (e = 0 → ∃ vo vd, w2.heap[Bd]? = some (.cells ((tseg l).cells vo vd) 29) ∧ FrO w2 w1.heap.size vo (tseg l).os ∧ Fr w2 w1.heap.size 5 .u8 vd (tseg l).data)

set_option maxHeartbeats 4000000 in
theorem tparse1_any (s d : Int) (l : List Int) (hb : Byt l) (hn : l.length ≤ 1480) (hs : 0 ≤ s ∧ s ≤ 4294967295) (hd : 0 ≤ d ∧ d ≤ 4294967295) (bv bu : Value) (w0 w1 : World) (B Bd Bb Bs Bt Bf : Nat)
    (hv : Rd .u8 w0 bv l) (hx : Ext w0 w1) (hR : Rdr w1 B bu l 0) {base : Nat} (ha : Away bu l base) (hBd : Bd < base) (kd : w1.heap[Bd]? = some (.cells (Sg.none.cells (.slice none 0 0) (.slice none 0 0)) 29)) (kb : w1.heap[Bb]? = some (.cells #[bv] 24))
    (ks : w1.heap[Bs]? = some (.cells #[.int .u32 s] 23)) (kt : w1.heap[Bt]? = some (.cells #[.int .u32 d] 23)) (kf : w1.heap[Bf]? = some (.cells #[.func (.func 63) #[] #[]] 99))
    (n1 : B ≠ Bb ∧ B ≠ Bs ∧ B ≠ Bt ∧ B ≠ Bf) (n2 : B ≠ Bd) (n3 : Bd ≠ Bb ∧ Bd ≠ Bs ∧ Bd ≠ Bt ∧ Bd ≠ Bf) (hw0 : w0.heap.size ≤ B ∧ w0.heap.size ≤ Bd) :
    Calls Tryz.prog 66 #[rp B, .pointer (some ⟨Bf, 0, none⟩), .pointer (some ⟨Bb, 0, none⟩), .pointer (some ⟨Bd, 0, none⟩), .pointer (some ⟨Bs, 0, none⟩), .pointer (some ⟨Bt, 0, none⟩)] w1 fun x w2 =>
      Mvs (fun k => k = B ∨ k = Bd) w1 w2 ∧ (∃ bv k, Rdr w2 B bv l k) ∧ ((x = .returned (.tuple #[]) ∧ TpQ Bd s d l w1 0 w2) ∨ ∃ e, x = .panicked [{ v := gone B e, recovered := false }] ∧ TpQ Bd s d l w1 e w2) := by
  have HB := Lib.hid hb
  have HA := Lib.hid ha
  have hBs := lt_of_block hR.blk
  have hBds := lt_of_block kd
  have m1 := Mvs.refl (fun k => k = B ∨ k = Bd) w1
  obtain ⟨av, cv, rfl, -, -, -⟩ := id hv
  clear hb ha
  simp only [Sg.cells, Sg.none] at kd
  have cf := cell_blk kf 0
  simp at cf
  have cb := cell_blk kb 0
  simp at cb
  by_cases h20 : l.length < 20
  · have hE : Hid (terr s d l = 4) := by unfold Hid terr; rw [if_neg (by omega), if_pos h20]
    have h20' : (l.length : Int) < 20 := by omega
    go_enter Tryz.func66, Tryz.ntmps66
    go_wp2_with fail
    refine (tfail_yes B _ l 0 4 (by decide) _ hR).mono ?_
    rintro e w2 ⟨rfl, hx2⟩
    exact ⟨rfl, m1.tr (Mvs.ofExt hx2), ⟨_, _, hR.ext hx2⟩, .inr ⟨4, rfl, hE.out.symm, fun h => absurd h (by decide)⟩⟩
  have h20' : ¬ (l.length : Int) < 20 := by omega
  go_enter Tryz.func66, Tryz.ntmps66
  go_wp2_with fail
  refine (tfail_no _ _ _).mono ?_
  rintro e w2 ⟨rfl, rfl⟩
  go_wp2_with fail
  refine (u16_ok B _ l 0 HB.out (by omega) _ hR).mono ?_
  rintro e w3 ⟨rfl, hR, hmv⟩
  have m1 := m1.tr (Mvs.ofMv hmv (.inl rfl))
  have kd := (Mvs.ofMv (S := fun k => k = B) hmv rfl).keep kd (by omega)
  clear hmv
  rw [show l.getD 0 0 * 256 + l.getD (0 + 1) 0 = be16 l 0 from rfl, Nat.zero_add] at *
  go_wp2_with fail
  refine (u16_ok B _ l 2 HB.out (by omega) _ hR).mono ?_
  rintro e w4 ⟨rfl, hR, hmv⟩
  have m1 := m1.tr (Mvs.ofMv hmv (.inl rfl))
  have kd := (Mvs.ofMv (S := fun k => k = B) hmv rfl).keep kd (by omega)
  clear hmv
  rw [show l.getD 2 0 * 256 + l.getD (2 + 1) 0 = be16 l 2 from rfl] at *
  have c0 := cell_blk kd 0
  have c1 := cell_blk kd 1
  simp at c0 c1
  have fd := fz_blk kd
  go_upto_region 2 with (fail)
  have hms : Mvs (fun k => k = Bd) w4 ((w4.setCell ⟨Bd, 0, none⟩ (.int .u16 (be16 l 0))).setCell ⟨Bd, 1, none⟩ (.int .u16 (be16 l 2))) := Mvs.tr (Mvs.set _ _ _ rfl) (Mvs.set _ _ _ rfl)
  have kd := (set_blk (set_blk kd 0 (.int .u16 (be16 l 0))) 1 (.int .u16 (be16 l 2)))
  simp at kd
  have hR := hR.mvs hms n2 HA.out (fun k hk => by subst hk; exact hBd)
  have m1 := m1.tr (hms.mono (fun k _ hk => .inr hk))
  clear hms fd c0 c1
  generalize ((w4.setCell ⟨Bd, 0, none⟩ (.int .u16 (be16 l 0))).setCell ⟨Bd, 1, none⟩ (.int .u16 (be16 l 2))) = w5 at *
  go_wp2_with fail
  refine (u32_ok B _ l 4 HB.out (by omega) _ hR).mono ?_
  rintro e w6 ⟨rfl, hR, hmv⟩
  have m1 := m1.tr (Mvs.ofMv hmv (.inl rfl))
  have kd := (Mvs.ofMv (S := fun k => k = B) hmv rfl).keep kd (by omega)
  clear hmv
  go_wp2_with fail
  refine (u32_ok B _ l 8 HB.out (by omega) _ hR).mono ?_
  rintro e w7 ⟨rfl, hR, hmv⟩
  have m1 := m1.tr (Mvs.ofMv hmv (.inl rfl))
  have kd := (Mvs.ofMv (S := fun k => k = B) hmv rfl).keep kd (by omega)
  clear hmv
  have c2 := cell_blk kd 2
  have c3 := cell_blk kd 3
  simp at c2 c3
  have fd := fz_blk kd
  go_upto_region 3 with (fail)
  have hms : Mvs (fun k => k = Bd) w7 ((w7.setCell ⟨Bd, 2, none⟩ (.int .u32 (be32 l 4))).setCell ⟨Bd, 3, none⟩ (.int .u32 (be32 l 8))) := Mvs.tr (Mvs.set _ _ _ rfl) (Mvs.set _ _ _ rfl)
  have kd := (set_blk (set_blk kd 2 (.int .u32 (be32 l 4))) 3 (.int .u32 (be32 l 8)))
  simp at kd
  have hR := hR.mvs hms n2 HA.out (fun k hk => by subst hk; exact hBd)
  have m1 := m1.tr (hms.mono (fun k _ hk => .inr hk))
  clear hms fd c2 c3
  generalize ((w7.setCell ⟨Bd, 2, none⟩ (.int .u32 (be32 l 4))).setCell ⟨Bd, 3, none⟩ (.int .u32 (be32 l 8))) = w8 at *
  go_wp2_with fail
  refine (u8_ok B _ l 12 (by omega) _ hR).mono ?_
  rintro e w9 ⟨rfl, hR, hmv⟩
  have m1 := m1.tr (Mvs.ofMv hmv (.inl rfl))
  have kd := (Mvs.ofMv (S := fun k => k = B) hmv rfl).keep kd (by omega)
  clear hmv
  have hb12 := HB.out.at 12
  have hto : Hid (toff l = (l.getD 12 0 / 16).toNat * 4) := rfl
  generalize l.getD 12 0 = x12 at *
  obtain ⟨N, hN⟩ : ∃ N : Nat, x12 / 16 * 4 = (N : Int) := ⟨(x12 / 16).toNat * 4, by omega⟩
  have hto : Hid (toff l = N) := by unfold Hid; rw [hto.out]; omega
  have hN60 : N ≤ 60 := by omega
  have hcs0 : 0 ≤ csum (pseu s d 6 l.length ++ l) ∧ csum (pseu s d 6 l.length ++ l) ≤ 65535 := csum_bd ((pseu_byt _ hs hd (by omega)).app HB.out)
  have HC0 := Lib.hid hcs0
  clear hcs0
  have kfn := m1.keep kf (by omega)
  have kbn := m1.keep kb (by omega)
  have ksn := m1.keep ks (by omega)
  have ktn := m1.keep kt (by omega)
  clear cf cb
  have cf := cell_blk kfn 0
  simp at cf
  have cb := cell_blk kbn 0
  simp at cb
  have cs := cell_blk ksn 0
  simp at cs
  have ct := cell_blk ktn 0
  simp at ct
  have HN := Lib.hid hN
  clear hN
  go_upto_region 4 with (fail)
  rw [HN.out]
  clear HN hb12
  by_cases hc : N < 20
  · have hE : Hid (terr s d l = 5) := by unfold Hid terr; rw [if_neg (by omega), if_neg h20, if_pos (by rw [hto.out]; exact hc)]
    have hci : (N : Int) < 20 := by omega
    clear hc
    go_wp2_with fail
    refine (tfail_yes B _ l 13 5 (by decide) _ hR).mono ?_
    rintro e wz ⟨rfl, hxz⟩
    exact ⟨rfl, m1.tr (Mvs.ofExt hxz), ⟨_, _, hR.ext hxz⟩, .inr ⟨5, rfl, hE.out.symm, fun h => absurd h (by decide)⟩⟩
  have hci : ¬ (N : Int) < 20 := by omega
  go_wp2_with fail
  refine (tfail_no _ _ _).mono ?_
  rintro e w9 ⟨rfl, rfl⟩
  have hN20 : 20 ≤ N := by omega
  clear hc hci
  by_cases hc : l.length < N
  · have hE : Hid (terr s d l = 4) := by unfold Hid terr; rw [if_neg (by omega), if_neg h20, if_neg (by rw [hto.out]; omega), if_pos (by rw [hto.out]; exact hc)]
    have hci : (l.length : Int) < (N : Int) := by omega
    clear hc
    go_wp2_with fail
    refine (tfail_yes B _ l 13 4 (by decide) _ hR).mono ?_
    rintro e wz ⟨rfl, hxz⟩
    exact ⟨rfl, m1.tr (Mvs.ofExt hxz), ⟨_, _, hR.ext hxz⟩, .inr ⟨4, rfl, hE.out.symm, fun h => absurd h (by decide)⟩⟩
  have hci : ¬ (l.length : Int) < (N : Int) := by omega
  go_wp2_with fail
  refine (tfail_no _ _ _).mono ?_
  rintro e w9 ⟨rfl, rfl⟩
  have hNl : N ≤ l.length := by omega
  clear hc hci
  have hv9 : Rd .u8 w9 (.slice av l.length cv) l := hv.ext (m1.ext hx (fun k hk => by omega))
  rcases hsum : (csum (pseu s d 6 l.length ++ l) == 65535) with _ | _
  · have hE : Hid (terr s d l = 20) := by
      unfold Hid terr
      rw [if_neg (by omega), if_neg h20, if_neg (by rw [hto.out]; omega), if_neg (by rw [hto.out]; omega), if_pos (by simpa using hsum)]
    have HS := Lib.hid hsum
    clear hsum
    go_upto_region 6 with (fail)
    refine Order.wp_region_order [0, 1, 2, 3, 4, 5, 7] [6, 8, 9, 10, 11] 12 (fun w' => Ext w9 w') (fun c w' => c = [{ v := gone B 20, recovered := false }] ∧ Ext w9 w') ?_ (fun _ h => h) (by kernel_rfl) (by kernel_rfl) (by kernel_rfl) rfl (by kernel_rfl) ?_
    · rintro c a w' hda ⟨rfl, hx2⟩; exact ⟨hda, m1.tr (Mvs.ofExt hx2), ⟨_, _, hR.ext hx2⟩, .inr ⟨20, rfl, hE.out.symm, fun h => absurd h (by decide)⟩⟩
    intro wd hwd
    apply Order.wpH_some rfl rfl
    · intro w' hw'; have cf := Ext.cell hw' cf; go_simp; exact rfl
    intro K hK; go_simp; refine hK _ ?_; clear hK K
    apply Order.wpH_some rfl rfl
    · intro w' hw'; go_simp; exact rfl
    intro K hK; go_simp; refine hK _ ?_; clear hK K
    apply Order.wpH_some rfl rfl
    · intro w' hw'; have cs := Ext.cell hw' cs; go_simp; exact rfl
    intro K hK; go_simp; refine hK _ ?_; clear hK K
    apply Order.wpH_some rfl rfl
    · intro w' hw'; have ct := Ext.cell hw' ct; go_simp; exact rfl
    intro K hK; go_simp; refine hK _ ?_; clear hK K
    apply Order.wpH_some rfl rfl
    · intro w' hw'; have cb := Ext.cell hw' cb; go_simp; exact rfl
    intro K hK; go_simp; refine hK _ ?_; clear hK K
    apply Order.wpH_some rfl rfl
    · intro w' hw'; go_simp; exact rfl
    intro K hK; go_simp; refine hK _ ?_; clear hK K
    apply Order.wpH_some rfl rfl
    · intro w' hw'; have cb := Ext.cell hw' cb; go_simp; exact rfl
    intro K hK; go_simp; refine hK _ ?_; clear hK K
    refine Order.wpH_nil ?_
    apply Order.wpI_step rfl rfl
    intro K hK
    go_simp
    refine (pseudo_any s d 6 _ _ hs hd (by omega)).mono ?_
    rintro e wa ⟨u, rfl, ho, hxa⟩
    obtain ⟨ua, un, uc, rfl⟩ := ho.rd.shape
    refine .inl ⟨_, rfl, hK _ _ (fun _ => Ext.tr hwd hxa) ?_⟩
    clear hK K
    apply Order.wpI_step rfl rfl
    intro K hK
    go_simp
    refine hK _ _ (fun _ => (Ext.tr hwd hxa).al _) ?_
    clear hK K
    apply Order.wpI_step rfl rfl
    intro K hK
    go_simp
    refine (right_any _ _ _ (rds_two ho.rd (hv9.ext (Ext.tr hwd hxa)) rfl) ?_ ?_).mono ?_
    · intro x hx
      simp only [List.mem_cons, List.not_mem_nil, or_false] at hx
      rcases hx with rfl | rfl
      · exact pseu_byt _ hs hd (by omega)
      · exact HB.out
    · have := pseu_len s d 6 l.length
      simp only [List.flatten_cons, List.flatten_nil, List.append_nil, List.length_append]
      omega
    rw [show [pseu s d 6 (l.length : Int), l].flatten = pseu s d 6 l.length ++ l from by simp, HS.out]
    rintro e wb ⟨rfl, hxb⟩
    refine .inl ⟨_, rfl, hK _ _ (fun _ => ((Ext.tr hwd hxa).al _).tr hxb) ?_⟩
    clear hK K
    apply Order.wpI_step rfl rfl
    intro K hK
    go_simp
    refine hK _ _ (fun _ => ((Ext.tr hwd hxa).al _).tr hxb) ?_
    clear hK K
    apply Order.wpI_step rfl rfl
    intro K hK
    go_simp
    refine (tfail_yes B _ l 13 20 (by decide) _ (hR.ext (((Ext.tr hwd hxa).al _).tr hxb))).mono ?_
    rintro e wz ⟨rfl, hxz⟩
    exact .inr ⟨_, rfl, rfl, (((Ext.tr hwd hxa).al _).tr hxb).tr hxz⟩
  have HS := Lib.hid hsum
  clear hsum
  go_upto_region 6 with (fail)
  refine Order.wp_region_order [0, 1, 2, 3, 4, 5, 7] [6, 8, 9, 10, 11] 12 (fun w' => Ext w9 w') (fun _ _ => False) ?_ (fun _ h => h) (by kernel_rfl) (by kernel_rfl) (by kernel_rfl) rfl (by kernel_rfl) ?_
  · exact fun _ _ _ _ h => h.elim
  intro wd hwd
  apply Order.wpH_some rfl rfl
  · intro w' hw'; have cf := Ext.cell hw' cf; go_simp; exact rfl
  intro K hK; go_simp; refine hK _ ?_; clear hK K
  apply Order.wpH_some rfl rfl
  · intro w' hw'; go_simp; exact rfl
  intro K hK; go_simp; refine hK _ ?_; clear hK K
  apply Order.wpH_some rfl rfl
  · intro w' hw'; have cs := Ext.cell hw' cs; go_simp; exact rfl
  intro K hK; go_simp; refine hK _ ?_; clear hK K
  apply Order.wpH_some rfl rfl
  · intro w' hw'; have ct := Ext.cell hw' ct; go_simp; exact rfl
  intro K hK; go_simp; refine hK _ ?_; clear hK K
  apply Order.wpH_some rfl rfl
  · intro w' hw'; have cb := Ext.cell hw' cb; go_simp; exact rfl
  intro K hK; go_simp; refine hK _ ?_; clear hK K
  apply Order.wpH_some rfl rfl
  · intro w' hw'; go_simp; exact rfl
  intro K hK; go_simp; refine hK _ ?_; clear hK K
  apply Order.wpH_some rfl rfl
  · intro w' hw'; have cb := Ext.cell hw' cb; go_simp; exact rfl
  intro K hK; go_simp; refine hK _ ?_; clear hK K
  refine Order.wpH_nil ?_
  apply Order.wpI_step rfl rfl
  intro K hK
  go_simp
  refine (pseudo_any s d 6 _ _ hs hd (by omega)).mono ?_
  rintro e wa ⟨u, rfl, ho, hxa⟩
  obtain ⟨ua, un, uc, rfl⟩ := ho.rd.shape
  refine ⟨_, rfl, hK _ _ (fun _ => Ext.tr hwd hxa) ?_⟩
  clear hK K
  apply Order.wpI_step rfl rfl
  intro K hK
  go_simp
  refine hK _ _ (fun _ => (Ext.tr hwd hxa).al _) ?_
  clear hK K
  apply Order.wpI_step rfl rfl
  intro K hK
  go_simp
  refine (right_any _ _ _ (rds_two ho.rd (hv9.ext (Ext.tr hwd hxa)) rfl) ?_ ?_).mono ?_
  · intro x hx
    simp only [List.mem_cons, List.not_mem_nil, or_false] at hx
    rcases hx with rfl | rfl
    · exact pseu_byt _ hs hd (by omega)
    · exact HB.out
  · have := pseu_len s d 6 l.length
    simp only [List.flatten_cons, List.flatten_nil, List.append_nil, List.length_append]
    omega
  rw [show [pseu s d 6 (l.length : Int), l].flatten = pseu s d 6 l.length ++ l from by simp, HS.out]
  rintro e wb ⟨rfl, hxb⟩
  refine ⟨_, rfl, hK _ _ (fun _ => ((Ext.tr hwd hxa).al _).tr hxb) ?_⟩
  clear hK K
  apply Order.wpI_step rfl rfl
  intro K hK
  go_simp
  refine hK _ _ (fun _ => ((Ext.tr hwd hxa).al _).tr hxb) ?_
  clear hK K
  apply Order.wpI_step rfl rfl
  intro K hK
  go_simp
  refine (tfail_no _ _ _).mono ?_
  rintro e wz ⟨rfl, hwz⟩
  have hx9 : Ext w9 wz := by rw [hwz]; exact ((Ext.tr hwd hxa).al _).tr hxb
  refine ⟨_, rfl, hK _ _ (fun _ => hx9) ?_⟩
  clear hK K hwz hxb hxa hwd ho
  refine Order.wpI_nil ?_
  have hR := hR.ext hx9
  have kd := hx9.block kd
  have m1 := m1.tr (Mvs.ofExt hx9)
  have hs9 := hx9.size
  have kfn := hx9.block kfn
  clear hx9 cf cb cs ct HC0 hv9 kbn ksn ktn
  have cf := cell_blk kfn 0
  simp at cf
  go_wp2_with fail
  refine (u8_ok B _ l 13 (by omega) _ hR).mono ?_
  rintro e wa ⟨rfl, hR, hmv⟩
  have m1 := m1.tr (Mvs.ofMv hmv (.inl rfl))
  have kd := (Mvs.ofMv (S := fun k => k = B) hmv rfl).keep kd (by omega)
  clear hmv
  generalize hx13 : l.getD 13 0 = x13 at *
  have HX13 := Lib.hid hx13
  clear hx13
  go_wp2_with fail
  refine (u16_ok B _ l 14 HB.out (by omega) _ hR).mono ?_
  rintro e wb ⟨rfl, hR, hmv⟩
  have m1 := m1.tr (Mvs.ofMv hmv (.inl rfl))
  have kd := (Mvs.ofMv (S := fun k => k = B) hmv rfl).keep kd (by omega)
  clear hmv
  rw [show l.getD 14 0 * 256 + l.getD (14 + 1) 0 = be16 l 14 from rfl] at *
  have c4 := cell_blk kd 4
  have c5 := cell_blk kd 5
  simp at c4 c5
  have fd := fz_blk kd
  go_upto_region 8 with (fail)
  have hms : Mvs (fun k => k = Bd) wb ((wb.setCell ⟨Bd, 4, none⟩ (.int .u8 x13)).setCell ⟨Bd, 5, none⟩ (.int .u16 (be16 l 14))) := Mvs.tr (Mvs.set _ _ _ rfl) (Mvs.set _ _ _ rfl)
  have kd := (set_blk (set_blk kd 4 (.int .u8 x13)) 5 (.int .u16 (be16 l 14)))
  simp at kd
  have hR := hR.mvs hms n2 HA.out (fun k hk => by subst hk; exact hBd)
  have m1 := m1.tr (hms.mono (fun k _ hk => .inr hk))
  clear hms fd c4 c5
  generalize ((wb.setCell ⟨Bd, 4, none⟩ (.int .u8 x13)).setCell ⟨Bd, 5, none⟩ (.int .u16 (be16 l 14))) = wc at *
  go_wp2_with fail
  refine (u16_ok B _ l 16 HB.out (by omega) _ hR).mono ?_
  rintro e wd ⟨rfl, hR, hmv⟩
  have m1 := m1.tr (Mvs.ofMv hmv (.inl rfl))
  have kd := (Mvs.ofMv (S := fun k => k = B) hmv rfl).keep kd (by omega)
  clear hmv
  go_wp2_with fail
  refine (u16_ok B _ l 18 HB.out (by omega) _ hR).mono ?_
  rintro e we ⟨rfl, hR, hmv⟩
  have m1 := m1.tr (Mvs.ofMv hmv (.inl rfl))
  have kd := (Mvs.ofMv (S := fun k => k = B) hmv rfl).keep kd (by omega)
  clear hmv
  rw [show l.getD 18 0 * 256 + l.getD (18 + 1) 0 = be16 l 18 from rfl] at *
  have c6 := cell_blk kd 6
  simp at c6
  have fd := fz_blk kd
  go_upto_region 10 with (fail)
  have hms : Mvs (fun k => k = Bd) we (we.setCell ⟨Bd, 6, none⟩ (.int .u16 (be16 l 18))) := Mvs.set _ _ _ rfl
  have kd := (set_blk kd 6 (.int .u16 (be16 l 18)))
  simp at kd
  have hR := hR.mvs hms n2 HA.out (fun k hk => by subst hk; exact hBd)
  have m1 := m1.tr (hms.mono (fun k _ hk => .inr hk))
  clear hms fd c6
  generalize (we.setCell ⟨Bd, 6, none⟩ (.int .u16 (be16 l 18))) = wf at *
  have hw20 : IntKind.i64.wrap ((N : Int) - 20) = ((N - 20 : Nat) : Int) := by rw [IntWalk.i64_in _ (by omega)]; omega
  go_wp2_with fail
  refine (bytes_ok B _ l 20 (N - 20) (by omega) _ hR).mono ?_
  rintro e wg ⟨u, rfl, hu, hR, hmv⟩
  have hus := Nat.le_trans m1.size (Nat.le_refl _)
  have hu := hu.low m1.size
  have m1 := m1.tr (Mvs.ofMv hmv (.inl rfl))
  have kd := (Mvs.ofMv (S := fun k => k = B) hmv rfl).keep kd (by omega)
  have htp : Hid ((l.drop 20).take (N - 20) = topt l) := by unfold Hid topt; rw [hto.out]
  have htl : (topt l).length ≤ 40 := by unfold topt; rw [hto.out]; simp; omega
  have hur := hu.rd
  rw [htp.out] at hur
  have htb : Byt (topt l) := (HB.out.drop 20).take _
  have hop := oparse_any u (topt l) wg hur htb (by omega)
  obtain ⟨ua, un, uc, rfl⟩ := hur.shape
  have HOP := Lib.hid hop
  clear hmv hop hur htb hu hw20 htp hus
  go_wp2_with fail
  refine HOP.out.mono ?_
  rintro e wh ⟨vo, rfl, hfo, hx⟩
  have hR := hR.ext hx
  have kd := hx.block kd
  have kfn := m1.keep kf (by omega)
  have kfn := hx.block kfn
  have hsg := m1.size
  have m1 := m1.tr (Mvs.ofExt hx)
  clear hx cf HOP
  have cf := cell_blk kfn 0
  simp at cf
  obtain ⟨voa, voc, hve⟩ := hfo.rdo.shape
  generalize hOE : opar (topt l) = OE at *
  obtain ⟨O, E⟩ := OE
  dsimp only at hfo hve ⊢
  subst hve
  have HO := Lib.hid hOE
  clear hOE
  have hE0 : Hid (terr s d l = if E ≠ 0 then 5 else 0) := by
      unfold Hid terr
      rw [if_neg (by omega), if_neg h20, if_neg (by rw [hto.out]; omega), if_neg (by rw [hto.out]; omega), if_neg (by have := HS.out; simpa using this), HO.out]
  by_cases hE : E = 0
  · subst hE
    rw [if_neg (by simp)] at hE0
    go_wp2_with fail
    refine (tfail_no _ _ _).mono ?_
    rintro e wi ⟨rfl, rfl⟩
    go_wp2_with fail
    refine (rest_ok B _ l (20 + (N - 20)) _ hR).mono ?_
    rw [show 20 + (N - 20) = N from by omega]
    rintro e wj ⟨u, rfl, hu, hR, hmv⟩
    have hu := hu.low m1.size
    have hkw := (Mvs.ofMv (S := fun k => k = B) hmv rfl)
    have m1 := m1.tr (Mvs.ofMv hmv (.inl rfl))
    have kd := hkw.keep kd (by omega)
    have hfo := hfo.low hsg
    have hfo := hfo.keep (Keep.ofMvs hkw (base := w2.heap.size) (fun k hk => by omega))
    clear hmv hkw
    obtain ⟨ua, un, uc, rfl⟩ := hu.rd.shape
    have c7 := cell_blk kd 7
    have c8 := cell_blk kd 8
    simp at c7 c8
    have fd := fz_blk kd
    have hms : Mvs (fun k => k = Bd) wj ((wj.setCell ⟨Bd, 7, none⟩ (.slice voa O.length voc)).setCell ⟨Bd, 8, none⟩ (.slice ua un uc)) := Mvs.tr (Mvs.set _ _ _ rfl) (Mvs.set _ _ _ rfl)
    have kd9 := (set_blk (set_blk kd 7 (.slice voa O.length voc)) 8 (.slice ua un uc))
    simp at kd9
    have hR := hR.mvs hms n2 HA.out (fun k hk => by subst hk; exact hBd)
    have m1 := m1.tr (hms.mono (fun k _ hk => .inr hk))
    have hkp := Keep.ofMvs hms (base := w2.heap.size) (fun k hk => by subst hk; exact hBds)
    have hfo := hfo.keep hkp
    have hu := Fr.keep hu hkp
    clear hkp hms kd cf
    go_wp2
    exact ⟨rfl, _, by simp [results, Tryz.results66], m1, ⟨_, _, hR⟩, .inl ⟨rfl, hE0.out.symm, fun _ => ⟨_, _, by unfold tseg; rw [HO.out, HX13.out]; exact kd9, by unfold tseg; rw [HO.out]; exact hfo, by unfold tseg; rw [hto.out]; exact hu⟩⟩⟩
  · have hEi : (E != 0) = true := by simpa using hE
    rw [if_pos hE] at hE0
    go_wp2_with fail
    refine (tfail_yes B _ l _ 5 (by decide) _ hR).mono ?_
    rintro e wz ⟨rfl, hxz⟩
    exact ⟨rfl, m1.tr (Mvs.ofExt hxz), ⟨_, _, hR.ext hxz⟩, .inr ⟨5, rfl, hE0.out.symm, fun h => absurd h (by decide)⟩⟩
end Go.Proofs.YtbaidlkjbdeceaaGreat
