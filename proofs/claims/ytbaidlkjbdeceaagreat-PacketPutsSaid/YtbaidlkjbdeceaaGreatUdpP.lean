/-
  Proved here: what udp.Parse computes. Conditions: numbers within their kinds, at most 2^47 - 4096 bytes.
-/
import Derived.Test.YtbaidlkjbdeceaaGreatLibs
import Derived.Test.YtbaidlkjbdeceaaGreatUdp
import Derived.Test.YtbaidlkjbdeceaaGreatRegion
namespace Go.Proofs.YtbaidlkjbdeceaaGreat
set_option maxRecDepth 200000
open Go.ChangeShapes Go.WideShapes Go.ChangeAt Go.RowKit Go.Cul Go.Loose
set_option linter.unusedVariables false
attribute [local go_sem] Loose.Still Loose.Upon

/-- The number of two bytes at a place. -/
def be16 (l : List Int) (k : Nat) : Int := l.getD k 0 * 256 + l.getD (k + 1) 0
theorem be16_bd {l : List Int} (h : Byt l) (k : Nat) : 0 ≤ be16 l k ∧ be16 l k ≤ 65535 := by
  have h1 := h.at k; have h2 := h.at (k + 1); unfold be16; omega

/-- With which error bytes are no datagram. -/
def uerr (s d : Int) (l : List Int) : Int :=
  if 1480 < l.length then 3 else if l.length < 8 then 4 else if be16 l 4 ≠ l.length then 5 else if be16 l 6 ≠ 0 ∧ csum (pseu s d 17 l.length ++ l) ≠ 65535 then 20 else 0

/-- What Parse's closure leaves: the datagram's block, if it ends well. -/
def UpQ (Bd : Nat) (s d : Int) (l : List Int) (w1 : World) (e : Int) (w2 : World) : Prop :=
  e = uerr s d l ∧ (e = 0 → ∃ u, w2.heap[Bd]? = some (.cells #[.int .u16 (be16 l 0), .int .u16 (be16 l 2), u] 31) ∧ Fr w2 w1.heap.size 5 .u8 u (l.drop 8))

theorem fr_set {w : World} {base : Nat} {e : TypeId} {k : IntKind} {v : Value} {l : List Int} (h : Fr w base e k v l) {a : Addr} (ha : a.block < base) {u : Value} : Fr (w.setCell a u) base e k v l := by
  rcases h with h | h
  · refine .inl (h.other (fun he => ?_) u)
    have := (h.block _ he).1
    omega
  · exact .inr h

theorem parse1_any (s d : Int) (l : List Int) (hb : Byt l) (hn : l.length ≤ 1480) (hs : 0 ≤ s ∧ s ≤ 4294967295) (hd : 0 ≤ d ∧ d ≤ 4294967295) (bv bu z0 z1 z2 : Value) (w0 w1 : World) (B Bd Bb Bs Bt : Nat)
    (hv : Rd .u8 w0 bv l) (hx : Ext w0 w1) (hR : Rdr w1 B bu l 0) {base : Nat} (ha : Away bu l base) (hBd : Bd < base) (kd : w1.heap[Bd]? = some (.cells #[z0, z1, z2] 31)) (kb : w1.heap[Bb]? = some (.cells #[bv] 24))
    (ks : w1.heap[Bs]? = some (.cells #[.int .u32 s] 23)) (kt : w1.heap[Bt]? = some (.cells #[.int .u32 d] 23))
    (n0 : w0.heap.size ≤ Bd) (n1 : w0.heap.size ≤ B) (n2 : B ≠ Bd) (n3 : Bb ≠ Bd) (n4 : Bs ≠ Bd) (n5 : Bt ≠ Bd) (n6 : Bb ≠ B) (n7 : Bs ≠ B) (n8 : Bt ≠ B) :
    Calls Tryz.prog 76 #[rp B, .pointer (some ⟨Bd, 0, none⟩), .pointer (some ⟨Bb, 0, none⟩), .pointer (some ⟨Bs, 0, none⟩), .pointer (some ⟨Bt, 0, none⟩)] w1 fun x w2 =>
      Mvs (fun k => k = B ∨ k = Bd) w1 w2 ∧ (∃ bv k, Rdr w2 B bv l k) ∧ ((x = .returned (.tuple #[]) ∧ UpQ Bd s d l w1 0 w2) ∨ ∃ e, x = .panicked [{ v := gone B e, recovered := false }] ∧ UpQ Bd s d l w1 e w2) := by
  have e0 : Hid (((0 : Nat) : Int) = 0) := rfl
  go_enter Tryz.func76, Tryz.ntmps76
  go_wp2_with fail
  refine (left_open B _ l 0 _ hR).mono ?_
  rintro e w2 ⟨rfl, hx2⟩
  rw [show ((l.length : Int) - ((0 : Nat) : Int)) = (l.length : Int) from by omega]
  have hR2 := hR.ext hx2
  have m2 : Mvs (fun k => k = B ∨ k = Bd) w1 w2 := Mvs.ofExt hx2
  have kd2 := hx2.block kd
  clear hR
  by_cases h8 : l.length < 8
  · go_wp2_with fail
    refine (fail_open B _ l 0 4 (by decide) _ hR2).mono ?_
    rintro e w3 ⟨rfl, hx3⟩
    refine ⟨rfl, m2.tr (Mvs.ofExt hx3), ⟨_, _, hR2.ext hx3⟩, .inr ⟨4, rfl, ?_, fun h => absurd h (by decide)⟩⟩
    unfold uerr
    rw [if_neg (by omega), if_pos h8]
  have hb0 := be16_bd hb 0
  have hb2 := be16_bd hb 2
  have hb4 := be16_bd hb 4
  have hb6 := be16_bd hb 6
  go_wp2_with fail
  refine (u16_ok B _ l 0 hb (by omega) _ hR2).mono ?_
  rintro e w3 ⟨rfl, hR3, hm3⟩
  have m3 := m2.tr (Mvs.ofMv hm3 (.inl rfl))
  have kd3 := (Mvs.ofMv (S := fun k => k = B) hm3 rfl).keep kd2 (by omega)
  rw [show l.getD 0 0 * 256 + l.getD (0 + 1) 0 = be16 l 0 from rfl, Nat.zero_add] at *
  clear hm3 kd2 hR2
  go_wp2_with fail
  refine (u16_ok B _ l 2 hb (by omega) _ hR3).mono ?_
  rintro e w4 ⟨rfl, hR4, hm4⟩
  have m4 := m3.tr (Mvs.ofMv hm4 (.inl rfl))
  have kd4 := (Mvs.ofMv (S := fun k => k = B) hm4 rfl).keep kd3 (by omega)
  rw [show l.getD 2 0 * 256 + l.getD (2 + 1) 0 = be16 l 2 from rfl] at *
  clear hm4 kd3 hR3
  have c0 := cell_blk kd4 0
  have c1 := cell_blk kd4 1
  have f0 := fz_blk kd4 0
  have f1 := fz_blk kd4 1
  simp at c0 c1
  go_wp2_with fail
  have hm5 : Mvs (fun k => k = Bd) w4 ((w4.setCell ⟨Bd, 0, none⟩ (.int .u16 (be16 l 0))).setCell ⟨Bd, 1, none⟩ (.int .u16 (be16 l 2))) := Mvs.tr (Mvs.set _ _ _ (by exact rfl)) (Mvs.set _ _ _ (by exact rfl))
  have kd5 := set_blk (set_blk kd4 0 (.int .u16 (be16 l 0))) 1 (.int .u16 (be16 l 2))
  simp at kd5
  have hR5 := hR4.mvs hm5 n2 ha (fun k hk => by subst hk; exact hBd)
  have m5 := m4.tr (hm5.mono (fun k _ hk => .inr hk))
  clear c0 c1 f0 f1 kd4 hR4 hm5
  generalize ((w4.setCell ⟨Bd, 0, none⟩ (.int .u16 (be16 l 0))).setCell ⟨Bd, 1, none⟩ (.int .u16 (be16 l 2))) = w5 at *
  refine (u16_ok B _ l 4 hb (by omega) _ hR5).mono ?_
  rintro e w6 ⟨rfl, hR6, hm6⟩
  have m6 := m5.tr (Mvs.ofMv hm6 (.inl rfl))
  have kd6 := (Mvs.ofMv (S := fun k => k = B) hm6 rfl).keep kd5 (by omega)
  rw [show l.getD 4 0 * 256 + l.getD (4 + 1) 0 = be16 l 4 from rfl] at *
  clear hm6 kd5 hR5
  go_wp2_with fail
  refine (u16_ok B _ l 6 hb (by omega) _ hR6).mono ?_
  rintro e w7 ⟨rfl, hR7, hm7⟩
  have m7 := m6.tr (Mvs.ofMv hm7 (.inl rfl))
  have kd7 := (Mvs.ofMv (S := fun k => k = B) hm7 rfl).keep kd6 (by omega)
  rw [show l.getD 6 0 * 256 + l.getD (6 + 1) 0 = be16 l 6 from rfl] at *
  clear hm7 kd6 hR6
  have kb7 := m7.keep kb (by omega)
  have ks7 := m7.keep ks (by omega)
  have kt7 := m7.keep kt (by omega)
  have cb := cell_blk kb7 0
  have cs := cell_blk ks7 0
  have ct := cell_blk kt7 0
  simp at cb cs ct
  have hv7 : Rd .u8 w7 bv l := hv.ext (m7.ext hx (fun k hk => by omega))
  obtain ⟨a, cap, rfl, -, -, -⟩ := hv
  generalize hA : be16 l 0 = A at *
  generalize hC : be16 l 2 = C at *
  generalize hN : be16 l 4 = N at *
  generalize hF : be16 l 6 = F at *
  have HA := Lib.hid hA
  have HC := Lib.hid hC
  have HN := Lib.hid hN
  have HF := Lib.hid hF
  clear hA hC hN hF
  have hE1 : Hid (uerr s d l = if N ≠ l.length then 5 else if F ≠ 0 ∧ csum (pseu s d 17 l.length ++ l) ≠ 65535 then 20 else 0) := by
    unfold uerr; rw [if_neg (by omega), if_neg h8, HN.out, HF.out]; exact rfl
  by_cases hne : N ≠ l.length
  · have hq : (N != (l.length : Int)) = true := by simpa using hne
    rw [if_pos hne] at hE1
    clear hne
    go_wp2_with fail
    refine (fail_open B _ l 8 5 (by decide) _ hR7).mono ?_
    rintro e w8 ⟨rfl, hx8⟩
    exact ⟨rfl, m7.tr (Mvs.ofExt hx8), ⟨_, _, hR7.ext hx8⟩, .inr ⟨5, rfl, hE1.out.symm, fun h => absurd h (by decide)⟩⟩
  rw [if_neg hne] at hE1
  have hne' : N = l.length := Classical.not_not.1 hne
  clear hne
  subst hne'
  by_cases hF0 : F = 0
  · subst hF0
    rw [if_neg (by simp)] at hE1
    go_wp2_with fail
    go_quiet (fail)
    go_wp2_with fail
    refine (rest_ok B _ l 8 _ (hR7.ext (Ext.drN (Ext.rfl' _) _))).mono ?_
    rintro e w9 ⟨u, rfl, hu, hR9, hm9⟩
    obtain ⟨au, nu, cu, rfl⟩ := hu.rd.shape
    have m9 : Mvs (fun k => k = B ∨ k = Bd) w1 w9 := m7.tr ((Mvs.ofExt (Ext.drN (Ext.rfl' _) _)).tr (Mvs.ofMv hm9 (.inl rfl)))
    have kd9 := (Mvs.ofMv (S := fun k => k = B) hm9 rfl).keep (Ext.block (Ext.drN (Ext.rfl' _) _) kd7) (by omega)
    have hu9 : Fr w9 w1.heap.size 5 .u8 _ (l.drop 8) := hu.low m7.size
    have c2 := cell_blk kd9 2
    have f2 := fz_blk kd9 2
    simp at c2
    have hm10 : Mvs (fun k => k = Bd) w9 (w9.setCell ⟨Bd, 2, none⟩ (.slice au nu cu)) := Mvs.set _ _ _ (by exact rfl)
    have kd10 := set_blk kd9 2 (.slice au nu cu)
    simp at kd10
    have hR10 := hR9.mvs hm10 n2 ha (fun k hk => by subst hk; exact hBd)
    have hs1 : Bd < w1.heap.size := lt_of_block kd
    clear hm9 kd7 kd9 hR7 hR9
    go_wp2
    exact ⟨rfl, _, by simp [results, Tryz.results76], m9.tr (hm10.mono (fun k _ hk => .inr hk)), ⟨_, _, hR10⟩, .inl ⟨rfl, hE1.out.symm, fun _ => ⟨_, by rw [HA.out, HC.out]; exact kd10, fr_set hu9 hs1⟩⟩⟩
  · have hF1 : (F != 0) = true := by simpa using hF0
    have HCS : Hid (uerr s d l = if csum (pseu s d 17 l.length ++ l) ≠ 65535 then 20 else 0) := by unfold Hid; rw [hE1.out]; simp [hF0]
    have hpl := pseu_len s d 17 l.length
    clear hF0 hE1
    go_wp2_with fail
    refine wp_region_grow [(6, fun v w => Rd .u8 w v (pseu s d 17 l.length)), (8, fun v w => Rds .u8 w v [pseu s d 17 l.length, l]), (9, is (.bool (csum (pseu s d 17 l.length ++ l) == 65535)))] ?_ (by kernel_rfl) (by kernel_rfl) ?_
    · exact lasts_cons (fun _ _ _ hx h => Rd.ext h hx) (lasts_cons (fun _ _ _ hx h => Rds.ext h hx) (lasts_is lasts_nil))
    iterate 3
      apply wpL_none rfl rfl
      · intro w' hw' hn'; go_simp; exact rfl
      intro K hK; go_simp; refine hK _ _ ?_; clear hK K
    iterate 2
      apply wpL_none rfl rfl
      · intro w' hw' hn'; have cs := Ext.cell hw' cs; have ct := Ext.cell hw' ct; go_simp; exact rfl
      intro K hK; go_simp; refine hK _ _ ?_; clear hK K
    iterate 1
      apply wpL_none rfl rfl
      · intro w' hw' hn'; go_simp; exact rfl
      intro K hK; go_simp; refine hK _ _ ?_; clear hK K
    apply wpL_some rfl rfl
    · intro w' hw' hn'
      go_simp
      refine ⟨Ext.rfl' _, ?_⟩
      refine (pseudo_any s d 17 _ _ hs hd (by omega)).mono ?_
      rintro e w2 ⟨u, rfl, ho, hx⟩
      exact ⟨u, rfl, hx, ho.rd⟩
    intro v w' hw' hD' hv
    obtain ⟨av, nv, cv, rfl⟩ := hv.shape
    clear hv hw' hD' w'
    intro K hK; go_simp; refine hK _ _ ?_; clear hK K
    iterate 1
      apply wpL_none rfl rfl
      · intro w' hw' hn'; have cb := Ext.cell hw' cb; go_simp; exact rfl
      intro K hK; go_simp; refine hK _ _ ?_; clear hK K
    apply wpL_some rfl rfl
    · intro w' hw' hn'
      have hr : Rd .u8 w' (.slice av nv cv) (pseu s d 17 l.length) := hn' ⟨6, .data⟩ (by simp) rfl
      go_simp
      exact ⟨Ext.new _ _, rds_two hr (hv7.ext hw') rfl⟩
    intro b2 w' hw' hD' hv
    clear hv hw' hD' w'
    intro K hK; go_simp; refine hK _ _ ?_; clear hK K
    apply wpL_some rfl rfl
    · intro w' hw' hn'
      have hr : Rds .u8 w' b2 [pseu s d 17 l.length, l] := hn' ⟨8, .data⟩ (by simp) rfl
      go_simp
      refine ⟨Ext.rfl' _, ?_⟩
      refine (right_any _ _ _ hr ?_ ?_).mono ?_
      · intro x hx
        simp only [List.mem_cons, List.not_mem_nil, or_false] at hx
        rcases hx with rfl | rfl
        · exact pseu_byt _ hs hd (by omega)
        · exact hb
      · simp only [List.flatten_cons, List.flatten_nil, List.append_nil, List.length_append]
        omega
      rintro e w2 ⟨rfl, hx⟩
      exact ⟨_, rfl, hx, by simp [Loose.is]⟩
    intro v w' hw' hD' hv
    obtain rfl : v = _ := hv
    clear hw' hD' w'
    intro K hK; go_simp; refine hK _ _ ?_; clear hK K
    rcases hcs : (csum (pseu s d 17 l.length ++ l) == 65535) with _ | _
    · have hq : csum (pseu s d 17 l.length ++ l) ≠ 65535 := by simpa using hcs
      have hE : Hid (20 = uerr s d l) := by unfold Hid; rw [HCS.out, if_pos hq]
      clear hq HCS
      iterate 3
        apply wpL_none rfl rfl
        · intro w' hw' hn'; go_simp; exact rfl
        intro K hK; go_simp; refine hK _ _ ?_; clear hK K
      refine wpL_nil ?_
      intro w8 hx8 _
      go_wp2_with fail
      refine (fail_open B _ l 8 20 (by decide) _ (hR7.ext hx8)).mono ?_
      rintro e w9 ⟨rfl, hx9⟩
      exact ⟨rfl, m7.tr (Mvs.ofExt (Ext.tr hx8 hx9)), ⟨_, _, (hR7.ext hx8).ext hx9⟩, .inr ⟨20, rfl, hE.out, fun h => absurd h (by decide)⟩⟩
    · have hq : csum (pseu s d 17 l.length ++ l) = 65535 := by simpa using hcs
      have hE1 : Hid (uerr s d l = 0) := by unfold Hid; rw [HCS.out, if_neg (by simp [hq])]
      clear hq HCS
      iterate 3
        apply wpL_none rfl rfl
        · intro w' hw' hn'; go_simp; exact rfl
        intro K hK; go_simp; refine hK _ _ ?_; clear hK K
      refine wpL_nil ?_
      intro w8 hx8 _
      go_wp2_with fail
      refine (rest_ok B _ l 8 _ (hR7.ext hx8)).mono ?_
      rintro e w9 ⟨u, rfl, hu, hR9, hm9⟩
      obtain ⟨au, nu, cu, rfl⟩ := hu.rd.shape
      have m9 : Mvs (fun k => k = B ∨ k = Bd) w1 w9 := m7.tr ((Mvs.ofExt hx8).tr (Mvs.ofMv hm9 (.inl rfl)))
      have kd9 := (Mvs.ofMv (S := fun k => k = B) hm9 rfl).keep (Ext.block hx8 kd7) (by omega)
      have hu9 : Fr w9 w1.heap.size 5 .u8 _ (l.drop 8) := hu.low (Nat.le_trans m7.size hx8.size)
      have c2 := cell_blk kd9 2
      have f2 := fz_blk kd9 2
      simp at c2
      have hm10 : Mvs (fun k => k = Bd) w9 (w9.setCell ⟨Bd, 2, none⟩ (.slice au nu cu)) := Mvs.set _ _ _ (by exact rfl)
      have kd10 := set_blk kd9 2 (.slice au nu cu)
      simp at kd10
      have hR10 := hR9.mvs hm10 n2 ha (fun k hk => by subst hk; exact hBd)
      have hs1 : Bd < w1.heap.size := lt_of_block kd
      clear hm9 kd7 kd9 hR7 hR9
      go_wp2
      exact ⟨rfl, _, by simp [results, Tryz.results76], m9.tr (hm10.mono (fun k _ hk => .inr hk)), ⟨_, _, hR10⟩, .inl ⟨rfl, hE1.out.symm, fun _ => ⟨_, by rw [HA.out, HC.out]; exact kd10, fr_set hu9 hs1⟩⟩⟩

/-- The datagram of bytes. -/
def upar (s d : Int) (l : List Int) : Int × Int × List Int := if uerr s d l = 0 then (be16 l 0, be16 l 2, l.drop 8) else (0, 0, [])

theorem parse_any (s d : Int) (bv : Value) (l : List Int) (w : World) (hv : Rd .u8 w bv l) (hb : Byt l) (hs : 0 ≤ s ∧ s ≤ 4294967295) (hd : 0 ≤ d ∧ d ≤ 4294967295) (hl : l.length ≤ 140737488351232) :
    Calls Tryz.prog 39 #[.int .u32 s, .int .u32 d, bv] w fun e w' => ∃ u, e = .returned (.tuple #[.agg #[.int .u16 (upar s d l).1, .int .u16 (upar s d l).2.1, u], .int .i64 (uerr s d l)]) ∧ Fr w' w.heap.size 5 .u8 u (upar s d l).2.2 ∧ Ext w w' := by
  have hvc := hv
  obtain ⟨a, cap, rfl, -, -, -⟩ := hvc
  by_cases hlong : 1480 < l.length
  · have hE : uerr s d l = 3 := by unfold uerr; rw [if_pos hlong]
    have hU : upar s d l = (0, 0, []) := by unfold upar; rw [hE]; rfl
    rw [hE, hU]
    clear hE hU
    go_enter Tryz.func39, Tryz.ntmps39
    go_wp2_with fail
    refine bodyPost_ret (v := .tuple #[.agg #[.int .u16 0, .int .u16 0, .slice none 0 0], .int .i64 3]) (by simp [results, Tryz.results39, go_sem]) rfl ?_
    refine ⟨_, rfl, .inl (Own.nil _ _ _ _), ?_⟩
    repeat (first | with_reducible exact Below.refl _ _ | with_reducible assumption | with_reducible exact Ext.drN (Ext.rfl' _) _ | with_reducible refine Below.setCell ?_ ?_ _ | with_reducible refine Ext.al ?_ _ | with_reducible refine Ext.drN ?_ _ | with_reducible refine Ext.dr ?_ | exact Nat.le_refl _ | omega | (dsimp only; omega) | (show _ ≤ _; omega) | (simp; done) | (simp; omega))
  · have hN : l.length ≤ 1480 := by omega
    have hU : Hid (upar s d l = if uerr s d l = 0 then (be16 l 0, be16 l 2, l.drop 8) else (0, 0, [])) := rfl
    go_enter Tryz.func39, Tryz.ntmps39
    go_wp2_with fail
    generalize hW : (((((w.alloc (Obj.cells #[Value.int IntKind.u32 s] 23)).alloc (Obj.cells #[Value.int IntKind.u32 d] 23)).alloc (Obj.cells #[Value.slice a l.length cap] 24)).alloc (Obj.cells #[Value.int IntKind.u16 0, Value.int IntKind.u16 0, Value.slice none 0 0] 31)).alloc (Obj.cells #[Value.int IntKind.u16 0, Value.int IntKind.u16 0, Value.slice none 0 0] 31)) = W
    have hxW : Ext w W := by
      rw [← hW]
      repeat (first | with_reducible exact Below.refl _ _ | with_reducible assumption | with_reducible exact Ext.drN (Ext.rfl' _) _ | with_reducible refine Below.setCell ?_ ?_ _ | with_reducible refine Ext.al ?_ _ | with_reducible refine Ext.drN ?_ _ | with_reducible refine Ext.dr ?_ | exact Nat.le_refl _ | omega | (dsimp only; omega) | (show _ ≤ _; omega) | (simp; done) | (simp; omega))
    have hsz : W.heap.size = w.heap.size + 5 := by rw [← hW]; simp
    have b0 : W.heap[w.heap.size]? = some (Obj.cells #[Value.int IntKind.u32 s] 23) := by rw [← hW]; simp only [heap_alloc_at, World.size_alloc]; repeat (first | rfl | rw [if_pos (by first | trivial | omega)] | rw [if_neg (by omega)])
    have b1 : W.heap[w.heap.size + 1]? = some (Obj.cells #[Value.int IntKind.u32 d] 23) := by rw [← hW]; simp only [heap_alloc_at, World.size_alloc]; repeat (first | rfl | rw [if_pos (by first | trivial | omega)] | rw [if_neg (by omega)])
    have b2 : W.heap[w.heap.size + 1 + 1]? = some (Obj.cells #[Value.slice a l.length cap] 24) := by rw [← hW]; simp only [heap_alloc_at, World.size_alloc]; repeat (first | rfl | rw [if_pos (by first | trivial | omega)] | rw [if_neg (by omega)])
    have b3 : W.heap[w.heap.size + 1 + 1 + 1]? = some (Obj.cells #[Value.int IntKind.u16 0, Value.int IntKind.u16 0, Value.slice none 0 0] 31) := by rw [← hW]; simp only [heap_alloc_at, World.size_alloc]; repeat (first | rfl | rw [if_pos (by first | trivial | omega)] | rw [if_neg (by omega)])
    have b4 : W.heap[w.heap.size + 1 + 1 + 1 + 1]? = some (Obj.cells #[Value.int IntKind.u16 0, Value.int IntKind.u16 0, Value.slice none 0 0] 31) := by rw [← hW]; simp only [heap_alloc_at, World.size_alloc]; repeat (first | rfl | rw [if_pos (by first | trivial | omega)] | rw [if_neg (by omega)])
    clear hW
    refine (read_cl 76 _ _ l W (hv.ext hxW) hl (fun k => k = w.heap.size + 1 + 1 + 1 + 1) (by omega) (UpQ (w.heap.size + 1 + 1 + 1 + 1) s d l) (fun _ _ => by simp [go_sem]) ?_).mono ?_
    · intro B bu w1 hx1 hB hR hA
      exact parse1_any s d l hb hN hs hd _ bu _ _ _ w w1 B _ _ _ _ hv (Ext.tr hxW hx1) hR hA (by omega) (hx1.block b4) (hx1.block b2) (hx1.block b0) (hx1.block b1) (by omega) (by omega) (by omega) (by omega) (by omega) (by omega) (by omega) (by omega) (by omega)
    rintro x w' ⟨e, w1, w2, rfl, hx1, ⟨he, hq⟩, hout, hm⟩
    have b3' := hm.keep b3 (by omega)
    have c30 := cell_blk b3' 0
    have c31 := cell_blk b3' 1
    have c32 := cell_blk b3' 2
    have f3 := fz_blk b3'
    have hs1 := hx1.size
    have hxw : Ext w w' := hm.ext hxW (by omega)
    simp at c30 c31 c32
    by_cases he0 : e = 0
    · subst he0
      have hU' : Hid (upar s d l = (be16 l 0, be16 l 2, l.drop 8)) := by unfold Hid; rw [hU.out, if_pos he.symm]
      have HE := Lib.hid he
      obtain ⟨u, hbd, hfr⟩ := hq rfl
      have b4' := (hout.block _ (lt_of_block hbd) (.inl (by omega))).trans hbd
      have c40 := cell_blk b4' 0
      have c41 := cell_blk b4' 1
      have c42 := cell_blk b4' 2
      simp at c40 c41 c42
      have hfr' := hout.fr hfr (Nat.le_refl _)
      clear hq he hU b0 b1 b2 b3 b3' b4 b4' hbd hfr hv hout
      have hs3 : (w'.heap.size : Nat) ≥ w.heap.size + 5 := by have := hm.size; omega
      obtain ⟨au, nu, cu, rfl⟩ := hfr'.rd.shape
      clear hm
      go_wp2_with fail
      refine bodyPost_ret (v := .tuple #[.agg #[.int .u16 (be16 l 0), .int .u16 (be16 l 2), .slice au nu cu], .int .i64 0]) (by simp [results, Tryz.results39, go_sem, c30, c31, c32]) rfl ?_
      rw [hU'.out, ← HE.out]
      have hfin : ∀ w'' : World, Fr w'' w1.heap.size 5 .u8 (.slice au nu cu) (l.drop 8) → Fr w'' w.heap.size 5 .u8 (.slice au nu cu) (l.drop 8) := fun _ h => h.low (by omega)
      refine ⟨_, rfl, hfin _ ?_, ?_⟩
      · repeat (first | with_reducible assumption | with_reducible refine fr_set ?_ ?_ | omega | (dsimp only; omega) | (simp; done) | (simp; omega))
      · repeat (first | with_reducible exact Below.refl _ _ | with_reducible assumption | with_reducible exact Ext.drN (Ext.rfl' _) _ | with_reducible refine Below.setCell ?_ ?_ _ | with_reducible refine Ext.al ?_ _ | with_reducible refine Ext.drN ?_ _ | with_reducible refine Ext.dr ?_ | exact Nat.le_refl _ | omega | (dsimp only; omega) | (show _ ≤ _; omega) | (simp; done) | (simp; omega))
    · have hU' : Hid (upar s d l = (0, 0, [])) := by unfold Hid; rw [hU.out, if_neg (by omega)]
      have HE := Lib.hid he
      have hb : (e != 0) = true := by simpa using he0
      clear hq he hU b0 b1 b2 b3 b3' b4 hv hout hm he0
      go_wp2_with fail
      refine bodyPost_ret (v := .tuple #[.agg #[.int .u16 0, .int .u16 0, .slice none 0 0], .int .i64 e]) (by simp [results, Tryz.results39, go_sem, c30, c31, c32]) rfl ?_
      rw [hU'.out, ← HE.out]
      refine ⟨_, rfl, .inl (Own.nil _ _ _ _), ?_⟩
      repeat (first | with_reducible exact Below.refl _ _ | with_reducible assumption | with_reducible exact Ext.drN (Ext.rfl' _) _ | with_reducible refine Below.setCell ?_ ?_ _ | with_reducible refine Ext.al ?_ _ | with_reducible refine Ext.drN ?_ _ | with_reducible refine Ext.dr ?_ | exact Nat.le_refl _ | omega | (dsimp only; omega) | (show _ ≤ _; omega) | (simp; done) | (simp; omega))
end Go.Proofs.YtbaidlkjbdeceaaGreat
