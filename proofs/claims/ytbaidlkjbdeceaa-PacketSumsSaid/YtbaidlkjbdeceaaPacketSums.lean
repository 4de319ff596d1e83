/-
  Proved here: the law PacketSums returns true. No condition.
-/
import Derived.Test.YtbaidlkjbdeceaaPkW
import Derived.Test.YtbaidlkjbdeceaaPkL
namespace Go.Proofs.Ytbaidlkjbdeceaa.packetSums
set_option maxRecDepth 200000
open Go.ChangeShapes Go.WideShapes Go.ChangeAt Go.RowKit Go.Cul Go.Loose
set_option linter.unusedVariables false
attribute [local go_sem] Loose.Still Loose.Upon Loose.vUpon First.pUpon

/-- A sum that is right. -/
theorem right_yes (v : Value) (ls : List (List Int)) (w : World) (hv : Rds .u8 w v ls) (hb : ∀ l ∈ ls, Byt l) (hn : ls.flatten.length ≤ 281474976710656) (he : csum ls.flatten = 65535) : Calls Try.prog 9 #[v] w fun e w' => e = .returned (.bool true) ∧ Ext w w' := by
  refine (right_any v ls w hv hb hn).mono ?_
  rintro e w' ⟨rfl, hx⟩
  exact ⟨by rw [he]; rfl, hx⟩
theorem ofInt64 (a : Nat) (ha : a < 65536) : (BitVec.ofInt 64 (a : Int)).toNat = a := by
  rw [BitVec.ofInt_natCast, BitVec.toNat_ofNat]; exact Nat.mod_eq_of_lt (by omega)
theorem or_lo8 (x y N : Int) (h : 0 ≤ x ∧ x ≤ 255) (hy : 0 ≤ y ∧ y ≤ 255) (hN : x * 256 + y = N) : bits BinOp.or IntKind.i64 (x * 256) y = N := by
  obtain ⟨a, rfl⟩ := Int.eq_ofNat_of_zero_le h.1
  obtain ⟨b, rfl⟩ := Int.eq_ofNat_of_zero_le hy.1
  have e : (a : Int) * 256 = ((a * 256 : Nat) : Int) := by omega
  rw [e]
  have hx : a * 256 ||| b < 2 ^ 16 := Nat.or_lt_two_pow (by omega) (by omega)
  show IntKind.i64.wrap ((BitVec.ofInt 64 ((a * 256 : Nat) : Int) ||| BitVec.ofInt 64 (b : Int)).toNat : Int) = _
  rw [BitVec.toNat_or, ofInt64 _ (by omega), ofInt64 b (by omega), IntKind.wrap_i64]
  rw [nat_join 8 _ _ (by omega) (by omega)] at hx ⊢
  omega

set_option maxHeartbeats 8000000
set_option maxRecDepth 100000
theorem walk (w : World) (cs0 : Array Value) (g0 : Reads w pkSh cs0.toList) : Calls Try.prog 3 #[.agg cs0] w fun e w' => e = .returned (.bool true) ∧ Ext w w' := by
  obtain ⟨p, vh, vo, vg, vd, vm, rfl, ok, r⟩ := open_pk9 g0
  have HF := Lib.hid (fun (W : World) (hx : Ext w W) => few9_of p vh vo vg vd vm w W hx r)
  have OK := Lib.hid (fxP_ok ok)
  have LN := Lib.hid (fxP_len p)
  clear g0 ok r
  generalize fxP p = q at *
  go_enter Try.func3, Try.ntmps3
  go_upto_region 1 with (fail)
  generalize hW : World.alloc w _ = W
  have hxW : Ext w W := by rw [← hW]; exact Ext.new _ _
  have k5 : W.heap[w.heap.size]? = some (.cells (p.cells vh vo vg vd vm) 35) := by rw [← hW]; exact heap_alloc_new w _
  clear hW
  have hws := lt_of_block k5
  go_wp2_with (refine wpList_load_bigG 35 w.heap.size _ _ _ rfl k5 rfl Try.underlying35 rfl (by kernel_rfl) ?_; simp only [Act.put, List.setIfInBounds_toArray, List.set_cons_succ, List.set_cons_zero])
  refine (HF.out W hxW).mono ?_
  clear HF
  rintro e W1 ⟨a1, n1, c1, a2, n2, c2, a3, n3, c3, a4, n4, c4, a5, n5, c5, rfl, r, hx1⟩
  have k5 := hx1.block k5
  have hx := hxW.tr hx1
  clear hxW hx1
  go_upto_region 2 with (refine wpList_put_row 35 w.heap.size _ (q.cells (.slice a1 n1 c1) (.slice a2 n2 c2) (.slice a3 n3 c3) (.slice a4 n4 c4) (.slice a5 n5 c5)) _ rfl rfl k5 (by kernel_rfl) rfl (pk_one9 _ _ _ _ _ _ _ _ _ _ _ _ _ _ _ _) ?_; intro W2 k5' m2)
  have hx := m2.ext hx (fun j hj => by omega)
  have r := r.keep (Keep.ofMvs m2 (fun j hj => by omega))
  have HP := Lib.hid (pput_any q _ _ _ _ _ W2 OK.out (r.pk (by omega) hx) LN.out)
  clear k5 m2 r
  have k5 := k5'
  clear k5'
  go_wp2_with (refine wpList_load_bigG 35 w.heap.size _ _ _ rfl k5 rfl Try.underlying35 rfl (by kernel_rfl) ?_; simp only [Act.put, List.setIfInBounds_toArray, List.set_cons_succ, List.set_cons_zero])
  refine HP.out.mono ?_
  clear HP
  rintro e W3 ⟨u, rfl, hu, hx3⟩
  have hx := hx.tr hx3
  have k5 := hx3.block k5
  clear hx3
  have hr := hu.rd
  clear hu
  rcases pput_right q OK.out with ⟨E, hE, he⟩ | ⟨H, Pl, he, hlen, ho1, ho2, hle, hcH, hbH, hbP, h0, h23, hc1, hc2⟩
  · rw [he] at hr ⊢
    dsimp only at hr ⊢
    obtain ⟨a, c, rfl, -⟩ := id hr
    have bE : (E != 0) = true := by simpa using hE
    go_wp2_with fail
    refine (awake9_any W3).mono ?_
    rintro e W4 ⟨rfl, hx4⟩
    go_wp2_with fail
    go_ret
    exact ⟨rfl, hx.tr hx4⟩
  rw [he] at hr ⊢
  dsimp only at hr ⊢
  clear he
  obtain ⟨a, c, rfl, hc0, hcm, hel⟩ := id hr
  have HR := Lib.hid hr
  obtain ⟨m, hm⟩ : ∃ m, H.length = m := ⟨_, rfl⟩
  obtain ⟨n, hn⟩ : ∃ n, Pl.length = n := ⟨_, rfl⟩
  have hN : (H ++ Pl).length = m + n := by rw [List.length_append, hm, hn]
  rcases hel with h | ⟨b, o, rfl, hel⟩
  · rw [h] at hN; simp at hN; omega
  have e0 := hel 0 (by omega)
  have e2 := hel 2 (by omega)
  have e3 := hel 3 (by omega)
  have hg : ∀ i, i < 20 → (H ++ Pl).getD i 0 = H.getD i 0 := fun i hi => by
    unfold List.getD; rw [List.getElem?_append_left (by omega)]
  rw [hg _ (by omega)] at e0 e2 e3
  rw [Nat.add_zero] at e0
  have hB0 := hbH.at 0
  have hB2 := hbH.at 2
  have hB3 := hbH.at 3
  rw [hN] at hc0 ⊢
  obtain ⟨N, hNN⟩ : ∃ N, m + n = N := ⟨_, rfl⟩
  have h23' : H.getD 2 0 * 256 + H.getD 3 0 = (N : Int) := by rw [h23, hm, hn, hNN]
  rw [hNN] at hc0 ⊢
  have hk1 : bits BinOp.and IntKind.u8 (H.getD 0 0) 15 = (((20 + q.h.op.length) / 4 : Nat) : Int) := by rw [and15 _ hB0, h0]; omega
  obtain ⟨K, hK⟩ : ∃ K : Int, (((20 + q.h.op.length) / 4 : Nat) : Int) = K := ⟨_, rfl⟩
  rw [hK] at hk1
  have hk2 : IntKind.i64.wrap K = K := by rw [IntKind.wrap_i64]; omega
  have hk3 : wrap64 (K * 4) = (m : Int) := by unfold wrap64; omega
  have hk4 : IntKind.i64.wrap (K * 4) = (m : Int) := by rw [IntKind.wrap_i64]; omega
  generalize H.getD 0 0 = B0 at *
  generalize H.getD 2 0 = B2 at *
  generalize H.getD 3 0 = B3 at *
  have hN20 : ¬ (N : Int) < 20 := by omega
  have hM := Lib.hid (And.intro hm (And.intro hn (And.intro hNN (And.intro hlen (And.intro ho1 hle)))))
  have hS := Lib.hid (And.intro hcH (And.intro hbH (And.intro hbP (And.intro hc1 hc2))))
  have HB := Lib.hid (And.intro hB2 (And.intro hB3 h23'))
  have HC := Lib.hid (And.intro hc0 hcm)
  have HK5 := Lib.hid k5
  have hm20 : ¬ (m : Int) < 20 := by omega
  have hmN : ¬ (N : Int) < (m : Int) := by omega
  have hmc : (m : Int) ≤ (c : Int) := by omega
  clear hm hn hNN hlen ho1 ho2 hle hcH hbH hbP hc1 hc2 h0 h23 h23' hB0 hB2 hB3 hc0 hcm hel hr hN hg hK k5
  go_upto_region 8 with (fail)
  have v2 : IntKind.i64.wrap B2 = B2 := by have := HB.out; rw [IntKind.wrap_i64]; omega
  have v3 : IntKind.i64.wrap B3 = B3 := by have := HB.out; rw [IntKind.wrap_i64]; omega
  have v4 : IntKind.i64.wrap (B2 * 256) = B2 * 256 := by have := HB.out; rw [IntKind.wrap_i64]; omega
  have v5 : bits BinOp.or IntKind.i64 (B2 * 256) B3 = (N : Int) := or_lo8 _ _ _ HB.out.1 HB.out.2.1 HB.out.2.2
  have hI2 : (2 : Int) < (N : Int) := by omega
  have hI3 : (3 : Int) < (N : Int) := by omega
  refine wp_region_grow [(27, fun v w' => Rds .u8 w' v [H]), (28, Loose.is (.bool true))] (lasts_cons (fun _ _ _ hx h => Rds.ext h hx) (lasts_is lasts_nil)) (by kernel_rfl) (by kernel_rfl) ?_
  iterate 13
    apply wpL_none rfl rfl
    · intro w' hw' hn'; have e2 := Ext.cell hw' e2; go_simp; exact rfl
    intro K hK; go_simp; refine hK _ _ ?_; clear hK K
  iterate 9
    apply wpL_none rfl rfl
    · intro w' hw' hn'; have e3 := Ext.cell hw' e3; go_simp; exact rfl
    intro K hK; go_simp; refine hK _ _ ?_; clear hK K
  iterate 5
    apply wpL_none rfl rfl
    · intro w' hw' hn'; go_simp; exact rfl
    intro K hK; go_simp; refine hK _ _ ?_; clear hK K
  have hRH : Hid (Rd .u8 W3 (.slice (some ⟨b, o, none⟩) m c) H) := by
    have hM' := hM.out
    have h := (show Rd .u8 W3 (.slice (some ⟨b, o, none⟩) (H ++ Pl).length c) (H ++ Pl) from HR.out).take (m := m) (by rw [List.length_append]; omega)
    rwa [show (H ++ Pl).take m = H from by rw [List.take_append_of_le_length (by omega), List.take_of_length_le (by omega)]] at h
  have hRP : Hid (Rd .u8 W3 (.slice (some ⟨b, o + m, none⟩) (N - m) (c - m)) Pl) := by
    have hM' := hM.out
    have h := (show Rd .u8 W3 (.slice (some ⟨b, o, none⟩) (H ++ Pl).length c) (H ++ Pl) from HR.out).drop (m := m) (by rw [List.length_append]; omega)
    rw [show (H ++ Pl).drop m = Pl from by rw [← hM'.1]; simp, show (H ++ Pl).length - m = N - m from by rw [List.length_append]; omega] at h
    exact h
  apply wpL_some rfl rfl
  · intro w' hw' hn'
    have hh := hRH.out.ext hw'
    go_simp
    first | exact ⟨Ext.new _ _, rds_one hh rfl⟩ | exact rds_one hh rfl
  intro v w' hw' hD' hv
  obtain ⟨gs, cs, rfl, -, -, -⟩ := id hv
  clear hw' hD' hv w'
  intro K hK; go_simp; refine hK _ _ ?_; clear hK K
  apply wpL_some rfl rfl
  · intro w' hw' hn'
    have hr : Rds .u8 w' (.slice gs [H].length cs) [H] := hn' ⟨27, .data⟩ (by simp) rfl
    go_simp
    refine ⟨Ext.rfl' _, ?_⟩
    refine (right_yes _ [H] w' hr (fun l hl => by rw [List.mem_singleton.1 hl]; exact hS.out.2.1) (by have := hM.out; simp; omega) (by simpa using hS.out.1)).mono ?_
    rintro e w2 ⟨rfl, hx⟩
    exact ⟨_, rfl, hx, rfl⟩
  intro v w' hw' hD' hv
  obtain rfl := hv
  clear hw' hD' w'
  intro K hK; go_simp; refine hK _ _ ?_; clear hK K
  iterate 2
    apply wpL_none rfl rfl
    · intro w' hw' hn'; go_simp; exact rfl
    intro K hK; go_simp; refine hK _ _ ?_; clear hK K
  refine wpL_nil ?_
  intro W4 hx4 _
  have hx4 : Ext W3 W4 := hx4
  have hx := hx.tr hx4
  have k5 := hx4.block HK5.out
  have hRP := Lib.hid (hRP.out.ext hx4)
  have c4 := cell_blk k5 4
  have c5 := cell_blk k5 5
  have c6 := cell_blk k5 6
  simp at c4 c5 c6
  have hmN2 : (m : Int) ≤ (N : Int) := by omega
  have hNc : (N : Int) ≤ (c : Int) := by have := HC.out; omega
  clear hx4 e0 e2 e3 k5 HK5 hRH HR
  go_upto_region 11 with (fail)
  obtain ⟨ad, had⟩ : ∃ ad, (if c = m then some (⟨b, o, none⟩ : Addr) else some ⟨b, o + m, none⟩) = ad := ⟨_, rfl⟩
  obtain ⟨cc, hcc⟩ : ∃ k, c - m = k := ⟨_, rfl⟩
  have hRP2 : Hid (Rd .u8 W4 (.slice ad (N - m) cc) Pl) := by
    have h1 := hM.out
    have h2 := HC.out
    rw [← had, ← hcc]
    split
    · have hl : Pl = [] := List.eq_nil_of_length_eq_zero (by omega)
      rw [hl, show N - m = 0 by omega]
      exact ⟨_, _, rfl, Nat.zero_le _, by omega, .inl rfl⟩
    · exact hRP.out
  have hNm : N - m = n := by have h1 := hM.out; omega
  have hPn : Hid (Pl.length = n) := hM.out.2.1
  have hn15 : n ≤ 1500 := by have h1 := hM.out; omega
  rw [hNm] at hRP2
  rw [had, hNm, hcc]
  clear had hcc hRP hM HC hm20 hmN hmc hmN2 hNc hN20 hI2 hI3 v2 v3 v4 v5 hk1 hk2 hk3 hk4 HB hNm
  by_cases hp : q.h.proto = 1
  · have hcs := Lib.hid (hS.out.2.2.2.1 hp)
    have hbP := Lib.hid hS.out.2.2.1
    rw [hp] at c4
    clear hp hS
    go_wp2_with fail
    refine (awake9_any W4).mono ?_
    rintro e W5 ⟨rfl, hx5⟩
    have hx := hx.tr hx5
    have hr5 := hRP2.out.ext hx5
    clear hx5 c4 c5 c6
    go_wp2_with fail
    refine (right_yes _ [Pl] _ (rds_one hr5 rfl) (fun l hl => by rw [List.mem_singleton.1 hl]; exact hbP.out) (by have := hPn.out; simp; omega) (by simpa using hcs.out)).mono ?_
    rintro e W6 ⟨rfl, hx6⟩
    go_wp2_with fail
    go_ret
    exact ⟨rfl, hx.tr ((Ext.new _ _).tr hx6)⟩
  · have hcs := Lib.hid (hS.out.2.2.2.2 hp)
    have hbP := Lib.hid hS.out.2.2.1
    have hp1 : (q.h.proto == 1) = false := by simpa using hp
    clear hp hS
    go_wp2_with fail
    refine (awake9_any W4).mono ?_
    rintro e W5 ⟨rfl, hx5⟩
    have hx := hx.tr hx5
    have hr5 := hRP2.out.ext hx5
    have c4 := hx5.cell c4
    have c5 := hx5.cell c5
    have c6 := hx5.cell c6
    clear hx5
    go_wp2_with fail
    refine (pseudo_any q.h.src q.h.dst q.h.proto n W5 OK.out.h.src OK.out.h.dst OK.out.h.proto).mono ?_
    rintro e W6 ⟨v, rfl, hv, hx6⟩
    have hx := hx.tr hx6
    have hr6 := hr5.ext hx6
    have hv := hv.rd
    have hpb := Lib.hid (pseu_byt (n : Int) OK.out.h.src OK.out.h.dst OK.out.h.proto)
    have hpl := Lib.hid (pseu_len q.h.src q.h.dst q.h.proto (n : Int))
    obtain ⟨a6, n6, c6', rfl⟩ := hv.shape
    rw [hPn.out] at hcs
    clear hx6 c4 c5 c6 hr5
    generalize pseu q.h.src q.h.dst q.h.proto (n : Int) = PS at *
    go_wp2_with fail
    refine (right_yes _ [PS, Pl] _ (rds_two hv hr6 rfl) (fun l hl => by
      rcases List.mem_cons.1 hl with rfl | hl
      · exact hpb.out
      · rw [List.mem_singleton.1 hl]; exact hbP.out) (by have h1 := hPn.out; have h2 := hpl.out; simp; omega) (by simpa using hcs.out)).mono ?_
    rintro e W7 ⟨rfl, hx7⟩
    go_wp2_with fail
    go_ret
    exact ⟨rfl, hx.tr ((Ext.new _ _).tr hx7)⟩
end Go.Proofs.Ytbaidlkjbdeceaa.packetSums
