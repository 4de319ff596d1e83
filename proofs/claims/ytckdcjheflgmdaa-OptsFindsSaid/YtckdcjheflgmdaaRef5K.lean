/-
  Proved here: what culvertref05's Sacks computes.
-/
import Derived.Test.YtckdcjheflgmdaaRef5F
import Derived.Test.YtckdcjheflgmdaaRef3
namespace Go.Proofs.Ytckdcjheflgmdaa
set_option maxRecDepth 16000
open Go.ChangeShapes Go.WideShapes Go.ChangeAt Go.RowKit Go.Cul Go.Loose
set_option linter.unusedVariables false

theorem ibR : IB 55 60 := ib_of (by kernel_rfl) (by kernel_rfl)
theorem wpList_appB {ts t : TypeId} (is : IB ts t) {w : World} {ops : Array Oper} {rest : List Oper} {o : Oper} {a : Act} {Q : Exit → Act → World → Prop} (hgd : o.guard = none) (s x : Operand)
    (ho : o.op = .call { callee := .builtin .append, args := #[s, x], argTypes := #[ts, ts] }) (base : Nat) (v : Value) (bs : List Bk) (hs : a.eval s = v) (h : FrB t w base v bs) (b1 : Nat) (hx : a.eval x = .slice (some ⟨b1, 0, none⟩) 1 1)
    (m n : Int) (hbs : w.heap[b1]? = some (.cells #[.int .u32 m, .int .u32 n] t)) (hn : bs.length ≤ 100000) (hbase : base ≤ w.heap.size)
    (hc : ∀ v' w', FrB t w' base v' (bs ++ [(m, n)]) → w.grownBy w' v.ownBlock → wpList Try.prog ops Q rest (a.put o.dst v') w') : wpList Try.prog ops Q (o :: rest) a w :=
  wpList_plain hgd fun _ hK => by
    obtain ⟨v', w', hrun, h2, h3⟩ := run_appB is w base o.type v bs h b1 m n hbs hn hbase
    unfold Oper.wp execOp
    simp only [ho, resolve, invoke, builtin, Sem.run_bind, Sem.run_pure, Result.andThen_ok, List.map_toArray, List.map_cons, List.map_nil, hs, hx, hrun]
    exact hK _ _ (hc v' w' h2 h3)
theorem num_be32 {D : List Int} {p : Nat} (h : p + 4 ≤ D.length) : num ((D.drop p).take 4) = be32 D p := by
  have e : (D.drop p).take 4 = [D.getD p 0, D.getD (p + 1) 0, D.getD (p + 2) 0, D.getD (p + 3) 0] := by
    rw [drop_cons (show p < D.length by omega), drop_cons (show p + 1 < D.length by omega), drop_cons (show p + 1 + 1 < D.length by omega), drop_cons (show p + 1 + 1 + 1 < D.length by omega)]
    rfl
  rw [e]
  unfold num be32
  simp
  omega
theorem okS_0 : okS 0 = false := rfl
theorem okS_8 {n : Nat} (h : n % 8 ≠ 0) : okS n = false := by unfold okS; rw [decide_eq_false h, Bool.false_and, Bool.and_false]
theorem okS_32 {n : Nat} (h : 32 < n) : okS n = false := by unfold okS; rw [decide_eq_false (show ¬ n ≤ 32 by omega), Bool.and_false, Bool.and_false]
theorem okS_yes {n : Nat} (h0 : n ≠ 0) (h8 : n % 8 = 0) (h : n ≤ 32) : okS n = true := by unfold okS; rw [decide_eq_true h8, decide_eq_true h, decide_eq_true (show 0 < n by omega)]; rfl

set_option maxHeartbeats 1000000 in
theorem r5sacks_any (v : Value) (os : List Op1) (w : World) (hv : RdO w v os) (hb : BytO os) :
    Calls Try.prog 31 #[v] w fun e w' => ∃ u, e = .returned u ∧ RdB w' u (osacks os) ∧ Ext w w' := by
  obtain ⟨a, cap, rfl, hc1, hc2, hr⟩ := id hv
  unfold maxLen at hc2
  have HR := Lib.hid hr
  have HB := Lib.hid hb
  clear hr hb hv
  go_enter Try.func31, Try.ntmps31
  go_wp2_with fail
  go_loopw [3, 4] (fun u i wr => ∃ k : Nat, k ≤ os.length ∧ i = .int .i64 k ∧ u = .slice none 0 0 ∧ Hid (∀ j, j < k → kl 5 okS (os.getD j (0, [])) = false) ∧ Ext w wr) (fun _ i _ => os.length - (intOf i).toNat)
  case atStart => exact ⟨0, Nat.zero_le _, rfl, rfl, (fun j hj => by omega), Ext.rfl' _⟩
  case round =>
    obtain ⟨k, hk, rfl, rfl, hpre, hx⟩ := hrel
    by_cases hlt : k < os.length
    · rcases HR.out with h0 | ⟨b, o, rfl, hrw⟩
      · rw [h0] at hlt; simp at hlt
      obtain ⟨u, e0, e1, hu⟩ := hrw k hlt
      clear hrw
      have e0 := hx.cell e0
      have e1 := hx.cell e1
      have hnx := Lib.hid (fun h => all_next hpre.out h)
      have hat := Lib.hid (fun h => fndO_at hlt hpre.out h)
      have hby := (HB.out.at k).2
      generalize os.getD k (0, []) = x at *
      obtain ⟨kx, D⟩ := x
      dsimp only at e0 hu hby
      obtain ⟨ad, cd, rfl, hd1, hd2, -⟩ := id hu
      unfold maxLen at hd2
      rcases hkx : (kx == 5) with _ | _
      · have hn2 : Hid (∀ j, j < k + 1 → kl 5 okS (os.getD j (0, [])) = false) := hnx.out (by unfold kl; rw [hkx]; rfl)
        have hkx' : (kx != 5) = true := by rw [bne, hkx]; rfl
        clear hu hnx hat
        go_wp2_with fail
        go_roundw
        case rel => exact ⟨k + 1, by omega, by go_num, rfl, hn2, hx⟩
        case measure => simp [intOf]; omega
      have hkx' : (kx != 5) = false := by rw [bne, hkx]; rfl
      by_cases h0 : D.length = 0
      · have hn2 : Hid (∀ j, j < k + 1 → kl 5 okS (os.getD j (0, [])) = false) := hnx.out (by unfold kl; dsimp only; rw [h0, okS_0, Bool.and_false])
        have hD' : (D.length : Int) = 0 := by omega
        clear hu hnx hat h0
        go_wp2_with fail
        go_roundw
        case rel => exact ⟨k + 1, by omega, by go_num, rfl, hn2, hx⟩
        case measure => simp [intOf]; omega
      have h0' : ((D.length : Int) == 0) = false := by rw [beq_eq_false_iff_ne]; omega
      by_cases h8 : D.length % 8 = 0
      · have h8a : Int.tmod (D.length : Int) 8 = 0 := by rw [Int.tmod_eq_emod_of_nonneg (by omega)]; omega
        have h8b : (D.length : Int) % 8 = 0 := by omega
        by_cases h32 : D.length ≤ 32
        · have h32' : ¬ (32 : Int) < (D.length : Int) := by omega
          obtain ⟨q1, q2⟩ := hat.out (by unfold kl; rw [hkx]; exact okS_yes h0 h8 h32)
          have hU : Hid (osacks os = bks D) := by unfold Hid osacks; rw [q1]
          have hq : Hid (D.length % 8 = 0 ∧ D.length ≤ 32) := ⟨h8, h32⟩
          have HBY := Lib.hid hby
          have HU := Lib.hid hu
          obtain ⟨N8, hN8⟩ : ∃ N8 : Nat, Hid (N8 = D.length / 8) := ⟨_, Lib.hid rfl⟩
          have hq8 : Int.tdiv (D.length : Int) 8 = (N8 : Int) := by rw [Int.tdiv_eq_ediv_of_nonneg (by omega), hN8.out]; omega
          have hq8b : (D.length : Int) / 8 = (N8 : Int) := by rw [hN8.out]; omega
          clear hnx hat q1 q2 h0 h8 h32 hby hu
          go_upto_region 8 with (fail)
          have kB := heap_alloc_new wr (.cells #[.slice ad D.length cd, .int .i64 0, .int .i64 0] 93)
          have hyw := Ext.new wr (.cells #[.slice ad D.length cd, .int .i64 0, .int .i64 0] 93)
          generalize World.alloc wr _ = W at *
          have hRR : RR w W wr.heap.size (.slice ad D.length cd) D 0 := ⟨kB, HU.out, hx.size⟩
          have hxW := hx.tr hyw
          have hBW := lt_of_block kB
          have hBw := hx.size
          generalize wr.heap.size = B at *
          clear kB hyw e0 e1
          go_wp2_with fail
          go_loopw [3, 7] (fun u i wq => ∃ (j : Nat) (v' : Value), 8 * j ≤ D.length ∧ i = .int .i64 j ∧ FrB 60 wq (B + 1) u ((List.range j).map (bkAt D)) ∧ RR w wq B v' (D.drop (8 * j)) (8 * j) ∧ Ext w wq ∧ B + 1 ≤ wq.heap.size) (fun _ i _ => D.length - (intOf i).toNat)
          case atStart => exact ⟨0, _, Nat.zero_le _, rfl, FrB.nil _ _ _, by simpa using hRR, hxW, hBW⟩
          case round =>
            obtain ⟨j, v', hj, rfl, hfo, hRR, hxq, hBq⟩ := hrel
            obtain ⟨av, cv, hve⟩ := hfo.rdb.shape
            have hjl : ∀ j : Nat, ((List.range j).map (bkAt D)).length = j := fun j => by simp
            rw [hjl] at hve
            subst hve
            have HJL := Lib.hid hjl
            have hdl : (D.drop (8 * j)).length = D.length - 8 * j := List.length_drop
            by_cases hlt2 : j < N8
            · have hlt' : (j : Int) < (N8 : Int) := by omega
              have hj8 : 8 * j + 8 ≤ D.length := by have := hN8.out; omega
              have hN := Lib.hid (rnum_ok B v' (D.drop (8 * j)) (8 * j) 4 w _ hRR hxq (HBY.out.drop _) (by omega) (by omega) (by omega) (by omega))
              have hn1 := num_be32 (D := D) (p := 8 * j) (by omega)
              have hn2 := num_be32 (D := D) (p := 8 * j + 4) (by omega)
              have hbe : (List.range j).map (bkAt D) ++ [(be32 D (8 * j), be32 D (8 * j + 4))] = (List.range (j + 1)).map (bkAt D) := by rw [bks_succ]; rfl
              have Hn1 := Lib.hid hn1
              have Hn2 := Lib.hid hn2
              have Hbe := Lib.hid hbe
              have HFO := Lib.hid hfo
              clear hn1 hn2 hbe hjl hRR hdl hfo
              go_wp2_with fail
              refine hN.out.mono ?_
              rintro e w2 ⟨rfl, ⟨v2, hR2⟩, hm2⟩
              have hx2 : Ext w w2 := (Mvs.ofMv (S := fun j => j = B) hm2 rfl).ext hxq (fun k hk => by subst hk; exact hBw)
              have hf2 := HFO.out.keep (Keep.ofMvs (Mvs.ofMv (S := fun j => j = B) hm2 rfl) (fun k hk => by subst hk; omega))
              have hs2 := hm2.size
              rw [Hn1.out]
              rw [List.drop_drop] at hR2
              have hdl : (D.drop (8 * j + 4)).length = D.length - (8 * j + 4) := List.length_drop
              have hN2 := Lib.hid (rnum_ok B v2 (D.drop (8 * j + 4)) (8 * j + 4) 4 w _ hR2 hx2 (HBY.out.drop _) (by omega) (by omega) (by omega) (by omega))
              clear hm2 hN hR2 hdl
              go_wp2_with fail
              refine hN2.out.mono ?_
              rintro e w3 ⟨rfl, ⟨v3, hR3⟩, hm3⟩
              have hx3 : Ext w w3 := (Mvs.ofMv (S := fun j => j = B) hm3 rfl).ext hx2 (fun k hk => by subst hk; exact hBw)
              have hf3 := hf2.keep (Keep.ofMvs (Mvs.ofMv (S := fun j => j = B) hm3 rfl) (fun k hk => by subst hk; omega))
              have hs3 := hm3.size
              rw [Hn2.out]
              rw [List.drop_drop] at hR3
              have HF3 := Lib.hid (hf3.keep (Keep.ofExt (Ext.new _ (.cells #[.int .u32 (be32 D (8 * j)), .int .u32 (be32 D (8 * j + 4))] 60))))
              clear hm3 hN2 hf2 hf3
              go_wp2_with (at_builtin; go_must (refine wpList_appB ibR rfl (.tmp 58) (.tmp 62) rfl (B + 1) _ _ rfl HF3.out _ rfl (be32 D (8 * j)) (be32 D (8 * j + 4)) (heap_alloc_new _ _) (by simp; omega) (by simp; omega) ?_); intro v4 w4 hf4 hg4)
              have hown := HF3.out.block
              have hx4 : Ext w w4 := ext_grown (hx3.al _) hg4 (fun j hj => by have := hown j hj; omega)
              have hR4 : RR w w4 B v3 (D.drop (8 * j + 4 + 4)) (8 * j + 4 + 4) := ⟨(hg4.block B (by have := lt_of_block hR3.blk; simp; omega) (fun he => by have := hown _ he.symm; omega)).trans ((hR3.ext (Ext.new _ _)).blk), hR3.rd, hR3.far⟩
              have hs4 := hg4.size
              have hs4' : B + 1 ≤ w4.heap.size := by simp at hs4; omega
              rw [Hbe.out] at hf4
              clear hg4 hs4 HF3 hR3
              go_wp2_with fail
              go_roundw
              case rel => exact ⟨j + 1, v3, by have := hq.out; omega, by go_num, hf4, by rw [show 8 * (j + 1) = 8 * j + 4 + 4 from by omega]; exact hR4, hx4, hs4'⟩
              case measure => simp [intOf]; omega
            · have hj8 : j = D.length / 8 := by have := hN8.out; omega
              have hlt' : ¬ (j : Int) < (N8 : Int) := by omega
              have hr4 := hfo.rdb
              have hfin : Hid ((List.range j).map (bkAt D) = bks D) := by unfold Hid bks; rw [hj8]
              clear hfo hRR hdl hjl hj8
              go_wp2_with fail
              go_ret
              exact ⟨_, rfl, by rw [hU.out, ← hfin.out]; exact hr4, hxq⟩
        · have hn2 : Hid (∀ j, j < k + 1 → kl 5 okS (os.getD j (0, [])) = false) := hnx.out (by unfold kl; dsimp only; rw [okS_32 (by omega), Bool.and_false])
          have h32' : (32 : Int) < (D.length : Int) := by omega
          clear hu hnx hat h0 h8 h32
          go_wp2_with fail
          go_roundw
          case rel => exact ⟨k + 1, by omega, by go_num, rfl, hn2, hx⟩
          case measure => simp [intOf]; omega
      · have hn2 : Hid (∀ j, j < k + 1 → kl 5 okS (os.getD j (0, [])) = false) := hnx.out (by unfold kl; dsimp only; rw [okS_8 h8, Bool.and_false])
        have h8a : (Int.tmod (D.length : Int) 8 != 0) = true := by rw [Int.tmod_eq_emod_of_nonneg (by omega)]; simp; omega
        have h8b : ((D.length : Int) % 8 != 0) = true := by simp; omega
        clear hu hnx hat h0 h8
        go_wp2_with fail
        go_roundw
        case rel => exact ⟨k + 1, by omega, by go_num, rfl, hn2, hx⟩
        case measure => simp [intOf]; omega
    · obtain rfl : k = os.length := by omega
      obtain ⟨q1, q2⟩ := fndO_none hpre.out
      have hU : Hid (osacks os = []) := by unfold Hid osacks; rw [q1]; rfl
      clear q1 q2
      go_wp2_with fail
      go_ret
      exact ⟨_, rfl, by rw [hU.out]; exact ⟨none, 0, rfl, Nat.le_refl _, by decide, .inl rfl⟩, hx⟩
end Go.Proofs.Ytckdcjheflgmdaa
