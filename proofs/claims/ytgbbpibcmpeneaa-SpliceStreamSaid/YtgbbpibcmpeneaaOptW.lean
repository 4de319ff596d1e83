/-
  Proved here: what opts.WithSacks and opts.Without compute.
-/
import Derived.Test.YtgbbpibcmpeneaaOptA
import Derived.Test.YtgbbpibcmpeneaaRef5
import Derived.Deep.Cut
namespace Go.Proofs.Ytgbbpibcmpeneaa
set_option maxRecDepth 200000
open Go.ChangeShapes Go.WideShapes Go.ChangeAt Go.RowKit Go.Cul Go.Loose
set_option linter.unusedVariables false
attribute [local go_sem] Loose.Still Loose.Upon Loose.vUpon

/-- Blocks as data. -/
def flatB (bs : List Bk) : List Int := bs.flatMap fun b => by4 b.1 ++ by4 b.2
def okB (bs : List Bk) : Prop := ∀ b ∈ bs, (0 ≤ b.1 ∧ b.1 ≤ 4294967295) ∧ (0 ≤ b.2 ∧ b.2 ≤ 4294967295)
theorem okB.at {bs : List Bk} (h : okB bs) (i : Nat) : (0 ≤ (bs.getD i (0, 0)).1 ∧ (bs.getD i (0, 0)).1 ≤ 4294967295) ∧ (0 ≤ (bs.getD i (0, 0)).2 ∧ (bs.getD i (0, 0)).2 ≤ 4294967295) := by
  by_cases hi : i < bs.length
  · have : bs.getD i (0, 0) = bs[i] := by simp [List.getD, hi]
    rw [this]; exact h _ (List.getElem_mem hi)
  · have : bs.getD i (0, 0) = (0, 0) := by simp [List.getD, List.getElem?_eq_none (show bs.length ≤ i by omega)]
    rw [this]; simp
theorem flatB_take {bs : List Bk} {i : Nat} (h : i < bs.length) : flatB (bs.take (i + 1)) = flatB (bs.take i) ++ by4 (bs.getD i (0, 0)).1 ++ by4 (bs.getD i (0, 0)).2 := by
  rw [take_succ_getD' (0, 0) bs i h]
  simp [flatB, List.append_assoc]
theorem flatB_len (bs : List Bk) : (flatB bs).length = 8 * bs.length := by
  induction bs with
  | nil => rfl
  | cons b bs ih => unfold flatB at ih ⊢; rw [List.flatMap_cons, List.length_append, List.length_append, ih, List.length_cons]; simp [by4]; omega
def owith (bs : List Bk) : Op1 × Int := if bs.length = 0 then ((0, []), 1) else if 4 < bs.length then ((0, []), 3) else ((5, flatB bs), 0)

set_option maxHeartbeats 1000000 in
theorem withsacks_any (v : Value) (bs : List Bk) (w : World) (hv : RdB w v bs) (hb : okB bs) :
    Calls Try.prog 53 #[v] w fun e w' => ∃ u, e = .returned (.tuple #[.agg #[.int .u8 (owith bs).1.1, u], .int .i64 (owith bs).2]) ∧ Fr w' w.heap.size 5 .u8 u (owith bs).1.2 ∧ Ext w w' := by
  obtain ⟨a, cap, rfl, hc1, hc2, hr⟩ := id hv
  unfold maxLen at hc2
  have HR := Lib.hid hr
  have HB := Lib.hid hb
  clear hr hb hv
  go_enter Try.func53, Try.ntmps53
  go_upto_region 1 with (fail)
  have k2 := heap_alloc_new w (.cells #[.int .u8 0, .slice none 0 0] 98)
  have hx0 := Ext.new w (.cells #[.int .u8 0, .slice none 0 0] 98)
  have hs0 : (w.alloc (.cells #[.int .u8 0, .slice none 0 0] 98)).heap.size = w.heap.size + 1 := by simp
  generalize World.alloc w _ = w1 at *
  have c0 := cell_blk k2 0
  have c1 := cell_blk k2 1
  simp at c0 c1
  have hz := fz_blk k2
  by_cases h0 : bs.length = 0
  · have hU : Hid (owith bs = ((0, []), 1)) := by unfold Hid owith; rw [if_pos h0]
    have h0' : (bs.length : Int) = 0 := by omega
    have k3 := set_blk (set_blk k2 0 (.int .u8 0)) 1 (.slice none 0 0)
    simp at k3
    clear h0 k2
    go_wp2_with fail
    refine bodyPost_ret (v := .tuple #[.agg #[.int .u8 0, .slice none 0 0], .int .i64 1]) (by have c0 := cell_blk k3 0; have c1 := cell_blk k3 1; simp at c0 c1; simp [results, Try.results53, go_sem, c0, c1]) rfl ?_
    rw [hU.out]
    refine ⟨_, rfl, .inr ⟨_, rfl, rfl⟩, ?_⟩
    repeat (first | with_reducible exact Below.refl _ _ | with_reducible assumption | with_reducible exact Ext.drN (Ext.rfl' _) _ | with_reducible refine Below.setCell ?_ ?_ _ | with_reducible refine Ext.al ?_ _ | with_reducible refine Ext.drN ?_ _ | with_reducible refine Ext.dr ?_ | exact Nat.le_refl _ | omega | (dsimp only; omega) | (show _ ≤ _; omega) | (simp; done) | (simp; omega))
  by_cases h4 : 4 < bs.length
  · have hU : Hid (owith bs = ((0, []), 3)) := by unfold Hid owith; rw [if_neg h0, if_pos h4]
    have h0' : ((bs.length : Int) == 0) = false := by rw [beq_eq_false_iff_ne]; omega
    have h4' : (4 : Int) < (bs.length : Int) := by omega
    have k3 := set_blk (set_blk k2 0 (.int .u8 0)) 1 (.slice none 0 0)
    simp at k3
    clear h0 h4 k2
    go_wp2_with fail
    refine bodyPost_ret (v := .tuple #[.agg #[.int .u8 0, .slice none 0 0], .int .i64 3]) (by have c0 := cell_blk k3 0; have c1 := cell_blk k3 1; simp at c0 c1; simp [results, Try.results53, go_sem, c0, c1]) rfl ?_
    rw [hU.out]
    refine ⟨_, rfl, .inr ⟨_, rfl, rfl⟩, ?_⟩
    repeat (first | with_reducible exact Below.refl _ _ | with_reducible assumption | with_reducible exact Ext.drN (Ext.rfl' _) _ | with_reducible refine Below.setCell ?_ ?_ _ | with_reducible refine Ext.al ?_ _ | with_reducible refine Ext.drN ?_ _ | with_reducible refine Ext.dr ?_ | exact Nat.le_refl _ | omega | (dsimp only; omega) | (show _ ≤ _; omega) | (simp; done) | (simp; omega))
  have hU : Hid (owith bs = ((5, flatB bs), 0)) := by unfold Hid owith; rw [if_neg h0, if_neg h4]
  have h0' : ((bs.length : Int) == 0) = false := by rw [beq_eq_false_iff_ne]; omega
  have h4' : ¬ (4 : Int) < (bs.length : Int) := by omega
  clear h0 h4
  go_upto_region 6 with (fail)
  have k4 : (w1.alloc (.cells #[.int .u8 5, .slice none 0 0] 98)).heap[w.heap.size + 1]? = some (.cells #[.int .u8 5, .slice none 0 0] 98) := by rw [← hs0]; exact heap_alloc_new w1 _
  have k2 := (Ext.new w1 (.cells #[.int .u8 5, .slice none 0 0] 98)).block k2
  have hx2 := hx0.al (.cells #[.int .u8 5, .slice none 0 0] 98)
  have hs2 : w.heap.size + 2 ≤ (w1.alloc (.cells #[.int .u8 5, .slice none 0 0] 98)).heap.size := by simp; omega
  generalize World.alloc w1 _ = w2 at *
  clear c0 c1 hz hs0 hx0
  go_wp2_with fail
  go_loopw [20] (fun i wr => ∃ (k : Nat) (u : Value), k ≤ bs.length ∧ i = .int .i64 k ∧ wr.heap[w.heap.size + 1]? = some (.cells #[.int .u8 5, u] 98) ∧ wr.heap[w.heap.size]? = some (.cells #[.int .u8 0, .slice none 0 0] 98) ∧ Fr wr (w.heap.size + 2) 5 .u8 u (flatB (bs.take k)) ∧ Ext w wr) (fun i _ => bs.length - (intOf i).toNat)
  case atStart => exact ⟨0, _, Nat.zero_le _, rfl, k4, k2, .inr ⟨_, rfl, rfl⟩, hx2⟩
  case round =>
    obtain ⟨k, u, hk, rfl, k4, k2, hu, hx⟩ := hrel
    by_cases hlt : k < bs.length
    · rcases HR.out with h0 | ⟨b, o, rfl, hrw⟩
      · rw [h0] at hlt; simp at hlt
      obtain ⟨e0, e1⟩ := hrw k hlt
      have e0 := hx.cell e0
      have e1 := hx.cell e1
      obtain ⟨hf, ht⟩ := HB.out.at k
      have htk := flatB_take hlt
      have hfl : (flatB (bs.take k)).length ≤ 8 * 4 := by rw [flatB_len, List.length_take]; omega
      generalize flatB (bs.take k) = N at *
      generalize bs.getD k (0, 0) = y at *
      obtain ⟨x, y⟩ := y
      dsimp only at e0 e1 hf ht htk
      have HT := Lib.hid htk
      obtain ⟨au, nu, cu, rfl⟩ := hu.rd.shape
      have HU := Lib.hid hu
      have hs3 : w.heap.size + 2 ≤ wr.heap.size := by have := lt_of_block k4; omega
      clear hrw htk hu
      go_upto_region 9 with (fail)
      have kz := heap_alloc_new wr (.cells #[.int .u32 x, .int .u32 y] 112)
      have hxa := Ext.new wr (.cells #[.int .u32 x, .int .u32 y] 112)
      generalize World.alloc wr _ = W at *
      have k4 := hxa.block k4
      have k2 := hxa.block k2
      have hxw := hx.tr hxa
      have hsW : w.heap.size + 2 ≤ W.heap.size := by have := hxa.size; omega
      have y0 := cell_blk k4 0
      have y1 := cell_blk k4 1
      simp at y0 y1
      have z0 := cell_blk kz 0
      have z1 := cell_blk kz 1
      simp at z0 z1
      refine wp_region_tail 8 [(4, fun v w' => Own w' (w.heap.size + 2) 5 .u8 v (N ++ by4 x)), (7, fun v w' => Own w' (w.heap.size + 2) 5 .u8 v (N ++ (by4 x ++ by4 y)))] ?_ (by kernel_rfl) (by kernel_rfl) (by kernel_rfl) ?_
      · exact lasts_cons (fun _ _ _ hx h => Own.kept h hx) (lasts_cons (fun _ _ _ hx h => Own.kept h hx) lasts_nil)
      simp only [List.take, List.drop]
      iterate 4
        apply wpL_none rfl rfl
        · intro w' hw' hn'; have y1 := Ext.cell hw' y1; have z0 := Ext.cell hw' z0; go_simp; exact rfl
        intro K hK; go_simp; refine hK _ _ ?_; clear hK K
      apply wpL_some rfl rfl
      · intro w' hw' hn'
        go_simp
        refine ⟨Ext.rfl' _, ?_⟩
        refine (wu32_any _ N x w' ((HU.out.rd.ext hxa).ext hw') (by omega) hf).mono ?_
        rintro e w3 ⟨u3, rfl, hu3, hx3⟩
        exact ⟨_, rfl, hx3, hu3.low (Nat.le_trans hsW hw'.size)⟩
      intro v4 w4 hw4 hD4 hv4
      obtain ⟨a4, n4, c4, rfl⟩ := hv4.rd.shape
      clear hw4 hD4 hv4 w4
      intro K hK; go_simp; refine hK _ _ ?_; clear hK K
      iterate 2
        apply wpL_none rfl rfl
        · intro w' hw' hn'; have z1 := Ext.cell hw' z1; go_simp; exact rfl
        intro K hK; go_simp; refine hK _ _ ?_; clear hK K
      apply wpL_some rfl rfl
      · intro w' hw' hn'
        have q : Own w' (w.heap.size + 2) 5 .u8 _ (N ++ by4 x) := hn' ⟨4, .data⟩ (by simp) rfl
        go_simp
        refine ⟨Ext.rfl' _, ?_⟩
        refine (wu32_any _ (N ++ by4 x) y w' q.rd (by simp [by4]; omega) ht).mono ?_
        rintro e w3 ⟨u3, rfl, hu3, hx3⟩
        exact ⟨_, rfl, hx3, by rw [← List.append_assoc]; exact hu3.low (Nat.le_trans hsW hw'.size)⟩
      intro v7 w7 hw7 hD7 hv7
      obtain ⟨a7, n7, c7, rfl⟩ := hv7.rd.shape
      clear hw7 hD7 hv7 w7
      intro K hK; go_simp; refine hK _ _ ?_; clear hK K
      refine wpL_nil ?_
      intro w' hw' hD'
      have hv7 := hD' 7
      simp [Loose.upd] at hv7
      have k4 := Ext.block hw' k4
      have k2 := Ext.block hw' k2
      have hx' : Ext w w' := hxw.tr hw'
      have y0 := cell_blk k4 0
      have y1 := cell_blk k4 1
      simp at y0 y1
      have hz := fz_blk k4
      iterate 1
        apply wpVL_step rfl
        intro K hK
        go_simp
        refine hK _ _ ?_
        clear hK K
      apply wpVL_step rfl
      intro K hK
      go_simp
      refine hK _ _ ?_
      clear hK K
      refine wpVL_nil ?_
      try simp only [Act.put]
      have k5 := set_blk k4 1 (.slice a7 n7 c7)
      simp at k5
      have k6 : (w'.setCell ⟨w.heap.size + 1, 1, none⟩ (.slice a7 n7 c7)).heap[w.heap.size]? = some (.cells #[.int .u8 0, .slice none 0 0] 98) := set_oth k2 (by omega) _ _
      have hu' : Fr (w'.setCell ⟨w.heap.size + 1, 1, none⟩ (.slice a7 n7 c7)) (w.heap.size + 2) 5 .u8 (.slice a7 n7 c7) (N ++ (by4 x ++ by4 y)) := fr_setO (.inl hv7) (by simp)
      have hxf : Ext w (w'.setCell ⟨w.heap.size + 1, 1, none⟩ (.slice a7 n7 c7)) := Below.setCell hx' (by simp) _
      clear k4 k2 hz hw' hD' hv7 y0 y1 z0 z1 hxa hxw e0 e1
      generalize World.setCell w' _ _ = W2 at *
      go_wp2_with fail
      go_roundw
      case rel => exact ⟨k + 1, _, by omega, by go_num, k5, k6, by rw [HT.out, List.append_assoc]; exact hu', hxf⟩
      case measure => simp [intOf]; omega
    · obtain rfl : k = bs.length := by omega
      rw [List.take_length] at hu
      obtain ⟨au, nu, cu, rfl⟩ := hu.rd.shape
      have y0 := cell_blk k4 0
      have y1 := cell_blk k4 1
      simp at y0 y1
      have c0 := cell_blk k2 0
      have c1 := cell_blk k2 1
      simp at c0 c1
      have hz := fz_blk k2
      have k3 := set_blk (set_blk k2 0 (.int .u8 5)) 1 (.slice au nu cu)
      simp at k3
      have hfin : ∀ w'' : World, Fr w'' (w.heap.size + 2) 5 .u8 (.slice au nu cu) (flatB bs) → Fr w'' w.heap.size 5 .u8 (.slice au nu cu) (flatB bs) := fun _ h => h.low (by omega)
      clear k2 k4
      go_wp2_with fail
      refine bodyPost_ret (v := .tuple #[.agg #[.int .u8 5, .slice au nu cu], .int .i64 0]) (by have c0 := cell_blk k3 0; have c1 := cell_blk k3 1; simp at c0 c1; simp [results, Try.results53, go_sem, c0, c1]) rfl ?_
      rw [hU.out]
      refine ⟨_, rfl, hfin _ (fr_setO (fr_setO hu (by simp)) (by simp)), ?_⟩
      repeat (first | with_reducible exact Below.refl _ _ | with_reducible assumption | with_reducible exact Ext.drN (Ext.rfl' _) _ | with_reducible refine Below.setCell ?_ ?_ _ | with_reducible refine Ext.al ?_ _ | with_reducible refine Ext.drN ?_ _ | with_reducible refine Ext.dr ?_ | exact Nat.le_refl _ | omega | (dsimp only; omega) | (show _ ≤ _; omega) | (simp; done) | (simp; omega))

def owo (os : List Op1) (kd : Int) : List Op1 := os.filter fun o => !(o.1 == kd)
theorem owo_take {os : List Op1} {i : Nat} (kd : Int) (h : i < os.length) : owo (os.take (i + 1)) kd = owo (os.take i) kd ++ (if (os.getD i (0, [])).1 == kd then [] else [os.getD i (0, [])]) := by
  unfold owo
  rw [take_succ_getD' (0, []) os i h, List.filter_append]
  congr 1
  cases hc : ((os.getD i (0, [])).1 == kd) <;> simp only [List.filter_cons, hc, Bool.not_true, Bool.not_false, List.filter_nil] <;> rfl
theorem owo_len (os : List Op1) (kd : Int) : (owo os kd).length ≤ os.length := List.length_filter_le _ _

set_option maxHeartbeats 1000000 in
theorem without_any (v : Value) (os : List Op1) (kd : Int) (w : World) (hv : RdO w v os) (hn : os.length ≤ 100000) (hd : ∀ o ∈ os, o.2.length ≤ 140737488351232) :
    Calls Try.prog 62 #[v, .int .u8 kd] w fun e w' => ∃ u, e = .returned u ∧ FrO w' w.heap.size u (owo os kd) ∧ Ext w w' := by
  obtain ⟨a, cap, rfl, hc1, hc2, hr⟩ := id hv
  unfold maxLen at hc2
  have HR := Lib.hid hr
  have HD := Lib.hid hd
  clear hr hv hd
  go_enter Try.func62, Try.ntmps62
  go_wp2_with fail
  go_loopw [5, 10] (fun u i wr => ∃ k : Nat, k ≤ os.length ∧ i = .int .i64 k ∧ FrO wr w.heap.size u (owo (os.take k) kd) ∧ Ext w wr) (fun _ i _ => os.length - (intOf i).toNat)
  case atStart => exact ⟨0, Nat.zero_le _, rfl, FrO.nil _ _, Ext.rfl' _⟩
  case round =>
    obtain ⟨k, hk, rfl, hfo, hx⟩ := hrel
    by_cases hlt : k < os.length
    · rcases HR.out with h0 | ⟨b, o, rfl, hrw⟩
      · rw [h0] at hlt; simp at hlt
      obtain ⟨u, e0, e1, hu⟩ := hrw k hlt
      clear hrw
      have e0 := hx.cell e0
      have e1 := hx.cell e1
      have hu := hu.ext hx
      have htk := owo_take kd hlt
      have hac : (owo (os.take k) kd).length ≤ 100000 := by have := owo_len (os.take k) kd; rw [List.length_take] at this; omega
      have hDl : (os.getD k (0, [])).2.length ≤ 140737488351232 := by
        refine HD.out _ ?_
        have : os.getD k (0, []) = os[k] := by simp [List.getD, hlt]
        rw [this]; exact List.getElem_mem hlt
      generalize owo (os.take k) kd = acc at *
      generalize os.getD k (0, []) = y at *
      obtain ⟨kx, D⟩ := y
      dsimp only at e0 hu hDl htk
      obtain ⟨au, nu, cu, rfl⟩ := hu.shape
      have HU := Lib.hid hu
      obtain ⟨av, cv, rfl⟩ := hfo.rdo.shape
      have hFO := Lib.hid hfo
      clear hu hfo
      rcases hkk : (kx == kd) with _ | _
      · rw [hkk, if_neg (by simp)] at htk
        have HT := Lib.hid htk
        have hkk' : (kx != kd) = true := by rw [bne, hkk]; rfl
        clear htk hkk
        go_upto_region 6 with (fail)
        have hxa := Ext.new wr (.cells #[.int .u8 kx, .slice au nu cu] 98)
        have kz := heap_alloc_new wr (.cells #[.int .u8 kx, .slice au nu cu] 98)
        generalize World.alloc wr _ = W at *
        have hxw := hx.tr hxa
        have hsW := hxw.size
        have HUW := Lib.hid (HU.out.ext hxa)
        have z0 := cell_blk kz 0
        have z1 := cell_blk kz 1
        simp at z0 z1
        refine wp_region_tail 8 [(5, fun v w' => Fr w' w.heap.size 5 .u8 v D), (6, AggO w.heap.size kx D), (7, NewO w.heap.size kx D)] ?_ (by kernel_rfl) (by kernel_rfl) (by kernel_rfl) ?_
        · exact lasts_cons (fun _ _ _ hx h => Fr.kept h hx) (lasts_cons (fun _ _ _ hx h => AggO.ext h hx) (lasts_cons (fun _ _ _ hx h => NewO.ext h hx) lasts_nil))
        simp only [List.take, List.drop]
        iterate 5
          apply wpL_none rfl rfl
          · intro w' hw' hn'; have z0 := Ext.cell hw' z0; have z1 := Ext.cell hw' z1; go_simp; exact rfl
          intro K hK; go_simp; refine hK _ _ ?_; clear hK K
        apply wpL_some rfl rfl
        · intro w' hw' hn'
          go_simp
          refine ⟨Ext.rfl' _, ?_⟩
          refine (bclone_any _ D w' (HUW.out.ext hw') (by omega)).mono ?_
          rintro e w3 ⟨u3, rfl, hu3, hx3⟩
          exact ⟨_, rfl, hx3, hu3.low (Nat.le_trans hsW hw'.size)⟩
        intro v5 w5 hw5 hD5 hv5
        obtain ⟨a5, n5, c5, rfl⟩ := hv5.rd.shape
        clear hw5 hD5 hv5 w5
        intro K hK; go_simp; refine hK _ _ ?_; clear hK K
        apply wpL_some rfl rfl
        · intro w' hw' hn'
          have q : Fr w' w.heap.size 5 .u8 _ D := hn' ⟨5, .data⟩ (by simp) rfl
          go_simp
          exact ⟨Ext.rfl' _, _, rfl, q⟩
        intro v6 w6 hw6 hD6 hv6
        obtain ⟨u6, rfl, hv6⟩ := hv6
        obtain ⟨a6, n6, c6, rfl⟩ := hv6.rd.shape
        clear hw6 hD6 hv6 w6
        intro K hK; go_simp; refine hK _ _ ?_; clear hK K
        apply wpL_some rfl rfl
        · intro w' hw' hn'
          obtain ⟨u, q1, q2⟩ : AggO w.heap.size kx D _ w' := hn' ⟨6, .data⟩ (by simp) rfl
          cases q1
          go_simp
          exact ⟨Ext.new _ _, _, _, rfl, heap_alloc_new _ _, q2.kept (Ext.new _ _)⟩
        intro v7 w7 hw7 hD7 hv7
        obtain ⟨g7, u7, rfl, -, -⟩ := hv7
        clear hw7 hD7 w7
        intro K hK; go_simp; refine hK _ _ ?_; clear hK K
        refine wpL_nil ?_
        intro w' hw' hD'
        have hv7 := hD' 7
        simp [Loose.upd] at hv7
        obtain ⟨g7', u7', he7, hg7, hu7⟩ := hv7
        cases he7
        apply wpVL_step rfl
        intro K hK
        refine vupon_appO (.tmp 18) (.tmp 25) (by rfl) w.heap.size _ acc (by rfl) (hFO.out.keep (Keep.ofExt (Ext.tr hxa hw'))) g7 (by rfl) kx u7' D hu7 hg7 hac (Nat.le_trans hsW hw'.size) (fun v' w'' q1 q2 q3 => ?_)
        have hx2 : Ext w w'' := ext_grown (hxw.tr hw') q2 q3
        refine hK _ _ ?_
        clear hK K
        iterate 1
          apply wpVL_step rfl
          intro K hK
          go_simp
          refine hK _ _ ?_
          clear hK K
        refine wpVL_nil ?_
        obtain ⟨a8, c8, rfl⟩ := q1.rdo.shape
        clear hD' hg7 hu7 q2 q3 hw' e0 e1 z0 z1 hxa hxw
        go_wp2_with fail
        go_roundw
        case rel => exact ⟨k + 1, by omega, by go_num, by rw [HT.out]; exact q1, hx2⟩
        case measure => simp [intOf]; omega
      · rw [hkk, if_pos rfl, List.append_nil] at htk
        have HT := Lib.hid htk
        have hkk' : (kx != kd) = false := by rw [bne, hkk]; rfl
        clear htk hkk
        go_wp2_with fail
        go_roundw
        case rel => exact ⟨k + 1, by omega, by go_num, by rw [HT.out]; exact hFO.out.keep (Keep.ofExt (Ext.new _ _)), hx.al _⟩
        case measure => simp [intOf]; omega
    · obtain rfl : k = os.length := by omega
      rw [List.take_length] at hfo
      obtain ⟨av, cv, rfl⟩ := hfo.rdo.shape
      go_wp2_with fail
      go_ret
      exact ⟨_, rfl, hfo, hx⟩
end Go.Proofs.Ytgbbpibcmpeneaa
