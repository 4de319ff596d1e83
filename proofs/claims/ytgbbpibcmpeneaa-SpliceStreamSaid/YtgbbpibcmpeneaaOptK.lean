/-
  Proved here: slices of blocks as lists; what opts.Sacks computes.
-/
import Derived.Test.YtgbbpibcmpeneaaOptG
import Derived.Test.YtgbbpibcmpeneaaRegion
namespace Go.Proofs.Ytgbbpibcmpeneaa
set_option maxRecDepth 200000
open Go.ChangeShapes Go.WideShapes Go.ChangeAt Go.RowKit Go.Cul Go.Loose
set_option linter.unusedVariables false
attribute [local go_sem] Loose.Still Loose.Upon Loose.vUpon

abbrev Bk := Int × Int
def rowsB (bs : List Bk) : List Value := bs.flatMap fun x => [.int .u32 x.1, .int .u32 x.2]
theorem rowsB_len (bs : List Bk) : (rowsB bs).length = bs.length * 2 := by
  induction bs with
  | nil => rfl
  | cons x xs ih => simp only [rowsB, List.flatMap_cons, List.length_append, List.length_cons, List.length_nil] at ih ⊢; omega
theorem rowsB_at : ∀ (xs : List Bk) (i : Nat), i < xs.length → (rowsB xs)[i * 2]? = some (.int .u32 (xs.getD i (0, 0)).1) ∧ (rowsB xs)[i * 2 + 1]? = some (.int .u32 (xs.getD i (0, 0)).2)
  | [], i, h => by simp at h
  | x :: xs, 0, _ => by simp [rowsB]
  | x :: xs, i + 1, h => by
    have ih := rowsB_at xs i (by simpa using h)
    have e1 : (i + 1) * 2 = i * 2 + 2 := by omega
    rw [e1]
    simpa [rowsB] using ih
/-- A slice of blocks that reads as a list. -/
def RdB (w : World) (v : Value) (bs : List Bk) : Prop :=
  ∃ a cap, v = .slice a bs.length cap ∧ bs.length ≤ cap ∧ cap ≤ maxLen ∧
    (bs = [] ∨ ∃ b o, a = some ⟨b, o, none⟩ ∧ ∀ i, i < bs.length → w.cell? ⟨b, o + i * 2, none⟩ = some (.int .u32 (bs.getD i (0, 0)).1) ∧ w.cell? ⟨b, o + i * 2 + 1, none⟩ = some (.int .u32 (bs.getD i (0, 0)).2))
theorem RdB.ext {w w' : World} {v : Value} {bs : List Bk} (h : RdB w v bs) (hx : Ext w w') : RdB w' v bs := by
  obtain ⟨a, cap, rfl, h1, h2, h3⟩ := h
  refine ⟨a, cap, rfl, h1, h2, ?_⟩
  rcases h3 with h3 | ⟨b, o, rfl, h3⟩
  · exact .inl h3
  · exact .inr ⟨b, o, rfl, fun i hi => ⟨hx.cell (h3 i hi).1, hx.cell (h3 i hi).2⟩⟩
theorem RdB.shape {w : World} {v : Value} {bs : List Bk} (h : RdB w v bs) : ∃ a c, v = .slice a bs.length c := by obtain ⟨a, c, rfl, -, -, -⟩ := h; exact ⟨a, c, rfl⟩
/-- New memory that holds blocks. -/
def FrB (t : TypeId) (w : World) (base : Nat) (v : Value) (bs : List Bk) : Prop := w.ownsRow base t 2 v bs.length (rowsB bs)
theorem FrB.nil (t : TypeId) (w : World) (base : Nat) : FrB t w base (.slice none 0 0) [] := World.ownsRow_nil w base _ 2
theorem FrB.keep {t : TypeId} {w w' : World} {base : Nat} {v : Value} {bs : List Bk} (h : FrB t w base v bs) (hk : Keep base w w') : FrB t w' base v bs := by
  refine ⟨h.1, ?_⟩
  rcases h.2 with h0 | ⟨g, cap, cur, rfl, hb, hh, r⟩
  · exact .inl h0
  · exact .inr ⟨g, cap, cur, rfl, hb, hk g _ hb hh, r⟩
theorem FrB.rdb {t : TypeId} {w : World} {base : Nat} {v : Value} {bs : List Bk} (h : FrB t w base v bs) : RdB w v bs := by
  rcases h.2 with ⟨rfl, h0⟩ | ⟨g, cap, cur, rfl, hb, hh, hn, hm, hsz, htk⟩
  · have : bs = [] := List.eq_nil_of_length_eq_zero (by omega)
    subst this
    exact ⟨none, 0, rfl, Nat.le_refl _, by decide, .inl rfl⟩
  · refine ⟨_, cap, rfl, hn, hm, .inr ⟨g, 0, rfl, fun i hi => ?_⟩⟩
    obtain ⟨c0, c1⟩ := rowsB_at bs i hi
    have hget : ∀ j, j < bs.length * 2 → w.cell? ⟨g, 0 + j, none⟩ = (rowsB bs)[j]? := fun j hj => by
      rw [Nat.zero_add, cell_of_row w g j cur _ (0, 0) hh, ← htk, List.getElem?_take, if_pos hj]
      simp
    exact ⟨by rw [hget _ (by omega), c0], by rw [Nat.add_assoc, hget _ (by omega), c1]⟩
theorem FrB.low {t : TypeId} {w : World} {base base' : Nat} {v : Value} {bs : List Bk} (h : FrB t w base v bs) (hb : base' ≤ base) : FrB t w base' v bs := World.ownsRow.mono h hb
theorem FrB.block {t : TypeId} {w : World} {base : Nat} {v : Value} {bs : List Bk} (h : FrB t w base v bs) : ∀ j, v.ownBlock = some j → base ≤ j := fun j hj => (World.ownsRow.lt h j hj).1

/-- A type of blocks. -/
structure IB (ts t : TypeId) : Prop where
  hu : Try.prog.underlying ts = some (.slice t)
  hi : ∃ i, Try.prog.info? t = some i ∧ i.zero = some (.agg #[.int .u32 0, .int .u32 0]) ∧ i.size = 2 ∧ i.bytes = 8
theorem ib_of {ts t : TypeId} (h1 : Try.prog.underlying ts = some (.slice t)) (h : (Try.prog.info? t).map (fun i => (i.zero, i.size, i.bytes)) = some (some (.agg #[.int .u32 0, .int .u32 0]), 2, 8)) : IB ts t := by
  refine ⟨h1, ?_⟩
  cases hi : Try.prog.info? t with
  | none => rw [hi] at h; cases h
  | some i => rw [hi] at h; simp at h; exact ⟨i, rfl, h.1, h.2.1, h.2.2⟩

theorem run_appB {ts t : TypeId} (is : IB ts t) (w : World) (base : Nat) (ty : TypeId) (v : Value) (bs : List Bk) (h : FrB t w base v bs) (b1 : Nat) (x y : Int) (hbs : w.heap[b1]? = some (.cells #[.int .u32 x, .int .u32 y] t)) (hn : bs.length ≤ 100000) (hbase : base ≤ w.heap.size) :
    ∃ v' w', (Builtin.append_ #[ts, ts] ty #[v, .slice (some ⟨b1, 0, none⟩) 1 1]).run Try.prog w = .ok v' w' ∧ FrB t w' base v' (bs ++ [(x, y)]) ∧ w.grownBy w' v.ownBlock := by
  obtain ⟨i, hi, hz, hs, hb⟩ := is.hi
  obtain ⟨v', w', hrun, ho, hg, -, hat⟩ := run_append_own_at (P := Try.prog) w base ts ty t i _ 2 8 is.hu hi hz hs hb rfl (by decide) v bs.length (rowsB bs) h ⟨b1, 0, none⟩ 1 1 [.int .u32 x, .int .u32 y] rfl
    (fun j u hj => by
      rw [Addr.add_lit, Nat.zero_add, cell_blk hbs]
      match j, hj with
      | 0, hj => simpa using hj
      | 1, hj => simpa using hj
      | j + 2, hj => simp at hj) (fun u hx => by
      simp only [List.mem_cons, List.not_mem_nil, or_false] at hx
      rcases hx with rfl | rfl <;> rfl) (by unfold maxLen; omega) (by omega) hbase
  refine ⟨v', w', hrun, ?_, hg⟩
  have e1 : rowsB (bs ++ [(x, y)]) = rowsB bs ++ [.int .u32 x, .int .u32 y] := by simp [rowsB]
  unfold FrB
  rw [e1, List.length_append]
  exact ho
theorem pupon_appB {ts t : TypeId} (is : IB ts t) {w : World} {o : Oper} {a : Act} {K : Act → World → Prop} {E : List PanicEntry → World → Prop} (s x : Operand)
    (ho : o.op = .call { callee := .builtin .append, args := #[s, x], argTypes := #[ts, ts] }) (base : Nat) (v : Value) (bs : List Bk) (hs : a.eval s = v) (h : FrB t w base v bs) (b1 : Nat) (hx : a.eval x = .slice (some ⟨b1, 0, none⟩) 1 1)
    (m n : Int) (hbs : w.heap[b1]? = some (.cells #[.int .u32 m, .int .u32 n] t)) (hn : bs.length ≤ 100000) (hbase : base ≤ w.heap.size)
    (hc : ∀ v' w', FrB t w' base v' (bs ++ [(m, n)]) → w.grownBy w' v.ownBlock → K (a.put o.dst v') w') : First.pUpon Try.prog E o a K ((execOp a.eval o).run Try.prog w) := by
  obtain ⟨v', w', hrun, h2, h3⟩ := run_appB is w base o.type v bs h b1 m n hbs hn hbase
  unfold execOp
  simp only [ho, resolve, invoke, builtin, Sem.run_bind, Sem.run_pure, Result.andThen_ok, List.map_toArray, List.map_cons, List.map_nil, hs, hx, hrun, First.pUpon]
  exact hc v' w' h2 h3

/-- Data as blocks. -/
def bkAt (D : List Int) (i : Nat) : Bk := (be32 D (8 * i), be32 D (8 * i + 4))
def bks (D : List Int) : List Bk := (List.range (D.length / 8)).map (bkAt D)
def okS (n : Nat) : Bool := decide (0 < n) && (decide (n % 8 = 0) && decide (n ≤ 32))
def osacks (os : List Op1) : List Bk := bks (fndO (kl 5 okS) os)
theorem fnd_okS (os : List Op1) : (fndO (kl 5 okS) os).length % 8 = 0 ∧ (fndO (kl 5 okS) os).length ≤ 32 := by
  unfold fndO
  cases hf : os.find? (kl 5 okS) with
  | none => exact ⟨rfl, by decide⟩
  | some o =>
    have hp := List.find?_some hf
    unfold kl okS at hp
    simp at hp
    exact ⟨hp.2.2.1, hp.2.2.2⟩

theorem sacks1_any (n : Nat) (w : World) (hn : n ≤ maxLen) :
    Calls Try.prog 56 #[.int .i64 n] w fun e w' => e = .returned (.bool (okS n)) ∧ Ext w w' := by
  have hS : Hid (okS n = (decide (0 < n) && (decide (n % 8 = 0) && decide (n ≤ 32)))) := rfl
  unfold maxLen at hn
  by_cases h0 : 0 < n
  · rw [decide_eq_true h0, Bool.true_and] at hS
    have h0' : (0 : Int) < (n : Int) := by omega
    by_cases h8 : n % 8 = 0
    · rw [decide_eq_true h8, Bool.true_and] at hS
      have h8' : (n : Int) % 8 = 0 := by omega
      have h8b : Int.tmod (n : Int) 8 = 0 := by rw [Int.tmod_eq_emod_of_nonneg (by omega)]; exact h8'
      clear h0 h8
      go_enter Try.func56, Try.ntmps56
      go_wp2_with fail
      go_ret
      exact ⟨by rw [hS.out]; simp; omega, Ext.rfl' _⟩
    · rw [decide_eq_false h8, Bool.false_and] at hS
      have h8' : ((n : Int) % 8 == 0) = false := by simp; omega
      have h8b : (Int.tmod (n : Int) 8 == 0) = false := by rw [Int.tmod_eq_emod_of_nonneg (by omega)]; exact h8'
      go_enter Try.func56, Try.ntmps56
      go_wp2_with fail
      go_ret
      exact ⟨by rw [hS.out]; simp; try omega, Ext.rfl' _⟩
  · obtain rfl : n = 0 := by omega
    go_enter Try.func56, Try.ntmps56
    go_wp2_with fail
    go_ret
    exact ⟨by rw [hS.out]; rfl, Ext.rfl' _⟩

theorem bks_succ (D : List Int) (k : Nat) : (List.range (k + 1)).map (bkAt D) = (List.range k).map (bkAt D) ++ [bkAt D k] := by simp [List.range_succ]

/-- What Sacks' closure leaves. -/
def SQ (Bl : Nat) (D : List Int) (w1 : World) (e : Int) (w2 : World) : Prop := e = 0 ∧ ∃ v, w2.heap[Bl]? = some (.cells #[v] 109) ∧ FrB 112 w2 w1.heap.size v (bks D)

theorem ibO : IB 109 112 := ib_of (by kernel_rfl) (by kernel_rfl)

set_option maxHeartbeats 1000000 in
theorem sacks2_any (l : List Int) (hb : Byt l) (h8 : l.length % 8 = 0) (hn : l.length ≤ 32) (bu : Value) (w1 : World) (B Bl base : Nat) (hR : Rdr w1 B bu l 0) (ha : Away bu l base) (hBl : Bl < base) (hB : base ≤ B) (kl : w1.heap[Bl]? = some (.cells #[.slice none 0 0] 109)) :
    Calls Try.prog 58 #[rp B, .pointer (some ⟨Bl, 0, none⟩)] w1 fun x w2 => Mvs (fun k => k = B ∨ k = Bl) w1 w2 ∧ (∃ bv k, Rdr w2 B bv l k) ∧ (x = .returned (.tuple #[]) ∧ SQ Bl l w1 0 w2) := by
  have HB := Lib.hid hb
  have HA := Lib.hid ha
  have hBs := lt_of_block hR.blk
  have hrd0 := hR.rd
  have hBls := lt_of_block kl
  have hs8 : Hid (l.length % 8 = 0) := h8
  clear hb ha h8
  go_enter Try.func58, Try.ntmps58
  go_wp2_with fail
  go_loopw [3] (fun _ wr => ∃ (j : Nat) (v : Value), 8 * j ≤ l.length ∧ Rdr wr B bu l (8 * j) ∧ wr.heap[Bl]? = some (.cells #[v] 109) ∧ FrB 112 wr w1.heap.size v ((List.range j).map (bkAt l)) ∧ Mvs (fun k => k = B ∨ k = Bl) w1 wr) (fun _ wr => 33 - rdAt wr B)
  case atStart => exact ⟨0, _, Nat.zero_le _, hR, kl, FrB.nil _ _ _, Mvs.refl _ _⟩
  case round =>
    obtain ⟨j, v, hj, hR, kl, hfo, hm⟩ := hrel
    have hrk := rdAt_of hR
    obtain ⟨p, hp⟩ : ∃ p : Nat, Hid (p = 8 * j) := ⟨_, rfl⟩
    rw [← hp.out] at hR hj hrk
    go_wp2_with fail
    refine (left_open B _ l p _ hR).mono ?_
    rintro e w2 ⟨rfl, hx2⟩
    have hR := hR.ext hx2
    have kl := hx2.block kl
    have hfo := hfo.keep (Keep.ofExt hx2)
    have hm := hm.tr (Mvs.ofExt hx2)
    clear hx2
    by_cases hlt : p < l.length
    · have h8l : p + 8 ≤ l.length := by have := hs8.out; have := hp.out; omega
      have hl0 : (0 : Int) < (l.length : Int) - p := by omega
      go_wp2_with fail
      refine (u32_ok B _ l p HB.out (by omega) _ hR).mono ?_
      rintro e w3 ⟨rfl, hR, hmv⟩
      have kl := (Mvs.ofMv (S := fun j => j = B) hmv rfl).keep kl (by omega)
      have hfo := hfo.keep (Keep.ofMvs (Mvs.ofMv (S := fun j => j = B) hmv rfl) (fun j hj => by omega))
      have hm := hm.tr (Mvs.ofMv hmv (.inl rfl))
      clear hmv
      go_upto_region 2 with (fail)
      obtain ⟨av, cv, hve⟩ := hfo.rdb.shape
      have hjl : ∀ j : Nat, ((List.range j).map (bkAt l)).length = j := fun j => by simp
      rw [hjl] at hve
      subst hve
      refine First.wp_region_looks 3 7 (fun w' => w'.heap[Bl]? = some (.cells #[.slice av j cv] 109)) (fun _ _ => False) ?_ (fun w' h => Ext.block h kl) (by kernel_rfl) (by kernel_rfl) (by kernel_rfl) ?_
      · exact fun _ _ _ _ h => h.elim
      intro wd hwd
      simp only [List.take, List.drop]
      apply First.wpH_some rfl
      · intro w' hw'; have q := cell_blk hw' 0; simp at q; go_simp; exact rfl
      intro K hK; go_simp; refine hK _ ?_; clear hK K
      iterate 2
        apply First.wpH_some rfl
        · intro w' hw'; go_simp; exact rfl
        intro K hK; go_simp; refine hK _ ?_; clear hK K
      refine First.wpH_nil ?_
      apply First.wpI_step rfl
      intro K hK
      go_simp
      refine (u32_ok B _ l (p + 4) HB.out (by omega) _ (hR.ext hwd)).mono ?_
      rintro e w5 ⟨rfl, hR5, hmv⟩
      have kl5 := (Mvs.ofMv (S := fun j => j = B) hmv rfl).keep (Ext.block hwd kl) (by omega)
      have hfo5 := hfo.keep ((Keep.ofMvs (Mvs.ofMv (S := fun j => j = B) ((Mv.ofExt (B := B) hwd).tr hmv) rfl) (fun j hj => by omega)) : Keep w1.heap.size w3 w5)
      have hm5 := hm.tr (Mvs.ofMv ((Mv.ofExt (B := B) hwd).tr hmv) (.inl rfl))
      refine .inl ⟨_, rfl, hK _ _ (fun _ => kl5) ?_⟩
      clear hK K hmv
      apply First.wpI_step rfl
      intro K hK
      go_simp
      refine hK _ _ (fun _ => kl5) ?_
      clear hK K
      apply First.wpI_step rfl
      intro K hK
      go_simp
      refine hK _ _ (fun _ => Ext.block (Ext.new _ _) kl5) ?_
      clear hK K
      apply First.wpI_step rfl
      intro K hK
      refine pupon_appB ibO (.tmp 9) (.tmp 14) (by rfl) w1.heap.size (.slice av j cv) ((List.range j).map (bkAt l)) (by rfl) (hfo5.keep (Keep.ofExt (Ext.new _ _))) w5.heap.size (by rfl) (be32 l p) (be32 l (p + 4)) (heap_alloc_new _ _) (by have := hp.out; simp; omega) (Nat.le_trans hm5.size (Ext.new _ _).size) (fun v' w6 q1 q2 => ?_)
      have q3 := hfo5.block
      have hBlo : some Bl ≠ Value.ownBlock (.slice av j cv) := fun he => by have := q3 _ he.symm; omega
      have hBo : some B ≠ Value.ownBlock (.slice av j cv) := fun he => by have := q3 _ he.symm; omega
      have kl6 := (q2.block Bl (by have := (Ext.new w5 (.cells #[.int .u32 (be32 l p), .int .u32 (be32 l (p + 4))] 112)).size; have := hm5.size; omega) hBlo).trans (Ext.block (Ext.new _ _) kl5)
      have hm6 := mvs_grown (hm5.tr (Mvs.ofExt (Ext.new _ _))) q2 q3
      have hR6 : Rdr w6 B bu l (p + 4 + 4) := by
        have hRa := hR5.ext (Ext.new w5 (.cells #[.int .u32 (be32 l p), .int .u32 (be32 l (p + 4))] 112))
        refine ⟨(q2.block B (lt_of_block hRa.blk) hBo).trans hRa.blk, ?_, hRa.le, hRa.bound⟩
        exact rd_grown hrd0 hRa.rd q2 q3
      refine hK _ _ (fun _ => kl6) ?_
      clear hK K q2
      have hbe : (List.range j).map (bkAt l) ++ [(be32 l p, be32 l (p + 4))] = (List.range (j + 1)).map (bkAt l) := by rw [bks_succ]; unfold bkAt; rw [hp.out]
      rw [hbe] at q1
      obtain ⟨a6, c6, hve⟩ := q1.rdb.shape
      rw [hjl] at hve
      subst hve
      have hbl := cell_blk kl6 0
      simp at hbl
      have hfz := fz_blk kl6
      apply First.wpI_step rfl
      intro K hK
      go_simp
      refine hK _ _ (fun h => absurd rfl h) ?_
      clear hK K
      refine First.wpI_nil ?_
      simp only [Act.put]
      have kl7 := set_blk kl6 0 (.slice a6 (j + 1) c6)
      simp only [List.setIfInBounds_toArray, List.set_cons_zero] at kl7
      have hms : Mvs (fun j => j = Bl) w6 (w6.setCell ⟨Bl, 0, none⟩ (.slice a6 (j + 1) c6)) := Mvs.set _ _ _ rfl
      have hR7 := hR6.mvs hms (by omega) HA.out (fun j hj => by omega)
      have hfo7 := q1.keep (Keep.ofMvs hms (fun j hj => by omega))
      have hm7 := hm6.tr (hms.mono (fun j _ hj => .inr hj))
      clear hms hR6 q1 hm6 hbl hfz kl6 hbe hjl
      generalize w6.setCell ⟨Bl, 0, none⟩ (.slice a6 (j + 1) c6) = w7 at *
      have hr7 := rdAt_of hR7
      go_wp2_with fail
      go_roundw
      case rel => exact ⟨j + 1, _, by have := hp.out; omega, by rw [show 8 * (j + 1) = p + 4 + 4 from by have := hp.out; omega]; exact hR7, kl7, hfo7, hm7⟩
      case measure => omega
    · obtain rfl : p = l.length := by omega
      have hfin : Hid ((List.range j).map (bkAt l) = bks l) := by unfold Hid bks; rw [hp.out]; congr 2; omega
      have hl0 : ¬ (0 : Int) < (l.length : Int) - (l.length : Int) := by omega
      go_wp2_with fail
      exact ⟨rfl, _, by simp [results, Try.results58], hm, ⟨_, _, hR⟩, rfl, rfl, v, kl, by rw [← hfin.out]; exact hfo⟩

theorem osacks_any (v : Value) (os : List Op1) (w : World) (hv : RdO w v os) (hb : BytO os) :
    Calls Try.prog 52 #[v] w fun e w' => ∃ u, e = .returned u ∧ FrB 112 w' w.heap.size u (osacks os) ∧ Ext w w' := by
  have hF := find_any 56 #[] 5 okS v os w hv (fun _ _ => by simp [go_sem]) (fun n w' hn hx => sacks1_any n w' hn)
  have hby := fndO_byt (p := kl 5 okS) hb
  have hln := fnd_okS os
  obtain ⟨a, c, rfl⟩ := hv.shape
  have hS : Hid (osacks os = bks (fndO (kl 5 okS) os)) := rfl
  generalize fndO (kl 5 okS) os = D at *
  have HF := Lib.hid hF
  have HBY := Lib.hid hby
  clear hF hby hv hb
  go_enter Try.func52, Try.ntmps52
  go_wp2_with fail
  refine HF.out.mono ?_
  rintro e w0 ⟨u, rfl, hu, hx0⟩
  obtain ⟨au, nu, cu, rfl⟩ := hu.shape
  have hu0 := hu
  clear hu
  generalize os.any (kl 5 okS) = q at *
  go_wp2_with fail
  generalize hW : w0.alloc _ = W
  have hxW : Ext w0 W := by rw [← hW]; exact Ext.new _ _
  have kl : W.heap[w0.heap.size]? = some (.cells #[.slice none 0 0] 109) := by rw [← hW]; exact heap_alloc_new _ _
  have hsW : w0.heap.size < W.heap.size := by rw [← hW]; simp
  clear hW
  refine (read_cl 58 _ _ D W (hu0.ext hxW) (by omega) (fun k => k = w0.heap.size) (by omega) (SQ w0.heap.size D) (fun _ _ => by simp [go_sem]) ?_).mono ?_
  · intro B bu w1 hx1 hB hR hA
    refine (sacks2_any D HBY.out hln.1 hln.2 bu w1 B w0.heap.size W.heap.size hR hA hsW hB (hx1.block kl)).mono ?_
    rintro x w2 ⟨h1, h2, h3⟩
    exact ⟨h1, h2, .inl h3⟩
  rintro x w' ⟨e, w1, w2, rfl, hx1, ⟨he, hq⟩, hout, hm⟩
  have hxw : Ext w0 w' := hm.ext hxW (by omega)
  have hs1 := hx1.size
  have hs0 := hx0.size
  obtain ⟨v, k2, hfo⟩ := hq
  have k2' := (hout.block _ (lt_of_block k2) (.inl (by omega))).trans k2
  have hfo' := hfo.keep (Keep.ofOut hout (Nat.le_refl _))
  obtain ⟨av, cv, rfl⟩ := hfo'.rdb.shape
  have c0 := cell_blk k2' 0
  simp at c0
  have hlow := hfo'.low (base' := w.heap.size) (by omega)
  clear hout hm k2 hfo kl
  go_wp2_with fail
  go_ret
  exact ⟨_, rfl, by rw [hS.out]; exact hlow, hx0.tr hxw⟩
end Go.Proofs.Ytgbbpibcmpeneaa
