/-
  Proved here: what opts.Parse computes. Condition: at most 2^47 bytes.
-/
import Derived.Test.YtbaidlkjbdeceaaGreatOptsP
import Derived.Test.YtbaidlkjbdeceaaGreatLibs
import Derived.Test.YtbaidlkjbdeceaaGreatRegion
import Derived.Deep.Cut
namespace Go.Proofs.YtbaidlkjbdeceaaGreat
set_option maxRecDepth 200000
open Go.ChangeShapes Go.WideShapes Go.ChangeAt Go.RowKit Go.Cul Go.Loose
set_option linter.unusedVariables false
attribute [local go_sem] Loose.Still Loose.Upon Loose.vUpon First.pUpon

theorem nz1_any (c : Int) (w : World) : Calls Tryz.prog 98 #[.int .u8 c] w fun e w' => e = .returned (.bool (!(c == 0))) ∧ Ext w w' := by
  go_enter Tryz.func98, Tryz.ntmps98
  go_wp2_with fail
  go_ret
  exact ⟨rfl, Ext.rfl' _⟩

theorem nz_ix (v : Value) (l : List Int) (w : World) (hv : Rd .u8 w v l) : Calls Tryz.prog 103 #[v, .func (.func 98) #[] #[]] w fun e w' => ∃ i : Int, e = .returned (.int .i64 i) ∧ decide (0 ≤ i) = !(l.all (· == 0)) ∧ Ext w w' := by
  obtain ⟨a, c, rfl, hc1, hc2, hr⟩ := hv
  have HR := Lib.hid hr
  clear hr
  have hm := hc2
  unfold maxLen at hm
  go_enter Tryz.func103, Tryz.ntmps103
  go_wp2_with fail
  go_loopw [8] (fun i wr => ∃ k : Nat, k ≤ l.length ∧ i = .int .i64 k ∧ Hid ((l.take k).all (· == 0) = true) ∧ Ext w wr) (fun i _ => l.length - (intOf i).toNat)
  case atStart => exact ⟨0, Nat.zero_le _, rfl, rfl, Ext.rfl' w⟩
  case round =>
    obtain ⟨k, hk, rfl, hpre, hx⟩ := hrel
    by_cases hlt : k < l.length
    · rcases HR.out with h0 | ⟨b, o, rfl, hrw⟩
      · rw [h0] at hlt; simp at hlt
      have e0 := hx.cell (hrw k hlt)
      clear hrw
      have ht := take_succ_getD l k hlt
      have hat : (l.getD k 0 == 0) = false → Hid (l.all (· == 0) = false) := fun h => by
        unfold Hid
        rw [List.all_eq_false]
        exact ⟨l[k], List.getElem_mem hlt, by simpa [List.getD, hlt] using h⟩
      have hnx : (l.getD k 0 == 0) = true → Hid ((l.take (k + 1)).all (· == 0) = true) := fun h => by
        unfold Hid
        rw [ht, List.all_append, hpre.out]
        simpa using h
      generalize l.getD k 0 = x at *
      have HA := Lib.hid hat
      have HX := Lib.hid hnx
      have hc := fun w => nz1_any x w
      clear hat hnx ht
      rcases hp : (x == 0) with _ | _
      · have hx2 := HA.out hp
        rw [hp] at hc
        have HCL := Lib.hid hc
        clear hc hp HA HX
        go_wp2_with fail
        refine (HCL.out _).mono ?_
        rintro e w1 ⟨rfl, hx1⟩
        go_wp2_with fail
        go_ret
        exact ⟨k, rfl, by rw [hx2.out]; simp, hx.tr hx1⟩
      · have hx2 := HX.out hp
        rw [hp] at hc
        have HCL := Lib.hid hc
        clear hc hp HA HX
        go_wp2_with fail
        refine (HCL.out _).mono ?_
        rintro e w1 ⟨rfl, hx1⟩
        go_wp2_with fail
        go_roundw
        case rel => exact ⟨k + 1, by omega, by go_num, hx2, hx.tr hx1⟩
        case measure => simp [intOf]; omega
    · obtain rfl : k = l.length := by omega
      have hx2 : Hid (l.all (· == 0) = true) := by have := hpre.out; rw [List.take_length] at this; exact this
      go_wp2_with fail
      go_ret
      exact ⟨-1, rfl, by rw [hx2.out]; rfl, hx⟩

theorem nz_any (v : Value) (l : List Int) (w : World) (hv : Rd .u8 w v l) : Calls Tryz.prog 97 #[v, .func (.func 98) #[] #[]] w fun e w' => e = .returned (.bool (!(l.all (· == 0)))) ∧ Ext w w' := by
  have hc := nz_ix v l w hv
  obtain ⟨a, n, c, rfl⟩ := hv.shape
  have HC := Lib.hid hc
  clear hc
  go_enter Tryz.func97, Tryz.ntmps97
  go_wp2_with fail
  refine HC.out.mono ?_
  rintro e w1 ⟨i, rfl, hi, hx1⟩
  have hi := Lib.hid hi
  go_wp2_with fail
  go_ret
  exact ⟨by rw [← hi.out]; rfl, hx1⟩

/-- What is in blocks from base on is kept. -/
def Keep (base : Nat) (w w' : World) : Prop := ∀ g o, base ≤ g → w.heap[g]? = some o → w'.heap[g]? = some o
theorem Keep.ofExt {base : Nat} {w w' : World} (h : Ext w w') : Keep base w w' := fun g o _ hg => h.block hg
theorem Keep.ofMvs {S : Nat → Prop} {base : Nat} {w w' : World} (h : Mvs S w w') (hS : ∀ k, S k → k < base) : Keep base w w' := fun g o hb hg => h.keep hg (fun hs => by have := hS g hs; omega)
theorem Keep.ofOut {base : Nat} {w w1 w2 w' : World} (h : Out w w1 w2 w') (hb : w1.heap.size ≤ base) : Keep base w2 w' := fun g o hg hh => (h.block g (lt_of_block hh) (.inr (Nat.le_trans hb hg))).trans hh
theorem Own.keep {base : Nat} {w w' : World} {e : TypeId} {k : IntKind} {v : Value} {l : List Int} (h : Own w base e k v l) (hk : Keep base w w') : Own w' base e k v l := by
  refine ⟨h.1, ?_⟩
  rcases h.2 with h0 | ⟨g, cap, cur, rfl, hb, hh, r⟩
  · exact .inl h0
  · exact .inr ⟨g, cap, cur, rfl, hb, hk g _ hb hh, r⟩
theorem Fr.keep {base : Nat} {w w' : World} {e : TypeId} {k : IntKind} {v : Value} {l : List Int} (h : Fr w base e k v l) (hk : Keep base w w') : Fr w' base e k v l := by
  rcases h with h | h
  · exact .inl (Own.keep h hk)
  · exact .inr h

/-- The cells of options whose data are there. -/
def rowsO (xs : List (Op1 × Value)) : List Value := xs.flatMap fun x => [.int .u8 x.1.1, x.2]
theorem rowsO_len (xs : List (Op1 × Value)) : (rowsO xs).length = xs.length * 2 := by
  induction xs with
  | nil => rfl
  | cons x xs ih => simp only [rowsO, List.flatMap_cons, List.length_append, List.length_cons, List.length_nil] at *; omega
theorem rowsO_at : ∀ (xs : List (Op1 × Value)) (i : Nat), i < xs.length → (rowsO xs)[i * 2]? = some (.int .u8 (xs.getD i ((0, []), undef)).1.1) ∧ (rowsO xs)[i * 2 + 1]? = some (xs.getD i ((0, []), undef)).2
  | x :: xs, 0, _ => by simp [rowsO]
  | x :: xs, i + 1, h => by
    have ih := rowsO_at xs i (by simpa using h)
    have e1 : (i + 1) * 2 = i * 2 + 2 := by omega
    rw [e1]
    simpa [rowsO] using ih
/-- New memory that holds options, their data in new memory. -/
def FrO (w : World) (base : Nat) (v : Value) (os : List Op1) : Prop := ∃ xs : List (Op1 × Value), xs.map (·.1) = os ∧ w.ownsRow base 48 2 v xs.length (rowsO xs) ∧ ∀ x ∈ xs, Fr w base 5 .u8 x.2 x.1.2

theorem FrO.nil (w : World) (base : Nat) : FrO w base (.slice none 0 0) [] := ⟨[], rfl, World.ownsRow_nil w base _ 2, fun x h => by cases h⟩
theorem FrO.keep {w w' : World} {base : Nat} {v : Value} {os : List Op1} (h : FrO w base v os) (hk : Keep base w w') : FrO w' base v os := by
  obtain ⟨xs, h1, h2, h3⟩ := h
  refine ⟨xs, h1, ⟨h2.1, ?_⟩, fun x hx => Fr.keep (h3 x hx) hk⟩
  rcases h2.2 with h0 | ⟨g, cap, cur, rfl, hb, hh, r⟩
  · exact .inl h0
  · exact .inr ⟨g, cap, cur, rfl, hb, hk g _ hb hh, r⟩
theorem FrO.rdo {w : World} {base : Nat} {v : Value} {os : List Op1} (h : FrO w base v os) : RdO w v os := by
  obtain ⟨xs, rfl, h2, h3⟩ := h
  rcases h2.2 with ⟨rfl, h0⟩ | ⟨g, cap, cur, rfl, hb, hh, hn, hm, hsz, htk⟩
  · have : xs = [] := List.eq_nil_of_length_eq_zero (by omega)
    subst this
    exact RdO.nil w
  · refine ⟨_, cap, by rw [List.length_map], by rw [List.length_map]; exact hn, hm, .inr ⟨g, 0, rfl, fun i hi => ?_⟩⟩
    rw [List.length_map] at hi
    obtain ⟨c0, c1⟩ := rowsO_at xs i hi
    have hget : ∀ j, j < xs.length * 2 → w.cell? ⟨g, 0 + j, none⟩ = (rowsO xs)[j]? := fun j hj => by
      rw [Nat.zero_add, cell_of_row w g j cur _ (0, 0) hh, ← htk, List.getElem?_take, if_pos hj]
      simp
    have hx : (xs.map (·.1)).getD i (0, []) = (xs.getD i ((0, []), undef)).1 := by simp [List.getD, hi]
    refine ⟨(xs.getD i ((0, []), undef)).2, ?_, ?_, ?_⟩
    · rw [hget _ (by omega), c0, hx]
    · rw [Nat.add_assoc, hget _ (by omega), c1]
    · rw [hx]
      exact (h3 _ (by simp [List.getD, hi])).rd

theorem info_opt : ∃ i, Tryz.prog.info? 48 = some i ∧ i.zero = some (.agg #[.int .u8 0, .slice none 0 0]) ∧ i.size = 2 ∧ i.bytes = 32 := by
  have h : (Tryz.prog.info? 48).map (fun i => (i.zero, i.size, i.bytes)) = some (some (.agg #[.int .u8 0, .slice none 0 0]), 2, 32) := by kernel_rfl
  cases hi : Tryz.prog.info? 48 with
  | none => rw [hi] at h; cases h
  | some i => rw [hi] at h; simp at h; exact ⟨i, rfl, h.1, h.2.1, h.2.2⟩
theorem under_opts : Tryz.prog.underlying 27 = some (.slice 48) := by kernel_rfl

theorem fr_grown {w w' : World} {base : Nat} {v u : Value} {n : Nat} {xs : List Value} {l : List Int} (hown : w.ownsRow base 48 2 v n xs) (hg : w.grownBy w' v.ownBlock) (hu : Fr w base 5 .u8 u l) : Fr w' base 5 .u8 u l := by
  rcases hu with hu | hu
  · left
    refine ⟨hu.1, ?_⟩
    rcases hu.2 with h0 | ⟨g, cap, cur, rfl, hb, hh, r⟩
    · exact .inl h0
    · refine .inr ⟨g, cap, cur, rfl, hb, (hg.block g (lt_of_block hh) ?_).trans hh, r⟩
      rcases hown.2 with ⟨rfl, _⟩ | ⟨g', cap', cur', rfl, _, hh', _⟩
      · simp [Value.ownBlock]
      · intro he
        simp [Value.ownBlock] at he
        subst he
        rw [hh] at hh'
        cases hh'
  · exact .inr hu

theorem run_appO (w : World) (base : Nat) (ty : TypeId) (v : Value) (os : List Op1) (h : FrO w base v os) (bs : Nat) (k : Int) (u : Value) (l : List Int) (hu : Fr w base 5 .u8 u l) (hbs : w.heap[bs]? = some (.cells #[.int .u8 k, u] 48)) (hn : os.length ≤ 100000) (hbase : base ≤ w.heap.size) :
    ∃ v' w', (Builtin.append_ #[27, 27] ty #[v, .slice (some ⟨bs, 0, none⟩) 1 1]).run Tryz.prog w = .ok v' w' ∧ FrO w' base v' (os ++ [(k, l)]) ∧ w.grownBy w' v.ownBlock ∧ (v'.ownBlock = v.ownBlock ∨ v'.ownBlock = some w.heap.size) ∧ (∀ j, v.ownBlock = some j → base ≤ j) := by
  obtain ⟨xs, rfl, h2, h3⟩ := h
  obtain ⟨i, hi, hz, hs, hb⟩ := info_opt
  obtain ⟨a, n, c, rfl⟩ := hu.rd.shape
  rw [List.length_map] at hn
  obtain ⟨v', w', hrun, ho, hg, -, hat⟩ := run_append_own_at (P := Tryz.prog) w base 27 ty 48 i _ 2 32 under_opts hi hz hs hb rfl (by decide) v xs.length (rowsO xs) h2 ⟨bs, 0, none⟩ 1 1 [.int .u8 k, .slice a n c] rfl
    (fun j x hj => by
      rw [Addr.add_lit, Nat.zero_add, cell_blk hbs]
      match j, hj with
      | 0, hj => simpa using hj
      | 1, hj => simpa using hj
      | j + 2, hj => simp at hj) (fun x hx => by
      simp only [List.mem_cons, List.not_mem_nil, or_false] at hx
      rcases hx with rfl | rfl <;> rfl) (by unfold maxLen; omega) (by omega) hbase
  refine ⟨v', w', hrun, ⟨xs ++ [((k, l), .slice a n c)], by simp, ?_, fun x hx => ?_⟩, hg, hat, ?_⟩
  · have e1 : rowsO (xs ++ [((k, l), .slice a n c)]) = rowsO xs ++ [.int .u8 k, .slice a n c] := by simp [rowsO]
    rw [e1, List.length_append]
    exact ho
  · rcases List.mem_append.1 hx with hx | hx
    · exact fr_grown h2 hg (h3 x hx)
    · obtain rfl : x = _ := by simpa using hx
      exact fr_grown h2 hg hu
  · intro j hj
    exact (World.ownsRow.lt h2 j hj).1

theorem pupon_appO {w : World} {o : Oper} {a : Act} {K : Act → World → Prop} {E : List PanicEntry → World → Prop} (s x : Operand)
    (ho : o.op = .call { callee := .builtin .append, args := #[s, x], argTypes := #[27, 27] }) (base : Nat) (v : Value) (os : List Op1) (hs : a.eval s = v) (h : FrO w base v os) (bs : Nat) (hx : a.eval x = .slice (some ⟨bs, 0, none⟩) 1 1)
    (k : Int) (u : Value) (l : List Int) (hu : Fr w base 5 .u8 u l) (hbs : w.heap[bs]? = some (.cells #[.int .u8 k, u] 48)) (hn : os.length ≤ 100000) (hbase : base ≤ w.heap.size)
    (hc : ∀ v' w', FrO w' base v' (os ++ [(k, l)]) → w.grownBy w' v.ownBlock → (∀ j, v.ownBlock = some j → base ≤ j) → K (a.put o.dst v') w') : First.pUpon Tryz.prog E o a K ((execOp a.eval o).run Tryz.prog w) := by
  obtain ⟨v', w', hrun, h2, h3, -, h5⟩ := run_appO w base o.type v os h bs k u l hu hbs hn hbase
  unfold execOp
  simp only [ho, resolve, invoke, builtin, Sem.run_bind, Sem.run_pure, Result.andThen_ok, List.map_toArray, List.map_cons, List.map_nil, hs, hx, hrun, First.pUpon]
  exact hc v' w' h2 h3 h5

theorem mvs_grown {S : Nat → Prop} {W w w' : World} {r : Option Nat} (hm : Mvs S W w) (hg : w.grownBy w' r) (hr : ∀ j, r = some j → W.heap.size ≤ j) : Mvs S W w' :=
  ⟨hg.os.trans hm.os, hg.tape.trans hm.tape, hg.output.trans hm.output, Nat.le_trans hm.size hg.size, fun k hk hS => (hg.block k (Nat.lt_of_lt_of_le hk hm.size) (fun e => by have := hr k e.symm; omega)).trans (hm.block k hk hS)⟩

theorem rd_grown {k : IntKind} {w0 w w' : World} {r : Option Nat} {v : Value} {l : List Int} (h0 : Rd k w0 v l) (h : Rd k w v l) (hg : w.grownBy w' r) (hr : ∀ j, r = some j → w0.heap.size ≤ j) : Rd k w' v l := by
  obtain ⟨a, cap, rfl, h1, h2, h3⟩ := h
  refine ⟨a, cap, rfl, h1, h2, ?_⟩
  rcases h3 with h3 | ⟨b, o, rfl, h3⟩
  · exact .inl h3
  · obtain ⟨a', cap', he, -, -, h4⟩ := h0
    cases he
    rcases h4 with h4 | ⟨b', o', he, h4⟩
    · exact .inl h4
    · cases he
      refine .inr ⟨b, o, rfl, fun i hi => ?_⟩
      have hlt := lt_of_cell (h4 i hi)
      have hc := h3 i hi
      rw [World.cell?_of_block (w := w) (hg.block b (lt_of_cell hc) (fun e => by have := hr b e.symm; dsimp only at hlt; omega))]
      exact hc

/-- What Parse's closure leaves. -/
def OQ (Bl : Nat) (l : List Int) (w1 : World) (e : Int) (w2 : World) : Prop := e = (opS l).2 ∧ (e = 0 → ∃ v, w2.heap[Bl]? = some (.cells #[v] 27) ∧ FrO w2 w1.heap.size v (opS l).1)

/-- How far a reader has read. -/
def rdAt (w : World) (B : Nat) : Nat := match w.cell? ⟨B, 1, none⟩ with | some (.int _ n) => n.toNat | _ => 0
theorem rdAt_of {w : World} {B : Nat} {bv : Value} {l : List Int} {k : Nat} (h : Rdr w B bv l k) : rdAt w B = k := by unfold rdAt; rw [h.c1]; simp
theorem drop_cons {l : List Int} {k : Nat} (h : k < l.length) : l.drop k = l.getD k 0 :: l.drop (k + 1) := by rw [List.drop_eq_getElem_cons h]; simp [List.getD, h]

set_option maxHeartbeats 1000000 in
set_option maxRecDepth 100000 in
theorem oparse1_any (l : List Int) (hb : Byt l) (hn : l.length ≤ 40) (bu : Value) (w1 : World) (B Bl base : Nat) (hR : Rdr w1 B bu l 0) (ha : Away bu l base) (hBl : Bl < base) (hB : base ≤ B) (kl : w1.heap[Bl]? = some (.cells #[.slice none 0 0] 27)) :
    Calls Tryz.prog 96 #[rp B, .pointer (some ⟨Bl, 0, none⟩)] w1 fun x w2 => Mvs (fun k => k = B ∨ k = Bl) w1 w2 ∧ (∃ bv k, Rdr w2 B bv l k) ∧ ((x = .returned (.tuple #[]) ∧ OQ Bl l w1 0 w2) ∨ ∃ e, x = .panicked [{ v := gone B e, recovered := false }] ∧ OQ Bl l w1 e w2) := by
  have HB := Lib.hid hb
  have HA := Lib.hid ha
  have hBs := lt_of_block hR.blk
  have hrd0 := hR.rd
  have hBls := lt_of_block kl
  clear hb ha
  go_enter Tryz.func96, Tryz.ntmps96
  go_wp2
  go_step3
  go_wp2
  go_step3
  go_wp2_with fail
  go_loopw [3] (fun _ wr => ∃ (k : Nat) (v : Value) (acc : List Op1), k ≤ l.length ∧ acc.length ≤ k ∧ Rdr wr B bu l k ∧ wr.heap[Bl]? = some (.cells #[v] 27) ∧ FrO wr w1.heap.size v acc ∧ Mvs (fun k => k = B ∨ k = Bl) w1 wr ∧ Hid (opS l = (acc ++ (opS (l.drop k)).1, (opS (l.drop k)).2))) (fun _ wr => 41 - rdAt wr B)
  case atStart => exact ⟨0, _, [], Nat.zero_le _, Nat.zero_le _, hR, kl, FrO.nil _ _, Mvs.refl _ _, (show opS l = ([] ++ (opS (l.drop 0)).1, (opS (l.drop 0)).2) by simp)⟩
  case round =>
    obtain ⟨k, v, acc, hk, hac, hR, kl, hfo, hm, hop⟩ := hrel
    have hrk := rdAt_of hR
    go_wp2_with fail
    refine (left_open B _ l k _ hR).mono ?_
    rintro e w2 ⟨rfl, hx2⟩
    have hR := hR.ext hx2
    have kl := hx2.block kl
    have hfo := hfo.keep (Keep.ofExt hx2)
    have hm := hm.tr (Mvs.ofExt hx2)
    clear hx2
    by_cases hlt : k < l.length
    · have hd := drop_cons hlt
      have hl0 : (0 : Int) < (l.length : Int) - k := by omega
      go_wp2_with fail
      refine (u8_ok B _ l k (by omega) _ hR).mono ?_
      rintro e w3 ⟨rfl, hR, hmv⟩
      have kl := (Mvs.ofMv (S := fun j => j = B) hmv rfl).keep kl (by omega)
      have hfo := hfo.keep (Keep.ofMvs (Mvs.ofMv (S := fun j => j = B) hmv rfl) (fun j hj => by omega))
      have hm := hm.tr (Mvs.ofMv hmv (.inl rfl))
      clear hmv
      have hkd := (HB.out.at k)
      generalize l.getD k 0 = kd at *
      rcases (by omega : kd = 0 ∨ kd = 1 ∨ (kd ≠ 0 ∧ kd ≠ 1)) with rfl | rfl | ⟨hk0, hk1⟩
      · have hop1 : Hid (opS l = (acc, if (l.drop (k + 1)).all (· == 0) then 0 else 5)) := by unfold Hid; rw [hop.out, hd, opS_zero]; simp
        clear hd hkd
        go_wp2_with fail
        refine (rest_ok B _ l (k + 1) _ hR).mono ?_
        rintro e w4 ⟨u, rfl, hu, hR, hmv⟩
        have kl := (Mvs.ofMv (S := fun j => j = B) hmv rfl).keep kl (by omega)
        have hfo := hfo.keep (Keep.ofMvs (Mvs.ofMv (S := fun j => j = B) hmv rfl) (fun j hj => by omega))
        have hm := hm.tr (Mvs.ofMv hmv (.inl rfl))
        have hz := nz_any u _ _ hu.rd
        obtain ⟨au, nu, cu, rfl⟩ := hu.rd.shape
        clear hmv hu
        rcases hall : (l.drop (k + 1)).all (· == 0) with _ | _
        · rw [hall] at hop1 hz
          have HZ := Lib.hid hz
          clear hz hall
          go_wp2_with fail
          refine HZ.out.mono ?_
          rintro e w5 ⟨rfl, hx5⟩
          go_wp2_with fail
          refine (fail_open B _ l _ 5 (by decide) _ (hR.ext hx5)).mono ?_
          rintro e w6 ⟨rfl, hx6⟩
          exact ⟨rfl, hm.tr (Mvs.ofExt (Ext.tr hx5 hx6)), ⟨_, _, (hR.ext hx5).ext hx6⟩, .inr ⟨5, rfl, by rw [hop1.out]; rfl, fun h => absurd h (by decide)⟩⟩
        · rw [hall] at hop1 hz
          have HZ := Lib.hid hz
          clear hz hall
          go_wp2_with fail
          refine HZ.out.mono ?_
          rintro e w5 ⟨rfl, hx5⟩
          go_wp2_with fail
          exact ⟨rfl, _, by simp [results, Tryz.results96], hm.tr (Mvs.ofExt hx5), ⟨_, _, hR.ext hx5⟩, .inl ⟨rfl, by rw [hop1.out]; rfl, fun _ => ⟨v, hx5.block kl, by rw [hop1.out]; exact hfo.keep (Keep.ofExt hx5)⟩⟩⟩
      · have hop1 : Hid (opS l = (acc ++ (opS (l.drop (k + 1))).1, (opS (l.drop (k + 1))).2)) := by unfold Hid; rw [hop.out, hd, opS_one]
        clear hd hkd
        have hrk2 := rdAt_of hR
        go_wp2_with fail
        go_roundw
        case rel => exact ⟨k + 1, v, acc, by omega, by omega, hR, kl, hfo, hm, hop1⟩
        case measure => omega
      · clear hkd
        have hk0' : (kd == 0) = false := by simp [hk0]
        have hk1' : (kd == 1) = false := by simp [hk1]
        by_cases hlt1 : k + 1 < l.length
        · have hd2 := drop_cons hlt1
          go_wp2_with fail
          refine (u8_ok B _ l (k + 1) (by omega) _ hR).mono ?_
          rintro e w4 ⟨rfl, hR, hmv⟩
          have kl := (Mvs.ofMv (S := fun j => j = B) hmv rfl).keep kl (by omega)
          have hfo := hfo.keep (Keep.ofMvs (Mvs.ofMv (S := fun j => j = B) hmv rfl) (fun j hj => by omega))
          have hm := hm.tr (Mvs.ofMv hmv (.inl rfl))
          clear hmv
          have hnd := (HB.out.at (k + 1))
          generalize l.getD (k + 1) 0 = nd at *
          by_cases hn2 : nd < 2
          · have hop1 : Hid (opS l = (acc, 5)) := by
              unfold Hid
              rw [hop.out, hd, hd2, opS_form _ hk0 hk1 hn2]
              simp
            clear hd hd2 hk0 hk1
            go_wp2_with fail
            refine (fail_open B _ l _ 5 (by decide) _ hR).mono ?_
            rintro e w6 ⟨rfl, hx6⟩
            exact ⟨rfl, hm.tr (Mvs.ofExt hx6), ⟨_, _, hR.ext hx6⟩, .inr ⟨5, rfl, by rw [hop1.out], fun h => absurd h (by decide)⟩⟩
          · obtain ⟨m, hm2⟩ : ∃ m : Nat, nd = m + 2 := ⟨(nd - 2).toNat, by omega⟩
            have hlm : (nd - 2).toNat = m := by omega
            have hw2 : IntKind.i64.wrap (nd - 2) = (m : Int) := by rw [IntWalk.i64_in _ (by omega)]; omega
            have hm255 : m ≤ 253 := by omega
            have hwm : IntKind.i64.wrap (m : Int) = m := by rw [IntWalk.i64_in _ (by omega)]
            have hld : (l.drop (k + 1 + 1)).length = l.length - (k + 2) := by rw [List.length_drop]
            by_cases hfit : k + 2 + m ≤ l.length
            · have hop1 : Hid (opS l = (acc ++ [(kd, (l.drop (k + 2)).take m)] ++ (opS (l.drop (k + 2 + m))).1, (opS (l.drop (k + 2 + m))).2)) := by
                unfold Hid
                rw [hop.out, hd, hd2, opS_more _ hk0 hk1 hn2 (by rw [hlm]; omega), hlm, List.drop_drop]
                simp
              clear hd hd2 hk0 hk1 hlm
              go_upto_region 6 with (fail)
              have hvs := hfo.rdo.shape
              obtain ⟨av, cv, rfl⟩ := hvs
              refine First.wp_region_looks 5 9 (fun w' => w'.heap[Bl]? = some (.cells #[.slice av acc.length cv] 27)) (fun _ _ => False) ?_ (fun w' h => Ext.block h kl) (by kernel_rfl) (by kernel_rfl) (by kernel_rfl) ?_
              · exact fun _ _ _ _ h => h.elim
              intro wd hwd
              simp only [List.take, List.drop]
              apply First.wpH_some rfl
              · intro w' hw'; have q := cell_blk hw' 0; simp at q; go_simp; exact rfl
              intro K hK; go_simp; refine hK _ ?_; clear hK K
              iterate 4
                apply First.wpH_some rfl
                · intro w' hw'; go_simp; exact rfl
                intro K hK; go_simp; refine hK _ ?_; clear hK K
              refine First.wpH_nil ?_
              apply First.wpI_step rfl
              intro K hK
              go_simp
              refine (bytes_ok B _ l (k + 1 + 1) m (by omega) _ (hR.ext hwd)).mono ?_
              rintro e w5 ⟨u, rfl, hu, hR5, hmv⟩
              have kl5 := (Mvs.ofMv (S := fun j => j = B) hmv rfl).keep (Ext.block hwd kl) (by omega)
              have hfo5 := hfo.keep ((Keep.ofMvs (Mvs.ofMv (S := fun j => j = B) ((Mv.ofExt (B := B) hwd).tr hmv) rfl) (fun j hj => by omega)) : Keep w1.heap.size w4 w5)
              have hm5 := hm.tr (Mvs.ofMv ((Mv.ofExt (B := B) hwd).tr hmv) (.inl rfl))
              have hu5 : Fr w5 w1.heap.size 5 .u8 u _ := hu.low (Nat.le_trans hm.size hwd.size)
              obtain ⟨au, nu, cu, rfl⟩ := hu.rd.shape
              refine ⟨_, rfl, hK _ _ (fun _ => kl5) ?_⟩
              clear hK K hmv hu
              apply First.wpI_step rfl
              intro K hK
              go_simp
              refine hK _ _ (fun _ => kl5) ?_
              clear hK K
              apply First.wpI_step rfl
              intro K hK
              go_simp
              refine hK _ _ (fun _ => Ext.block (Ext.new _ _) kl5) ?_
              clear hK K
              apply First.wpI_step rfl
              intro K hK
              refine pupon_appO (.tmp 18) (.tmp 25) (by rfl) w1.heap.size (.slice av acc.length cv) acc (by rfl) (hfo5.keep (Keep.ofExt (Ext.new _ _))) w5.heap.size (by rfl) kd (.slice au nu cu) _ (hu5.kept (Ext.new _ _)) (heap_alloc_new _ _) (by omega) (Nat.le_trans hm5.size (Ext.new _ _).size) (fun v' w6 q1 q2 q3 => ?_)
              have hBlo : some Bl ≠ Value.ownBlock (.slice av acc.length cv) := fun he => by have := q3 _ he.symm; omega
              have hBo : some B ≠ Value.ownBlock (.slice av acc.length cv) := fun he => by have := q3 _ he.symm; omega
              have kl6 := (q2.block Bl (by have := (Ext.new w5 (.cells #[.int .u8 kd, .slice au nu cu] 48)).size; have := hm5.size; omega) hBlo).trans (Ext.block (Ext.new _ _) kl5)
              have hm6 := mvs_grown (hm5.tr (Mvs.ofExt (Ext.new _ _))) q2 q3
              have hR6 : Rdr w6 B bu l (k + 1 + 1 + m) := by
                have hRa := hR5.ext (Ext.new w5 (.cells #[.int .u8 kd, .slice au nu cu] 48))
                refine ⟨(q2.block B (lt_of_block hRa.blk) hBo).trans hRa.blk, ?_, hRa.le, hRa.bound⟩
                exact rd_grown hrd0 hRa.rd q2 q3
              refine hK _ _ (fun _ => kl6) ?_
              clear hK K q2
              obtain ⟨a6, c6, rfl⟩ := q1.rdo.shape
              have hbl := cell_blk kl6 0
              simp at hbl
              have hfz := fz_blk kl6
              apply First.wpI_step rfl
              intro K hK
              go_simp
              refine hK _ _ (fun h => absurd rfl h) ?_
              clear hK K
              refine First.wpI_nil ?_
              have kl7 := set_blk kl6 0 (.slice a6 (acc ++ [(kd, List.take m (List.drop (k + 1 + 1) l))]).length c6)
              simp only [List.setIfInBounds_toArray, List.set_cons_zero] at kl7
              have hms : Mvs (fun j => j = Bl) w6 (w6.setCell ⟨Bl, 0, none⟩ (.slice a6 (acc ++ [(kd, List.take m (List.drop (k + 1 + 1) l))]).length c6)) := Mvs.set _ _ _ rfl
              have hR7 := hR6.mvs hms (by omega) HA.out (fun j hj => by omega)
              have hfo7 := q1.keep (Keep.ofMvs hms (fun j hj => by omega))
              have hm7 := hm6.tr (hms.mono (fun j _ hj => .inr hj))
              have hl2 : (acc ++ [(kd, List.take m (List.drop (k + 1 + 1) l))]).length = acc.length + 1 := by simp
              clear hms hR6 q1 hm6 hbl hfz kl6
              rw [hl2] at kl7 hR7 hfo7 hm7
              generalize w6.setCell ⟨Bl, 0, none⟩ (.slice a6 (acc.length + 1) c6) = w7 at *
              have hr7 := rdAt_of hR7
              go_wp2_with fail
              go_roundw
              case rel => exact ⟨k + 1 + 1 + m, _, acc ++ [(kd, List.take m (List.drop (k + 1 + 1) l))], by omega, by rw [hl2]; omega, hR7, kl7, hfo7, hm7, hop1⟩
              case measure => omega
            · have hop1 : Hid (opS l = (acc, 4)) := by
                unfold Hid
                rw [hop.out, hd, hd2, opS_short _ hk0 hk1 hn2 (by rw [hlm]; omega)]
                simp
              clear hd hd2 hk0 hk1 hlm
              go_upto_region 6 with (fail)
              have hvs := hfo.rdo.shape
              obtain ⟨av, cv, rfl⟩ := hvs
              refine First.wp_region_looks 5 9 (fun w' => w'.heap[Bl]? = some (.cells #[.slice av acc.length cv] 27)) (fun c w' => c = [{ v := gone B 4, recovered := false }] ∧ Ext w4 w') ?_ (fun w' h => Ext.block h kl) (by kernel_rfl) (by kernel_rfl) (by kernel_rfl) ?_
              · rintro c a w' hda ⟨rfl, hx⟩
                exact ⟨hda, hm.tr (Mvs.ofExt hx), ⟨_, _, hR.ext hx⟩, .inr ⟨4, rfl, by rw [hop1.out], fun h => absurd h (by decide)⟩⟩
              intro wd hwd
              simp only [List.take, List.drop]
              apply First.wpH_some rfl
              · intro w' hw'; have q := cell_blk hw' 0; simp at q; go_simp; exact rfl
              intro K hK; go_simp; refine hK _ ?_; clear hK K
              iterate 4
                apply First.wpH_some rfl
                · intro w' hw'; go_simp; exact rfl
                intro K hK; go_simp; refine hK _ ?_; clear hK K
              refine First.wpH_nil ?_
              apply First.wpI_step rfl
              intro K hK
              go_simp
              refine (bytes_short B _ l (k + 1 + 1) m (by omega) (by omega) _ (hR.ext hwd)).mono ?_
              rintro e w5 ⟨rfl, hx5⟩
              exact .inr ⟨_, rfl, rfl, Ext.tr hwd hx5⟩
        · have hop1 : Hid (opS l = (acc, 4)) := by
            unfold Hid
            rw [hop.out, hd, show l.drop (k + 1) = [] from List.drop_eq_nil_of_le (by omega), opS_lone hk0 hk1]
            simp
          clear hd hk0 hk1
          go_wp2_with fail
          refine (u8_short B _ l (k + 1) (by omega) _ hR).mono ?_
          rintro e w4 ⟨rfl, hx4⟩
          exact ⟨rfl, hm.tr (Mvs.ofExt hx4), ⟨_, _, hR.ext hx4⟩, .inr ⟨4, rfl, by rw [hop1.out], fun h => absurd h (by decide)⟩⟩
    · obtain rfl : k = l.length := by omega
      have hop2 : Hid (opS l = (acc, 0)) := by unfold Hid; rw [hop.out, List.drop_length, opS_nil]; simp
      have hl0 : ¬ (0 : Int) < (l.length : Int) - (l.length : Int) := by omega
      go_wp2_with fail
      exact ⟨rfl, _, by simp [results, Tryz.results96], hm, ⟨_, _, hR⟩, .inl ⟨rfl, by rw [hop2.out], fun _ => ⟨v, kl, by rw [hop2.out]; exact hfo⟩⟩⟩

theorem oparse_any (bv : Value) (l : List Int) (w : World) (hv : Rd .u8 w bv l) (hb : Byt l) (hl : l.length ≤ 140737488351232) :
    Calls Tryz.prog 71 #[bv] w fun e w' => ∃ v, e = .returned (.tuple #[v, .int .i64 (opar l).2]) ∧ FrO w' w.heap.size v (opar l).1 ∧ Ext w w' := by
  have hvc := hv
  obtain ⟨a, cap, rfl, -, -, -⟩ := hvc
  by_cases hlong : 40 < l.length
  · have hU : Hid (opar l = ([], 3)) := by unfold opar; rw [if_pos hlong]; exact rfl
    have hlong' : (40 : Int) < (l.length : Int) := by omega
    clear hlong
    go_enter Tryz.func71, Tryz.ntmps71
    go_wp2_with fail
    go_ret2
    rw [hU.out]
    exact ⟨_, rfl, FrO.nil _ _, Ext.rfl' _⟩
  · have hN : l.length ≤ 40 := by omega
    have hlong' : ¬ (40 : Int) < (l.length : Int) := by omega
    have hU : Hid (opar l = if (opS l).2 = 0 then opS l else ([], (opS l).2)) := by unfold opar; rw [if_neg hlong]; exact rfl
    clear hlong
    have HB := Lib.hid hb
    clear hb
    go_enter Tryz.func71, Tryz.ntmps71
    go_wp2_with fail
    generalize hW : w.alloc _ = W
    have hxW : Ext w W := by rw [← hW]; exact Ext.new _ _
    have kl : W.heap[w.heap.size]? = some (.cells #[.slice none 0 0] 27) := by rw [← hW]; exact heap_alloc_new _ _
    have hsW : w.heap.size < W.heap.size := by rw [← hW]; simp
    clear hW
    refine (read_cl 96 _ _ l W (hv.ext hxW) hl (fun k => k = w.heap.size) (by omega) (OQ w.heap.size l) (fun _ _ => by simp [go_sem]) ?_).mono ?_
    · intro B bu w1 hx1 hB hR hA
      refine (oparse1_any l HB.out hN bu w1 B w.heap.size W.heap.size hR hA hsW hB (hx1.block kl)).mono ?_
      rintro x w2 ⟨h1, h2, h3⟩
      exact ⟨h1, h2, h3⟩
    rintro x w' ⟨e, w1, w2, rfl, hx1, ⟨he, hq⟩, hout, hm⟩
    have hxw : Ext w w' := hm.ext hxW (by omega)
    have hs1 := hx1.size
    by_cases he0 : e = 0
    · subst he0
      obtain ⟨v, k2, hfo⟩ := hq rfl
      have hU2 : Hid (opar l = ((opS l).1, 0)) := by unfold Hid; rw [hU.out, if_pos he.symm, he]
      have k2' := (hout.block _ (lt_of_block k2) (.inl (by omega))).trans k2
      have hfo' := hfo.keep (Keep.ofOut hout (Nat.le_refl _))
      obtain ⟨av, cv, rfl⟩ := hfo'.rdo.shape
      have c0 := cell_blk k2' 0
      simp at c0
      clear hq he hU hout hm k2 hfo kl
      have hlow : FrO w' w.heap.size (.slice av (opS l).1.length cv) (opS l).1 := by
        obtain ⟨xs, q1, q2, q3⟩ := hfo'
        refine ⟨xs, q1, ⟨q2.1, ?_⟩, fun x hx => (q3 x hx).low (by omega)⟩
        rcases q2.2 with h0 | ⟨g, cap, cur, h1, hb, r⟩
        · exact .inl h0
        · exact .inr ⟨g, cap, cur, h1, by omega, r⟩
      go_wp2_with fail
      go_ret2
      rw [hU2.out]
      exact ⟨_, rfl, hlow, hxw⟩
    · have hU2 : Hid (opar l = ([], e)) := by unfold Hid; rw [hU.out, if_neg (by omega), he]
      have he' : (e != 0) = true := by simpa using he0
      clear hq he hU hout hm kl he0
      go_wp2_with fail
      go_ret2
      rw [hU2.out]
      exact ⟨_, rfl, FrO.nil _ _, hxw⟩
end Go.Proofs.YtbaidlkjbdeceaaGreat
