/-
  Proved here: what opts.Parse computes. Condition: at most 2^47 bytes.
-/
import Derived.Test.YtgbbpibcmpeneaaOptsP
import Derived.Test.YtgbbpibcmpeneaaLibs
import Derived.Test.YtgbbpibcmpeneaaRegion
import Derived.Deep.Cut
namespace Go.Proofs.Ytgbbpibcmpeneaa
set_option maxRecDepth 200000
open Go.ChangeShapes Go.WideShapes Go.ChangeAt Go.RowKit Go.Cul Go.Loose
set_option linter.unusedVariables false
attribute [local go_sem] Loose.Still Loose.Upon Loose.vUpon First.pUpon

/-- What is in blocks from base on is kept. -/
def Keep (base : Nat) (w w' : World) : Prop := ∀ g o, base ≤ g → w.heap[g]? = some o → w'.heap[g]? = some o
theorem Keep.ofExt {base : Nat} {w w' : World} (h : Ext w w') : Keep base w w' := fun g o _ hg => h.block hg
theorem Keep.ofMvs {S : Nat → Prop} {base : Nat} {w w' : World} (h : Mvs S w w') (hS : ∀ k, S k → k < base) : Keep base w w' := fun g o hb hg => h.keep hg (fun hs => by have := hS g hs; omega)
theorem Keep.ofOut {base : Nat} {w w1 w2 w' : World} (h : Out w w1 w2 w') (hb : w1.heap.size ≤ base) : Keep base w2 w' := fun g o hg hh => (h.block g (lt_of_block hh) (.inr (Nat.le_trans hb hg))).trans hh
theorem Own.keep {base : Nat} {w w' : World} {e : TypeId} {k : IntKind} {v : Value} {l : List Int} (h : Own w base e k v l) (hk : Keep base w w') : Own w' base e k v l := by
  refine ⟨h.1, ?_⟩
  rcases h.2 with h0 | ⟨g, cap, cur, rfl, hb, hh, r⟩
  · exact .inl h0
  · exact .inr ⟨g, cap, cur, rfl, hb, hk g _ hb hh, r⟩
theorem Fr.keep {base : Nat} {w w' : World} {e : TypeId} {k : IntKind} {v : Value} {l : List Int} (h : Fr w base e k v l) (hk : Keep base w w') : Fr w' base e k v l := by
  rcases h with h | h
  · exact .inl (Own.keep h hk)
  · exact .inr h

/-- The cells of options whose data are there. -/
def rowsO (xs : List (Op1 × Value)) : List Value := xs.flatMap fun x => [.int .u8 x.1.1, x.2]
theorem rowsO_len (xs : List (Op1 × Value)) : (rowsO xs).length = xs.length * 2 := by
  induction xs with
  | nil => rfl
  | cons x xs ih => simp only [rowsO, List.flatMap_cons, List.length_append, List.length_cons, List.length_nil] at *; omega
theorem rowsO_at : ∀ (xs : List (Op1 × Value)) (i : Nat), i < xs.length → (rowsO xs)[i * 2]? = some (.int .u8 (xs.getD i ((0, []), undef)).1.1) ∧ (rowsO xs)[i * 2 + 1]? = some (xs.getD i ((0, []), undef)).2
  | x :: xs, 0, _ => by simp [rowsO]
  | x :: xs, i + 1, h => by
    have ih := rowsO_at xs i (by simpa using h)
    have e1 : (i + 1) * 2 = i * 2 + 2 := by omega
    rw [e1]
    simpa [rowsO] using ih
/-- New memory that holds options, their data in new memory. -/
def FrO (w : World) (base : Nat) (v : Value) (os : List Op1) : Prop := ∃ xs : List (Op1 × Value), xs.map (·.1) = os ∧ w.ownsRow base 98 2 v xs.length (rowsO xs) ∧ ∀ x ∈ xs, Fr w base 5 .u8 x.2 x.1.2

theorem FrO.nil (w : World) (base : Nat) : FrO w base (.slice none 0 0) [] := ⟨[], rfl, World.ownsRow_nil w base _ 2, fun x h => by cases h⟩
theorem FrO.keep {w w' : World} {base : Nat} {v : Value} {os : List Op1} (h : FrO w base v os) (hk : Keep base w w') : FrO w' base v os := by
  obtain ⟨xs, h1, h2, h3⟩ := h
  refine ⟨xs, h1, ⟨h2.1, ?_⟩, fun x hx => Fr.keep (h3 x hx) hk⟩
  rcases h2.2 with h0 | ⟨g, cap, cur, rfl, hb, hh, r⟩
  · exact .inl h0
  · exact .inr ⟨g, cap, cur, rfl, hb, hk g _ hb hh, r⟩
theorem FrO.rdo {w : World} {base : Nat} {v : Value} {os : List Op1} (h : FrO w base v os) : RdO w v os := by
  obtain ⟨xs, rfl, h2, h3⟩ := h
  rcases h2.2 with ⟨rfl, h0⟩ | ⟨g, cap, cur, rfl, hb, hh, hn, hm, hsz, htk⟩
  · have : xs = [] := List.eq_nil_of_length_eq_zero (by omega)
    subst this
    exact RdO.nil w
  · refine ⟨_, cap, by rw [List.length_map], by rw [List.length_map]; exact hn, hm, .inr ⟨g, 0, rfl, fun i hi => ?_⟩⟩
    rw [List.length_map] at hi
    obtain ⟨c0, c1⟩ := rowsO_at xs i hi
    have hget : ∀ j, j < xs.length * 2 → w.cell? ⟨g, 0 + j, none⟩ = (rowsO xs)[j]? := fun j hj => by
      rw [Nat.zero_add, cell_of_row w g j cur _ (0, 0) hh, ← htk, List.getElem?_take, if_pos hj]
      simp
    have hx : (xs.map (·.1)).getD i (0, []) = (xs.getD i ((0, []), undef)).1 := by simp [List.getD, hi]
    refine ⟨(xs.getD i ((0, []), undef)).2, ?_, ?_, ?_⟩
    · rw [hget _ (by omega), c0, hx]
    · rw [Nat.add_assoc, hget _ (by omega), c1]
    · rw [hx]
      exact (h3 _ (by simp [List.getD, hi])).rd

theorem info_opt : ∃ i, Try.prog.info? 98 = some i ∧ i.zero = some (.agg #[.int .u8 0, .slice none 0 0]) ∧ i.size = 2 ∧ i.bytes = 32 := by
  have h : (Try.prog.info? 98).map (fun i => (i.zero, i.size, i.bytes)) = some (some (.agg #[.int .u8 0, .slice none 0 0]), 2, 32) := by kernel_rfl
  cases hi : Try.prog.info? 98 with
  | none => rw [hi] at h; cases h
  | some i => rw [hi] at h; simp at h; exact ⟨i, rfl, h.1, h.2.1, h.2.2⟩
theorem under_opts : Try.prog.underlying 49 = some (.slice 98) := by kernel_rfl

theorem fr_grown {w w' : World} {base : Nat} {v u : Value} {n : Nat} {xs : List Value} {l : List Int} (hown : w.ownsRow base 98 2 v n xs) (hg : w.grownBy w' v.ownBlock) (hu : Fr w base 5 .u8 u l) : Fr w' base 5 .u8 u l := by
  rcases hu with hu | hu
  · left
    refine ⟨hu.1, ?_⟩
    rcases hu.2 with h0 | ⟨g, cap, cur, rfl, hb, hh, r⟩
    · exact .inl h0
    · refine .inr ⟨g, cap, cur, rfl, hb, (hg.block g (lt_of_block hh) ?_).trans hh, r⟩
      rcases hown.2 with ⟨rfl, _⟩ | ⟨g', cap', cur', rfl, _, hh', _⟩
      · simp [Value.ownBlock]
      · intro he
        simp [Value.ownBlock] at he
        subst he
        rw [hh] at hh'
        cases hh'
  · exact .inr hu

theorem run_appO (w : World) (base : Nat) (ty : TypeId) (v : Value) (os : List Op1) (h : FrO w base v os) (bs : Nat) (k : Int) (u : Value) (l : List Int) (hu : Fr w base 5 .u8 u l) (hbs : w.heap[bs]? = some (.cells #[.int .u8 k, u] 98)) (hn : os.length ≤ 100000) (hbase : base ≤ w.heap.size) :
    ∃ v' w', (Builtin.append_ #[49, 49] ty #[v, .slice (some ⟨bs, 0, none⟩) 1 1]).run Try.prog w = .ok v' w' ∧ FrO w' base v' (os ++ [(k, l)]) ∧ w.grownBy w' v.ownBlock ∧ (v'.ownBlock = v.ownBlock ∨ v'.ownBlock = some w.heap.size) ∧ (∀ j, v.ownBlock = some j → base ≤ j) := by
  obtain ⟨xs, rfl, h2, h3⟩ := h
  obtain ⟨i, hi, hz, hs, hb⟩ := info_opt
  obtain ⟨a, n, c, rfl⟩ := hu.rd.shape
  rw [List.length_map] at hn
  obtain ⟨v', w', hrun, ho, hg, -, hat⟩ := run_append_own_at (P := Try.prog) w base 49 ty 98 i _ 2 32 under_opts hi hz hs hb rfl (by decide) v xs.length (rowsO xs) h2 ⟨bs, 0, none⟩ 1 1 [.int .u8 k, .slice a n c] rfl
    (fun j x hj => by
      rw [Addr.add_lit, Nat.zero_add, cell_blk hbs]
      match j, hj with
      | 0, hj => simpa using hj
      | 1, hj => simpa using hj
      | j + 2, hj => simp at hj) (fun x hx => by
      simp only [List.mem_cons, List.not_mem_nil, or_false] at hx
      rcases hx with rfl | rfl <;> rfl) (by unfold maxLen; omega) (by omega) hbase
  refine ⟨v', w', hrun, ⟨xs ++ [((k, l), .slice a n c)], by simp, ?_, fun x hx => ?_⟩, hg, hat, ?_⟩
  · have e1 : rowsO (xs ++ [((k, l), .slice a n c)]) = rowsO xs ++ [.int .u8 k, .slice a n c] := by simp [rowsO]
    rw [e1, List.length_append]
    exact ho
  · rcases List.mem_append.1 hx with hx | hx
    · exact fr_grown h2 hg (h3 x hx)
    · obtain rfl : x = _ := by simpa using hx
      exact fr_grown h2 hg hu
  · intro j hj
    exact (World.ownsRow.lt h2 j hj).1

theorem pupon_appO {w : World} {o : Oper} {a : Act} {K : Act → World → Prop} {E : List PanicEntry → World → Prop} (s x : Operand)
    (ho : o.op = .call { callee := .builtin .append, args := #[s, x], argTypes := #[49, 49] }) (base : Nat) (v : Value) (os : List Op1) (hs : a.eval s = v) (h : FrO w base v os) (bs : Nat) (hx : a.eval x = .slice (some ⟨bs, 0, none⟩) 1 1)
    (k : Int) (u : Value) (l : List Int) (hu : Fr w base 5 .u8 u l) (hbs : w.heap[bs]? = some (.cells #[.int .u8 k, u] 98)) (hn : os.length ≤ 100000) (hbase : base ≤ w.heap.size)
    (hc : ∀ v' w', FrO w' base v' (os ++ [(k, l)]) → w.grownBy w' v.ownBlock → (∀ j, v.ownBlock = some j → base ≤ j) → K (a.put o.dst v') w') : First.pUpon Try.prog E o a K ((execOp a.eval o).run Try.prog w) := by
  obtain ⟨v', w', hrun, h2, h3, -, h5⟩ := run_appO w base o.type v os h bs k u l hu hbs hn hbase
  unfold execOp
  simp only [ho, resolve, invoke, builtin, Sem.run_bind, Sem.run_pure, Result.andThen_ok, List.map_toArray, List.map_cons, List.map_nil, hs, hx, hrun, First.pUpon]
  exact hc v' w' h2 h3 h5

theorem mvs_grown {S : Nat → Prop} {W w w' : World} {r : Option Nat} (hm : Mvs S W w) (hg : w.grownBy w' r) (hr : ∀ j, r = some j → W.heap.size ≤ j) : Mvs S W w' :=
  ⟨hg.os.trans hm.os, hg.tape.trans hm.tape, hg.output.trans hm.output, Nat.le_trans hm.size hg.size, fun k hk hS => (hg.block k (Nat.lt_of_lt_of_le hk hm.size) (fun e => by have := hr k e.symm; omega)).trans (hm.block k hk hS)⟩

theorem rd_grown {k : IntKind} {w0 w w' : World} {r : Option Nat} {v : Value} {l : List Int} (h0 : Rd k w0 v l) (h : Rd k w v l) (hg : w.grownBy w' r) (hr : ∀ j, r = some j → w0.heap.size ≤ j) : Rd k w' v l := by
  obtain ⟨a, cap, rfl, h1, h2, h3⟩ := h
  refine ⟨a, cap, rfl, h1, h2, ?_⟩
  rcases h3 with h3 | ⟨b, o, rfl, h3⟩
  · exact .inl h3
  · obtain ⟨a', cap', he, -, -, h4⟩ := h0
    cases he
    rcases h4 with h4 | ⟨b', o', he, h4⟩
    · exact .inl h4
    · cases he
      refine .inr ⟨b, o, rfl, fun i hi => ?_⟩
      have hlt := lt_of_cell (h4 i hi)
      have hc := h3 i hi
      rw [World.cell?_of_block (w := w) (hg.block b (lt_of_cell hc) (fun e => by have := hr b e.symm; dsimp only at hlt; omega))]
      exact hc

/-- What Parse's closure leaves. -/
def OQ (Bl : Nat) (l : List Int) (w1 : World) (e : Int) (w2 : World) : Prop := e = (opS l).2 ∧ (e = 0 → ∃ v, w2.heap[Bl]? = some (.cells #[v] 49) ∧ FrO w2 w1.heap.size v (opS l).1)

/-- How far a reader has read. -/
def rdAt (w : World) (B : Nat) : Nat := match w.cell? ⟨B, 1, none⟩ with | some (.int _ n) => n.toNat | _ => 0
theorem rdAt_of {w : World} {B : Nat} {bv : Value} {l : List Int} {k : Nat} (h : Rdr w B bv l k) : rdAt w B = k := by unfold rdAt; rw [h.c1]; simp
theorem drop_cons {l : List Int} {k : Nat} (h : k < l.length) : l.drop k = l.getD k 0 :: l.drop (k + 1) := by rw [List.drop_eq_getElem_cons h]; simp [List.getD, h]

end Go.Proofs.Ytgbbpibcmpeneaa
