/-
  Proved here: rows of segments in new memory, and append on them.
-/
import Derived.Test.YtgbbpibcmpeneaaShR
import Derived.Maps.AppendAt
namespace Go.Proofs.Ytgbbpibcmpeneaa
set_option maxRecDepth 200000
open Go.ChangeShapes Go.WideShapes Go.ChangeAt Go.RowKit Go.Cul Go.Loose
set_option linter.unusedVariables false

abbrev Sv := Sg × Value × Value
abbrev Sv.row (x : Sv) : List Value := (x.1.cells x.2.1 x.2.2).toList
def Sv.no : Sv := (Sg.none, .slice none 0 0, .slice none 0 0)
/-- The cells of segments whose options and data are there. -/
def rowsS (xs : List Sv) : List Value := xs.flatMap fun x => Sv.row x
theorem rowsS_len (xs : List Sv) : (rowsS xs).length = xs.length * 9 := by
  induction xs with
  | nil => rfl
  | cons x xs ih =>
    have : rowsS (x :: xs) = Sv.row x ++ rowsS xs := rfl
    have h9 : (Sv.row x).length = 9 := rfl
    have hl : (x :: xs).length = xs.length + 1 := rfl
    rw [this, List.length_append, ih, h9, hl]
    omega
theorem rowsS_at : ∀ (xs : List Sv) (i : Nat), i < xs.length → ∀ j, j < 9 → (rowsS xs)[i * 9 + j]? = (Sv.row (xs.getD i Sv.no))[j]?
  | x :: xs, 0, _, j, hj => by
    have : rowsS (x :: xs) = Sv.row x ++ rowsS xs := rfl
    rw [this, Nat.zero_mul, Nat.zero_add, List.getElem?_append_left (by simp; exact hj)]
    simp
  | x :: xs, i + 1, h, j, hj => by
    have ih := rowsS_at xs i (by simpa using h) j hj
    have e1 : (i + 1) * 9 + j = (Sv.row x).length + (i * 9 + j) := by simp; omega
    have : rowsS (x :: xs) = Sv.row x ++ rowsS xs := rfl
    rw [this, e1, List.getElem?_append_right (by omega), Nat.add_sub_cancel_left, ih]
    simp [List.getD]
/-- New memory that holds segments, their options and data in new memory. -/
def FrS (w : World) (base : Nat) (v : Value) (ss : List Sg) : Prop := ∃ xs : List Sv, xs.map (·.1) = ss ∧ w.ownsRow base 51 9 v xs.length (rowsS xs) ∧ ∀ x ∈ xs, FrO w base x.2.1 x.1.os ∧ Fr w base 5 .u8 x.2.2 x.1.data
theorem FrS.nil (w : World) (base : Nat) : FrS w base (.slice none 0 0) [] := ⟨[], rfl, World.ownsRow_nil w base _ 9, fun x h => by cases h⟩
theorem FrS.keep {w w' : World} {base : Nat} {v : Value} {ss : List Sg} (h : FrS w base v ss) (hk : Keep base w w') : FrS w' base v ss := by
  obtain ⟨xs, h1, h2, h3⟩ := h
  refine ⟨xs, h1, ⟨h2.1, ?_⟩, fun x hx => ⟨(h3 x hx).1.keep hk, Fr.keep (h3 x hx).2 hk⟩⟩
  rcases h2.2 with h0 | ⟨g, cap, cur, rfl, hb, hh, r⟩
  · exact .inl h0
  · exact .inr ⟨g, cap, cur, rfl, hb, hk g _ hb hh, r⟩
theorem FrS.lowS {w : World} {base base' : Nat} {v : Value} {ss : List Sg} (h : FrS w base v ss) (hb : base' ≤ base) : FrS w base' v ss := by
  obtain ⟨xs, q1, q2, q3⟩ := h
  refine ⟨xs, q1, ⟨q2.1, ?_⟩, fun x hx => ⟨(q3 x hx).1.lowS hb, (q3 x hx).2.low hb⟩⟩
  rcases q2.2 with h0 | ⟨g, cap, cur, h1, hb', r⟩
  · exact .inl h0
  · exact .inr ⟨g, cap, cur, h1, by omega, r⟩
theorem FrS.shape {w : World} {base : Nat} {v : Value} {ss : List Sg} (h : FrS w base v ss) : ∃ a c, v = .slice a ss.length c ∧ ss.length ≤ c ∧ c ≤ maxLen := by
  obtain ⟨xs, rfl, h2, h3⟩ := h
  rcases h2.2 with ⟨rfl, h0⟩ | ⟨g, cap, cur, rfl, hb, hh, hn, hm, r⟩
  · exact ⟨none, 0, by simp [h0], by simp [h0], by decide⟩
  · exact ⟨some ⟨g, 0, none⟩, cap, by simp, by simpa using hn, hm⟩
theorem FrS.at {w : World} {base : Nat} {v : Value} {ss : List Sg} (h : FrS w base v ss) {i : Nat} (hi : i < ss.length) : ∃ g cap vo vd, v = .slice (some ⟨g, 0, none⟩) ss.length cap ∧ base ≤ g ∧
    (∀ j, j < 9 → w.cell? ⟨g, i * 9 + j, none⟩ = ((ss.getD i Sg.none).cells vo vd).toList[j]?) ∧ FrO w base vo (ss.getD i Sg.none).os ∧ Fr w base 5 .u8 vd (ss.getD i Sg.none).data := by
  obtain ⟨xs, rfl, h2, h3⟩ := h
  rw [List.length_map] at hi
  rcases h2.2 with ⟨rfl, h0⟩ | ⟨g, cap, cur, rfl, hb, hh, hn, hm, hsz, htk⟩
  · omega
  · have hx : (xs.map (·.1)).getD i Sg.none = (xs.getD i Sv.no).1 := by simp [List.getD, hi]
    refine ⟨g, cap, (xs.getD i Sv.no).2.1, (xs.getD i Sv.no).2.2, by simp, hb, fun j hj => ?_, ?_⟩
    · rw [hx, ← rowsS_at xs i hi j hj, cell_of_row w g (i * 9 + j) cur _ (0, 0) hh, ← htk, List.getElem?_take, if_pos (by omega)]
      simp
    · rw [hx]
      exact h3 _ (by simp [List.getD, hi])

theorem info_seg : ∃ i, Try.prog.info? 51 = some i ∧ i.zero = some (.agg (Sg.none.cells (.slice none 0 0) (.slice none 0 0))) ∧ i.size = 9 ∧ i.bytes = 72 := by
  have h : (Try.prog.info? 51).map (fun i => (i.zero, i.size, i.bytes)) = some (some (.agg #[.int .u16 0, .int .u16 0, .int .u32 0, .int .u32 0, .int .u8 0, .int .u16 0, .int .u16 0, .slice none 0 0, .slice none 0 0]), 9, 72) := by kernel_rfl
  cases hi : Try.prog.info? 51 with
  | none => rw [hi] at h; cases h
  | some i => rw [hi] at h; simp at h; exact ⟨i, rfl, h.1, h.2.1, h.2.2⟩
theorem under_segs : Try.prog.underlying 52 = some (.slice 51) := by kernel_rfl

theorem frb_grownS {t : TypeId} (ht : t ≠ 51) {w w' : World} {base : Nat} {v : Value} {n : Nat} {xs : List Value} (hown : w.ownsRow base 51 9 v n xs) (hg : w.grownBy w' v.ownBlock) {g : Nat} {cur : Array Value} {fz : Nat × Nat}
    (hh : w.heap[g]? = some (.cells cur t fz)) : w'.heap[g]? = some (.cells cur t fz) := by
  refine (hg.block g (lt_of_block hh) ?_).trans hh
  rcases hown.2 with ⟨rfl, _⟩ | ⟨g', cap', cur', rfl, _, hh', _⟩
  · simp [Value.ownBlock]
  · intro he
    simp [Value.ownBlock] at he
    subst he
    rw [hh] at hh'
    simp only [Option.some.injEq, Obj.cells.injEq] at hh'
    exact ht hh'.2.1
theorem fr_grownS {w w' : World} {base : Nat} {v u : Value} {n : Nat} {xs : List Value} {l : List Int} (hown : w.ownsRow base 51 9 v n xs) (hg : w.grownBy w' v.ownBlock) (hu : Fr w base 5 .u8 u l) : Fr w' base 5 .u8 u l := by
  rcases hu with hu | hu
  · left
    refine ⟨hu.1, ?_⟩
    rcases hu.2 with h0 | ⟨g, cap, cur, rfl, hb, hh, r⟩
    · exact .inl h0
    · exact .inr ⟨g, cap, cur, rfl, hb, frb_grownS (by decide) hown hg hh, r⟩
  · exact .inr hu
theorem fro_grownS {w w' : World} {base : Nat} {v u : Value} {n : Nat} {xs : List Value} {os : List Op1} (hown : w.ownsRow base 51 9 v n xs) (hg : w.grownBy w' v.ownBlock) (hu : FrO w base u os) : FrO w' base u os := by
  obtain ⟨ys, h1, h2, h3⟩ := hu
  refine ⟨ys, h1, ⟨h2.1, ?_⟩, fun y hy => fr_grownS hown hg (h3 y hy)⟩
  rcases h2.2 with h0 | ⟨g, cap, cur, rfl, hb, hh, r⟩
  · exact .inl h0
  · exact .inr ⟨g, cap, cur, rfl, hb, frb_grownS (by decide) hown hg hh, r⟩

theorem run_appS (w : World) (base : Nat) (ty : TypeId) (v : Value) (ss : List Sg) (h : FrS w base v ss) (bs : Nat) (s : Sg) (vo vd : Value) (ho : FrO w base vo s.os) (hd : Fr w base 5 .u8 vd s.data) (hbs : w.heap[bs]? = some (.cells (s.cells vo vd) 51)) (hn : ss.length ≤ 1000000) (hbase : base ≤ w.heap.size) :
    ∃ v' w', (Builtin.append_ #[52, 52] ty #[v, .slice (some ⟨bs, 0, none⟩) 1 1]).run Try.prog w = .ok v' w' ∧ FrS w' base v' (ss ++ [s]) ∧ w.grownBy w' v.ownBlock ∧ (∀ j, v.ownBlock = some j → base ≤ j) := by
  obtain ⟨xs, rfl, h2, h3⟩ := h
  obtain ⟨i, hi, hz, hs, hb⟩ := info_seg
  obtain ⟨a, n, c, rfl⟩ := hd.rd.shape
  obtain ⟨ao, co, rfl⟩ := ho.rdo.shape
  rw [List.length_map] at hn
  obtain ⟨v', w', hrun, ho', hg, -, hat⟩ := run_append_own_at (P := Try.prog) w base 52 ty 51 i _ 9 72 under_segs hi hz hs hb rfl (by decide) v xs.length (rowsS xs) h2 ⟨bs, 0, none⟩ 1 1 (s.cells (.slice ao s.os.length co) (.slice a n c)).toList rfl
    (fun j x hj => by
      rw [Addr.add_lit, Nat.zero_add, cell_blk hbs]
      simpa using hj) (fun x hx => by
      simp only [List.mem_cons, List.not_mem_nil, or_false] at hx
      rcases hx with rfl | rfl | rfl | rfl | rfl | rfl | rfl | rfl | rfl <;> rfl) (by unfold maxLen; omega) (by omega) hbase
  refine ⟨v', w', hrun, ⟨xs ++ [(s, .slice ao s.os.length co, .slice a n c)], by simp, ?_, fun x hx => ?_⟩, hg, ?_⟩
  · have e1 : rowsS (xs ++ [(s, .slice ao s.os.length co, .slice a n c)]) = rowsS xs ++ (s.cells (.slice ao s.os.length co) (.slice a n c)).toList := by simp [rowsS]
    rw [e1, List.length_append]
    exact ho'
  · rcases List.mem_append.1 hx with hx | hx
    · exact ⟨fro_grownS h2 hg (h3 x hx).1, fr_grownS h2 hg (h3 x hx).2⟩
    · obtain rfl : x = _ := by simpa using hx
      exact ⟨fro_grownS h2 hg ho, fr_grownS h2 hg hd⟩
  · intro j hj
    exact (World.ownsRow.lt h2 j hj).1

theorem wpList_appS {w : World} {ops : Array Oper} {rest : List Oper} {o : Oper} {a : Act} {Q : Exit → Act → World → Prop} (hgd : o.guard = none) (sl x : Operand)
    (ho : o.op = .call { callee := .builtin .append, args := #[sl, x], argTypes := #[52, 52] }) (base : Nat) (v : Value) (ss : List Sg) (hs : a.eval sl = v) (h : FrS w base v ss) (bs : Nat) (hx : a.eval x = .slice (some ⟨bs, 0, none⟩) 1 1)
    (s : Sg) (vo vd : Value) (hvo : FrO w base vo s.os) (hvd : Fr w base 5 .u8 vd s.data) (hbs : w.heap[bs]? = some (.cells (s.cells vo vd) 51)) (hn : ss.length ≤ 1000000) (hbase : base ≤ w.heap.size)
    (hc : ∀ v' w', FrS w' base v' (ss ++ [s]) → w.grownBy w' v.ownBlock → (∀ j, v.ownBlock = some j → base ≤ j) → wpList Try.prog ops Q rest (a.put o.dst v') w') : wpList Try.prog ops Q (o :: rest) a w := by
  obtain ⟨v', w', hrun, h2, h3, h5⟩ := run_appS w base o.type v ss h bs s vo vd hvo hvd hbs hn hbase
  refine wpList_plain hgd fun _ hK => ?_
  unfold Oper.wp execOp
  simp only [ho, resolve, invoke, builtin, Sem.run_bind, Sem.run_pure, Result.andThen_ok, List.map_toArray, List.map_cons, List.map_nil, hs, hx, hrun]
  exact hK _ _ (hc v' w' h2 h3 h5)
end Go.Proofs.Ytgbbpibcmpeneaa
