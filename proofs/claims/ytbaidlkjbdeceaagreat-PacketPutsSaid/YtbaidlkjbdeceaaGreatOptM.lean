/-
  Proved here: rows of options in new memory whose data lies anywhere safe: append of options from anywhere, a store into one's data.
-/
import Derived.Test.YtbaidlkjbdeceaaGreatOptsR
import Derived.Laws.OwnMore
import Derived.ArgAppend
import Derived.Deep.AppendLies
namespace Go.Proofs.YtbaidlkjbdeceaaGreat
set_option maxRecDepth 200000
open Go.ChangeShapes Go.WideShapes Go.ChangeAt Go.RowKit Go.Cul Go.Loose
set_option linter.unusedVariables false

theorem ext_grown {w w1 w2 : World} {r : Option Nat} (hx : Ext w w1) (hg : w1.grownBy w2 r) (hr : ∀ j, r = some j → w.heap.size ≤ j) : Ext w w2 :=
  (mvs_grown (S := fun _ => False) (Mvs.ofExt hx) hg hr).ext (Ext.rfl' w) (fun k hk => hk.elim)

/-- Data that is own, or was there before. -/
def DatO (base : Nat) (w : World) (u : Value) (l : List Int) : Prop := Fr w base 5 .u8 u l ∨ ∃ w0 : World, w0.heap.size ≤ base ∧ Ext w0 w ∧ Rd .u8 w0 u l
theorem DatO.rd {base : Nat} {w : World} {u : Value} {l : List Int} (h : DatO base w u l) : Rd .u8 w u l := by
  rcases h with h | ⟨w0, -, h1, h2⟩
  · exact h.rd
  · exact h2.ext h1
theorem DatO.ext {base : Nat} {w w' : World} {u : Value} {l : List Int} (h : DatO base w u l) (hx : Ext w w') : DatO base w' u l := by
  rcases h with h | ⟨w0, h0, h1, h2⟩
  · exact .inl (h.kept hx)
  · exact .inr ⟨w0, h0, h1.tr hx, h2⟩
theorem DatO.grown {base : Nat} {w w' : World} {v u : Value} {n : Nat} {xs : List Value} {l : List Int} (hown : w.ownsRow base 48 2 v n xs) (hg : w.grownBy w' v.ownBlock) (h : DatO base w u l) : DatO base w' u l := by
  rcases h with h | ⟨w0, h0, h1, h2⟩
  · exact .inl (fr_grown hown hg h)
  · exact .inr ⟨w0, h0, ext_grown h1 hg (fun j hj => Nat.le_trans h0 (World.ownsRow.lt hown j hj).1), h2⟩
theorem DatO.low {base base' : Nat} {w : World} {u : Value} {l : List Int} (h : Fr w base 5 .u8 u l) (hb : base' ≤ base) : DatO base' w u l := .inl (h.low hb)

/-- Options to be appended. -/
def SrcO (base : Nat) (w : World) (u : Value) (rs : List Op1) : Prop :=
  ∃ a cap, u = .slice a rs.length cap ∧ rs.length ≤ cap ∧ cap ≤ maxLen ∧
    (rs = [] ∨ ∃ b o, a = some ⟨b, o, none⟩ ∧ ∀ i, i < rs.length → ∃ x, w.cell? ⟨b, o + i * 2, none⟩ = some (.int .u8 (rs.getD i (0, [])).1) ∧ w.cell? ⟨b, o + i * 2 + 1, none⟩ = some x ∧ DatO base w x (rs.getD i (0, [])).2)
theorem SrcO.rdo {base : Nat} {w : World} {u : Value} {rs : List Op1} (h : SrcO base w u rs) : RdO w u rs := by
  obtain ⟨a, cap, rfl, h1, h2, h3⟩ := h
  refine ⟨a, cap, rfl, h1, h2, ?_⟩
  rcases h3 with h3 | ⟨b, o, rfl, h3⟩
  · exact .inl h3
  · exact .inr ⟨b, o, rfl, fun i hi => let ⟨x, h4, h5, h6⟩ := h3 i hi; ⟨x, h4, h5, h6.rd⟩⟩
theorem SrcO.of {base : Nat} {w0 w : World} {u : Value} {rs : List Op1} (h : RdO w0 u rs) (hb : w0.heap.size ≤ base) (hx : Ext w0 w) : SrcO base w u rs := by
  obtain ⟨a, cap, rfl, h1, h2, h3⟩ := h
  refine ⟨a, cap, rfl, h1, h2, ?_⟩
  rcases h3 with h3 | ⟨b, o, rfl, h3⟩
  · exact .inl h3
  · exact .inr ⟨b, o, rfl, fun i hi => let ⟨x, h4, h5, h6⟩ := h3 i hi; ⟨x, hx.cell h4, hx.cell h5, .inr ⟨w0, hb, hx, h6⟩⟩⟩

/-- New memory that holds options; their data is own or was there before. -/
def MiO (w : World) (base : Nat) (v : Value) (os : List Op1) : Prop :=
  (∃ xs : List (Op1 × Value), xs.map (·.1) = os ∧ w.ownsRow base 48 2 v xs.length (rowsO xs) ∧ ∀ x ∈ xs, DatO base w x.2 x.1.2) ∨ ∃ a, v = .slice a 0 0 ∧ os = []
theorem MiO.ofFr {w : World} {base : Nat} {v : Value} {os : List Op1} (h : FrO w base v os) : MiO w base v os := by
  obtain ⟨xs, h1, h2, h3⟩ := h
  exact .inl ⟨xs, h1, h2, fun x hx => .inl (h3 x hx)⟩
theorem MiO.empty (w : World) (base : Nat) (a : Option Addr) : MiO w base (.slice a 0 0) [] := .inr ⟨a, rfl, rfl⟩
theorem owns_ext {w w' : World} {base : Nat} {e : TypeId} {s n : Nat} {v : Value} {xs : List Value} (h : w.ownsRow base e s v n xs) (hx : Ext w w') : w'.ownsRow base e s v n xs := by
  refine ⟨h.1, ?_⟩
  rcases h.2 with h0 | ⟨g, cap, cur, rfl, hb, hh, r⟩
  · exact .inl h0
  · exact .inr ⟨g, cap, cur, rfl, hb, hx.block hh, r⟩
theorem MiO.ext {w w' : World} {base : Nat} {v : Value} {os : List Op1} (h : MiO w base v os) (hx : Ext w w') : MiO w' base v os := by
  rcases h with ⟨xs, h1, h2, h3⟩ | h
  · exact .inl ⟨xs, h1, owns_ext h2 hx, fun x hk => (h3 x hk).ext hx⟩
  · exact .inr h
theorem MiO.src {w : World} {base : Nat} {v : Value} {os : List Op1} (h : MiO w base v os) : SrcO base w v os := by
  rcases h with ⟨xs, rfl, h2, h3⟩ | ⟨a, rfl, rfl⟩
  · rcases h2.2 with ⟨rfl, h0⟩ | ⟨g, cap, cur, rfl, hb, hh, hn, hm, hsz, htk⟩
    · have : xs = [] := List.eq_nil_of_length_eq_zero (by omega)
      subst this
      exact ⟨none, 0, rfl, Nat.le_refl _, by decide, .inl rfl⟩
    · refine ⟨_, cap, by rw [List.length_map], by rw [List.length_map]; exact hn, hm, .inr ⟨g, 0, rfl, fun i hi => ?_⟩⟩
      rw [List.length_map] at hi
      obtain ⟨c0, c1⟩ := rowsO_at xs i hi
      have hget : ∀ j, j < xs.length * 2 → w.cell? ⟨g, 0 + j, none⟩ = (rowsO xs)[j]? := fun j hj => by
        rw [Nat.zero_add, cell_of_row w g j cur _ (0, 0) hh, ← htk, List.getElem?_take, if_pos hj]
        simp
      have hx : (xs.map (·.1)).getD i (0, []) = (xs.getD i ((0, []), undef)).1 := by simp [List.getD, hi]
      refine ⟨(xs.getD i ((0, []), undef)).2, ?_, ?_, ?_⟩
      · rw [hget _ (by omega), c0, hx]
      · rw [Nat.add_assoc, hget _ (by omega), c1]
      · rw [hx]
        exact h3 _ (by simp [List.getD, hi])
  · exact ⟨a, 0, rfl, Nat.le_refl _, by decide, .inl rfl⟩
theorem MiO.rdo {w : World} {base : Nat} {v : Value} {os : List Op1} (h : MiO w base v os) : RdO w v os := h.src.rdo

theorem src_list {base : Nat} {w : World} {rs : List Op1} {b o : Nat} (h : ∀ i, i < rs.length → ∃ x, w.cell? ⟨b, o + i * 2, none⟩ = some (.int .u8 (rs.getD i (0, [])).1) ∧ w.cell? ⟨b, o + i * 2 + 1, none⟩ = some x ∧ DatO base w x (rs.getD i (0, [])).2) :
    ∃ ys : List (Op1 × Value), ys.map (·.1) = rs ∧ (∀ j u, (rowsO ys)[j]? = some u → w.cell? ((⟨b, o, none⟩ : Addr).add j) = some u) ∧ (∀ y ∈ ys, DatO base w y.2 y.1.2) := by
  obtain ⟨f, hf⟩ : ∃ f : Nat → Value, ∀ i, i < rs.length → w.cell? ⟨b, o + i * 2, none⟩ = some (.int .u8 (rs.getD i (0, [])).1) ∧ w.cell? ⟨b, o + i * 2 + 1, none⟩ = some (f i) ∧ DatO base w (f i) (rs.getD i (0, [])).2 := by
    refine ⟨fun i => if hi : i < rs.length then Classical.choose (h i hi) else undef, fun i hi => ?_⟩
    simp only [hi, dif_pos]
    exact Classical.choose_spec (h i hi)
  have hl : ((List.range rs.length).map fun i => (rs.getD i (0, []), f i)).length = rs.length := by simp
  have hget : ∀ i, i < rs.length → ((List.range rs.length).map fun i => (rs.getD i (0, []), f i)).getD i ((0, []), undef) = (rs.getD i (0, []), f i) := fun i hi => by simp [List.getD, hi]
  refine ⟨(List.range rs.length).map fun i => (rs.getD i (0, []), f i), ?_, fun j u hu => ?_, fun y hy => ?_⟩
  · apply List.ext_getElem
    · simp
    · intro i h1 h2
      simp [List.getD, h2]
  · have hj : j < rs.length * 2 := by
      have h1 := rowsO_len ((List.range rs.length).map fun i => (rs.getD i (0, []), f i))
      rw [hl] at h1
      rcases Nat.lt_or_ge j (rs.length * 2) with h | h
      · exact h
      · rw [List.getElem?_eq_none (by rw [h1]; exact h)] at hu; cases hu
    have hi : j / 2 < rs.length := by omega
    obtain ⟨c0, c1⟩ := rowsO_at ((List.range rs.length).map fun i => (rs.getD i (0, []), f i)) (j / 2) (by rw [hl]; exact hi)
    rw [hget _ hi] at c0 c1
    obtain ⟨d0, d1, -⟩ := hf (j / 2) hi
    rw [Addr.add_lit]
    rcases (by omega : j = j / 2 * 2 ∨ j = j / 2 * 2 + 1) with he | he
    · rw [he] at hu ⊢
      rw [c0] at hu
      rw [d0]
      exact hu
    · rw [he] at hu ⊢
      rw [c1] at hu
      rw [← Nat.add_assoc, d1]
      exact hu
  · obtain ⟨i, hi, rfl⟩ := List.mem_map.1 hy
    exact (hf i (by simpa using hi)).2.2

theorem rowsO_one {ys : List (Op1 × Value)} {base : Nat} {w : World} (h : ∀ y ∈ ys, DatO base w y.2 y.1.2) : ∀ u ∈ rowsO ys, u.oneCell' = true := by
  intro u hu
  unfold rowsO at hu
  rw [List.mem_flatMap] at hu
  obtain ⟨y, hy, hu⟩ := hu
  simp only [List.mem_cons, List.not_mem_nil, or_false] at hu
  rcases hu with rfl | rfl
  · rfl
  · obtain ⟨a, n, c, he⟩ := (h y hy).rd.shape
    rw [he]; rfl
theorem rowsO_app (a b : List (Op1 × Value)) : rowsO (a ++ b) = rowsO a ++ rowsO b := by simp [rowsO]

theorem run_appM_nothing (w : World) (ty : TypeId) (a : Option Addr) (n cap : Nat) (b : Option Addr) (c : Nat) (hn : n ≤ cap) (ha : a = none → n = 0) :
    (Builtin.append_ #[27, 27] ty #[.slice a n cap, .slice b 0 c]).run Tryz.prog w = .ok (.slice a n cap) w := by
  obtain ⟨i, hi, hz, hs, hb⟩ := info_opt
  cases a <;> cases b <;> simp [Builtin.append_, run_underlying under_opts, sizeOf, typeInfo, hi, Builtin.lenOf, Builtin.firstCells, hn, storeCells, loadCells, loadCellsFrom]

theorem run_appM (w : World) (base : Nat) (ty : TypeId) (v : Value) (os : List Op1) (h : MiO w base v os) (u : Value) (rs : List Op1) (hu : SrcO base w u rs) (hn : os.length + rs.length ≤ 100000) (hbase : base ≤ w.heap.size) :
    ∃ v' w', (Builtin.append_ #[27, 27] ty #[v, u]).run Tryz.prog w = .ok v' w' ∧ MiO w' base v' (os ++ rs) ∧ ∀ w0 : World, w0.heap.size ≤ base → Ext w0 w → Ext w0 w' := by
  obtain ⟨i, hi, hz, hs, hb⟩ := info_opt
  obtain ⟨a, cap, rfl, hc1, hc2, hsrc⟩ := hu
  have same : rs = [] → MiO w base v (os ++ rs) := fun h0 => by subst h0; rw [List.append_nil]; exact h
  have hv : ∃ va vn vc, v = .slice va vn vc ∧ vn ≤ vc ∧ (va = none → vn = 0) := by
    rcases h with ⟨xs, rfl, h2, h3⟩ | ⟨a, rfl, rfl⟩
    · rcases h2.2 with ⟨rfl, h0⟩ | ⟨g, cap, cur, rfl, hb, hh, hn, hm, hsz, htk⟩
      · exact ⟨_, _, _, rfl, Nat.le_refl _, fun _ => rfl⟩
      · exact ⟨_, _, _, rfl, hn, fun h => by cases h⟩
    · exact ⟨_, _, _, rfl, Nat.le_refl _, fun _ => rfl⟩
  by_cases h0 : rs = []
  · obtain ⟨va, vn, vc, rfl, h1, h2⟩ := hv
    have hrun := run_appM_nothing w ty va vn vc a cap h1 h2
    subst h0
    exact ⟨_, w, hrun, same rfl, fun w0 _ hx => hx⟩
  · have hpos : 0 < rs.length := by
      rcases Nat.eq_zero_or_pos rs.length with hz | hz
      · exact absurd (List.eq_nil_of_length_eq_zero hz) h0
      · exact hz
    rcases hsrc with hsrc | ⟨b, o, rfl, hsrc⟩
    · exact absurd hsrc h0
    obtain ⟨ys, hy1, hy2, hy3⟩ := src_list hsrc
    have hyl : ys.length = rs.length := by rw [← hy1, List.length_map]
    have owned : ∀ (v : Value) (xs : List (Op1 × Value)), xs.map (·.1) = os → w.ownsRow base 48 2 v xs.length (rowsO xs) → (∀ x ∈ xs, DatO base w x.2 x.1.2) → ∃ v' w', (Builtin.append_ #[27, 27] ty #[v, .slice (some ⟨b, o, none⟩) rs.length cap]).run Tryz.prog w = .ok v' w' ∧ MiO w' base v' (os ++ rs) ∧ ∀ w0 : World, w0.heap.size ≤ base → Ext w0 w → Ext w0 w' := by
      intro v xs hxs h2 h3
      have hxl : xs.length = os.length := by rw [← hxs, List.length_map]
      obtain ⟨v', w', hrun, ho, hg, -, hat⟩ := run_append_own_at (P := Tryz.prog) w base 27 ty 48 i _ 2 32 under_opts hi hz hs hb rfl (by decide) v xs.length (rowsO xs) h2 ⟨b, o, none⟩ rs.length cap (rowsO ys) (by rw [rowsO_len, hyl]) hy2 (rowsO_one hy3) (by unfold maxLen; omega) (by omega) hbase
      refine ⟨v', w', hrun, .inl ⟨xs ++ ys, by rw [List.map_append, hxs, hy1], ?_, fun x hx => ?_⟩, fun w0 hw0 hx => ext_grown hx hg (fun j hj => Nat.le_trans hw0 (World.ownsRow.lt h2 j hj).1)⟩
      · rw [rowsO_app, List.length_append, hyl]; exact ho
      · rcases List.mem_append.1 hx with hx | hx
        · exact (h3 x hx).grown h2 hg
        · exact (hy3 x hx).grown h2 hg
    rcases h with ⟨xs, hxs, h2, h3⟩ | ⟨va, rfl, rfl⟩
    · exact owned v xs hxs h2 h3
    · cases va with
      | none => exact owned _ [] rfl (World.ownsRow_nil w base _ 2) (fun x hx => by cases hx)
      | some ad =>
        obtain ⟨v', w', hrun, ho, hg⟩ := run_append_arg_grows (P := Tryz.prog) w 27 ty 48 i _ 2 32 under_opts hi hz hs hb rfl (by decide) ad 0 0 [] rfl (by simp) ⟨b, o, none⟩ rs.length cap (rowsO ys) (by rw [rowsO_len, hyl]) hy2 (by omega) (by unfold maxLen; simp at hn; omega) (by simp at hn; omega)
        have hx1 := Ext.of_grown hg
        have ho' : w'.ownsRow base 48 2 v' ys.length (rowsO ys) := by
          have h := World.ownsRow.mono ho hbase
          rw [hyl]
          simpa using h
        exact ⟨v', w', hrun, .inl ⟨ys, by rw [hy1]; rfl, ho', fun y hy => (hy3 y hy).ext hx1⟩, fun w0 _ hx => hx.tr hx1⟩

theorem rowsO_set : ∀ (xs : List (Op1 × Value)) (i : Nat) (l : List Int) (u : Value), i < xs.length → rowsO (xs.set i (((xs.getD i ((0, []), undef)).1.1, l), u)) = (rowsO xs).set (i * 2 + 1) u
  | [], i, l, u, h => by simp at h
  | x :: xs, 0, l, u, h => by simp [rowsO]
  | x :: xs, i + 1, l, u, h => by
    have ih := rowsO_set xs i l u (by simpa using h)
    rw [show (i + 1) * 2 + 1 = i * 2 + 1 + 1 + 1 from by omega]
    have e : ∀ (y : Op1 × Value) (ys : List (Op1 × Value)), rowsO (y :: ys) = .int .u8 y.1.1 :: y.2 :: rowsO ys := fun y ys => by simp [rowsO]
    rw [List.set_cons_succ, e, e, List.set_cons_succ, List.set_cons_succ, ← ih]
    simp [List.getD]

/-- A store into an option's data. -/
theorem MiO.stored {w : World} {base g n c : Nat} {os : List Op1} (h : MiO w base (.slice (some ⟨g, 0, none⟩) n c) os) (i : Nat) (hi : i < os.length) (u : Value) (l : List Int) (hu : DatO base w u l) :
    MiO (w.setCell ⟨g, i * 2 + 1, none⟩ u) base (.slice (some ⟨g, 0, none⟩) n c) (os.set i ((os.getD i (0, [])).1, l)) ∧ (∀ w0 : World, w0.heap.size ≤ base → Ext w0 w → Ext w0 (w.setCell ⟨g, i * 2 + 1, none⟩ u)) ∧ w.frozen? ⟨g, i * 2 + 1, none⟩ = false := by
  rcases h with ⟨xs, rfl, h2, h3⟩ | ⟨va, hv, rfl⟩
  · rw [List.length_map] at hi
    have hn : n = xs.length := by
      rcases h2.2 with ⟨h', _⟩ | ⟨g', cap, cur, h', _⟩
      · cases h'
      · cases h'; rfl
    subst hn
    obtain ⟨k1, k2⟩ := World.ownsRow.stored h2 (i * 2 + 1) u
    have hx : ((xs.map (·.1)).getD i (0, [])) = (xs.getD i ((0, []), undef)).1 := by simp [List.getD, hi]
    refine ⟨.inl ⟨xs.set i (((xs.getD i ((0, []), undef)).1.1, l), u), ?_, ?_, fun x hx => ?_⟩, fun w0 hw0 hx => ext_grown hx k2 (fun j hj => ?_), World.ownsRow.frozenAt h2 _⟩
    · rw [List.map_set, hx]
    · rw [rowsO_set _ _ _ _ hi, List.length_set]; exact k1
    · rcases List.mem_or_eq_of_mem_set hx with hx | rfl
      · exact (h3 x hx).grown h2 k2
      · exact DatO.grown h2 k2 hu
    · cases hj
      exact Nat.le_trans hw0 (World.ownsRow.lt h2 g rfl).1
  · simp at hi
theorem MiO.form {w : World} {base : Nat} {v : Value} {os : List Op1} (h : MiO w base v os) (hn : 0 < os.length) : ∃ g cap, v = .slice (some ⟨g, 0, none⟩) os.length cap ∧ base ≤ g ∧ g < w.heap.size := by
  rcases h with ⟨xs, rfl, h2, h3⟩ | ⟨va, hv, rfl⟩
  · rw [List.length_map] at hn ⊢
    exact h2.form hn
  · simp at hn
end Go.Proofs.YtbaidlkjbdeceaaGreat
