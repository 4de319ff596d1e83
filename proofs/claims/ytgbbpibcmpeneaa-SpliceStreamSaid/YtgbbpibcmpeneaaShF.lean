/-
  Proved here: culvertlaw25's few and plain: a segment of at most 1600 bytes and 20 options of at most 60; its flags without Syn; whether it can go over.
-/
import Derived.Test.YtgbbpibcmpeneaaShX
import Derived.Test.YtgbbpibcmpeneaaOptA
import Derived.Test.YtgbbpibcmpeneaaRow
namespace Go.Proofs.Ytgbbpibcmpeneaa
set_option maxRecDepth 200000
open Go.ChangeShapes Go.WideShapes Go.ChangeAt Go.RowKit Go.Cul Go.Loose
set_option linter.unusedVariables false
attribute [local go_sem] Loose.Still Loose.Upon Loose.vUpon

def fw1 (o : Op1) : Op1 := (o.1, o.2.take 60)
def fwO (os : List Op1) : List Op1 := (os.take 20).map fw1
def fwG (g : Sg) : Sg := { g with os := fwO g.os, data := g.data.take 1600 }
theorem fwO_len (os : List Op1) : (fwO os).length ≤ 20 := by unfold fwO; rw [List.length_map, List.length_take]; omega
theorem fwO_byt {os : List Op1} (h : BytO os) : BytO (fwO os) := by
  intro o ho
  obtain ⟨x, hx, rfl⟩ := List.mem_map.1 ho
  have := h x (List.mem_of_mem_take hx)
  exact ⟨this.1, this.2.take _⟩
theorem fwO_dl (os : List Op1) : ∀ o ∈ fwO os, o.2.length ≤ 60 := by
  intro o ho
  obtain ⟨x, hx, rfl⟩ := List.mem_map.1 ho
  show (x.2.take 60).length ≤ 60
  rw [List.length_take]; omega
theorem fwG_ok {g : Sg} (h : g.ok) : (fwG g).ok := ⟨h.sp, h.dp, h.seq, h.ack, h.f, h.win, h.urg, fwO_byt h.os, h.data.take _⟩
/-- The first i are cut. -/
def cutF (os : List Op1) (i : Nat) : List Op1 := (os.take i).map fw1 ++ os.drop i
theorem cutF_len (os : List Op1) (i : Nat) : (cutF os i).length = os.length := by unfold cutF; simp only [List.length_append, List.length_map, List.length_take, List.length_drop]; omega
theorem cutF_at {os : List Op1} {i : Nat} (h : i < os.length) : (cutF os i).getD i (0, []) = os.getD i (0, []) := by
  unfold cutF
  have hl : ((os.take i).map fw1).length = i := by rw [List.length_map, List.length_take]; omega
  simp only [List.getD, List.getElem?_append_right (show ((os.take i).map fw1).length ≤ i by omega), hl, Nat.sub_self, List.getElem?_drop, Nat.add_zero]
theorem cutF_set {os : List Op1} {i : Nat} (h : i < os.length) : (cutF os i).set i ((os.getD i (0, [])).1, (os.getD i (0, [])).2.take 60) = cutF os (i + 1) := by
  unfold cutF
  have hl : ((os.take i).map fw1).length = i := by rw [List.length_map, List.length_take]; omega
  rw [List.set_append_right _ _ (by omega), hl, Nat.sub_self, List.drop_eq_getElem_cons h, List.set_cons_zero, take_succ_getD' (0, []) os i h, List.map_append]
  simp only [List.map_cons, List.map_nil, fw1, List.append_assoc, List.singleton_append]

/-- New memory that holds options; their data was there at w0. -/
def RoW (w0 w : World) (base : Nat) (v : Value) (os : List Op1) : Prop :=
  (∃ xs : List (Op1 × Value), xs.map (·.1) = os ∧ w.ownsRow base 98 2 v xs.length (rowsO xs) ∧ ∀ x ∈ xs, Rd .u8 w0 x.2 x.1.2) ∨ ∃ a, v = .slice a 0 0 ∧ os = []
theorem RoW.mio {w0 w : World} {base : Nat} {v : Value} {os : List Op1} (h : RoW w0 w base v os) (h0 : w0.heap.size ≤ base) (hx : Ext w0 w) : MiO w base v os := by
  rcases h with ⟨xs, h1, h2, h3⟩ | h
  · exact .inl ⟨xs, h1, h2, fun x hk => .inr ⟨w0, h0, hx, h3 x hk⟩⟩
  · exact .inr h
theorem RoW.keep {w0 w w' : World} {base : Nat} {v : Value} {os : List Op1} (h : RoW w0 w base v os) (hk : Keep base w w') : RoW w0 w' base v os := by
  rcases h with ⟨xs, h1, h2, h3⟩ | h
  · refine .inl ⟨xs, h1, ⟨h2.1, ?_⟩, h3⟩
    rcases h2.2 with h0 | ⟨g, cap, cur, rfl, hb, hh, r⟩
    · exact .inl h0
    · exact .inr ⟨g, cap, cur, rfl, hb, hk g _ hb hh, r⟩
  · exact .inr h
theorem RoW.lowS {w0 w : World} {base base' : Nat} {v : Value} {os : List Op1} (h : RoW w0 w base v os) (hb : base' ≤ base) : RoW w0 w base' v os := by
  rcases h with ⟨xs, h1, h2, h3⟩ | h
  · refine .inl ⟨xs, h1, ⟨h2.1, ?_⟩, h3⟩
    rcases h2.2 with h0 | ⟨g, cap, cur, rfl, hb', r⟩
    · exact .inl h0
    · exact .inr ⟨g, cap, cur, rfl, by omega, r⟩
  · exact .inr h
/-- Options appended to an empty slice. -/
theorem run_appW (w0 w : World) (ty : TypeId) (va : Option Addr) (hva : va ≠ none) (u : Value) (rs : List Op1) (hu : RdO w0 u rs) (hx : Ext w0 w) (hn : rs.length ≤ 100000) :
    ∃ v' w', (Builtin.append_ #[49, 49] ty #[.slice va 0 0, u]).run Try.prog w = .ok v' w' ∧ RoW w0 w' w.heap.size v' rs ∧ Ext w w' := by
  obtain ⟨i, hi, hz, hs, hb⟩ := info_opt
  have hsrc := SrcO.of (base := w0.heap.size) hu (Nat.le_refl _) (Ext.rfl' w0)
  obtain ⟨a, cap, rfl, hc1, hc2, hsrc⟩ := hsrc
  rcases hsrc with rfl | ⟨b, o, rfl, hsrc⟩
  · exact ⟨_, w, run_appM_nothing w ty va 0 0 a cap (Nat.le_refl _) (fun _ => rfl), .inr ⟨_, rfl, rfl⟩, Ext.rfl' w⟩
  · rcases Nat.eq_zero_or_pos rs.length with h0 | h0
    · have : rs = [] := List.eq_nil_of_length_eq_zero h0
      subst this
      exact ⟨_, w, run_appM_nothing w ty va 0 0 _ cap (Nat.le_refl _) (fun _ => rfl), .inr ⟨_, rfl, rfl⟩, Ext.rfl' w⟩
    obtain ⟨ys, hy1, hy2, hy3⟩ := src_list hsrc
    have hyl : ys.length = rs.length := by rw [← hy1, List.length_map]
    cases va with
    | none => exact absurd rfl hva
    | some ad =>
      obtain ⟨v', w', hrun, ho, hg⟩ := run_append_arg_grows (P := Try.prog) w 49 ty 98 i _ 2 32 under_opts hi hz hs hb rfl (by decide) ad 0 0 [] rfl (by simp) ⟨b, o, none⟩ rs.length cap (rowsO ys) (by rw [rowsO_len, hyl]) (fun j u hj => hx.cell (hy2 j u hj)) (by omega) (by unfold maxLen; omega) (by omega)
      refine ⟨v', w', hrun, .inl ⟨ys, hy1, ?_, fun y hy => (hy3 y hy).rd⟩, Ext.of_grown hg⟩
      rw [hyl]
      simpa using ho
theorem wpList_appW {w : World} {ops : Array Oper} {rest : List Oper} {o : Oper} {a : Act} {Q : Exit → Act → World → Prop} (hgd : o.guard = none) (s x : Operand)
    (ho : o.op = .call { callee := .builtin .append, args := #[s, x], argTypes := #[49, 49] }) (w0 : World) (va : Option Addr) (hva : va ≠ none) (hs : a.eval s = .slice va 0 0) (u : Value) (rs : List Op1) (hx : a.eval x = u) (hr : RdO w0 u rs) (hx0 : Ext w0 w)
    (hn : rs.length ≤ 100000)
    (h : ∀ v' w', RoW w0 w' w.heap.size v' rs → Ext w w' → wpList Try.prog ops Q rest (a.put o.dst v') w') : wpList Try.prog ops Q (o :: rest) a w :=
  wpList_plain hgd fun _ hK => by
    obtain ⟨v', w', hrun, h2, h3⟩ := run_appW w0 w o.type va hva u rs hr hx0 hn
    unfold Oper.wp execOp
    simp only [ho, resolve, invoke, builtin, Sem.run_bind, Sem.run_pure, Result.andThen_ok, List.map_toArray, List.map_cons, List.map_nil, hs, hx, hrun]
    exact hK _ _ (h v' w' h2 h3)
/-- A store into an option's data. -/
theorem RoW.stored {w0 w : World} {base g n c : Nat} {os : List Op1} (h : RoW w0 w base (.slice (some ⟨g, 0, none⟩) n c) os) (i : Nat) (hi : i < os.length) (u : Value) (l : List Int) (hu : Rd .u8 w0 u l) :
    RoW w0 (w.setCell ⟨g, i * 2 + 1, none⟩ u) base (.slice (some ⟨g, 0, none⟩) n c) (os.set i ((os.getD i (0, [])).1, l)) ∧ w.frozen? ⟨g, i * 2 + 1, none⟩ = false ∧ base ≤ g := by
  rcases h with ⟨xs, rfl, h2, h3⟩ | ⟨va, hv, rfl⟩
  · rw [List.length_map] at hi
    have hn : n = xs.length := by
      rcases h2.2 with ⟨h', _⟩ | ⟨g', cap, cur, h', _⟩
      · cases h'
      · cases h'; rfl
    subst hn
    obtain ⟨k1, k2⟩ := World.ownsRow.stored h2 (i * 2 + 1) u
    have hx : ((xs.map (·.1)).getD i (0, [])) = (xs.getD i ((0, []), undef)).1 := by simp [List.getD, hi]
    refine ⟨.inl ⟨xs.set i (((xs.getD i ((0, []), undef)).1.1, l), u), ?_, ?_, fun x hx => ?_⟩, World.ownsRow.frozenAt h2 _, (World.ownsRow.lt h2 g rfl).1⟩
    · rw [List.map_set, hx]
    · rw [rowsO_set _ _ _ _ hi, List.length_set]; exact k1
    · rcases List.mem_or_eq_of_mem_set hx with hx | rfl
      · exact h3 x hx
      · exact hu
  · simp at hi
theorem RoW.form {w0 w : World} {base : Nat} {v : Value} {os : List Op1} (h : RoW w0 w base v os) (hn : 0 < os.length) : ∃ g cap, v = .slice (some ⟨g, 0, none⟩) os.length cap ∧ base ≤ g ∧ g < w.heap.size ∧ os.length ≤ cap ∧ cap ≤ maxLen ∧
    ∀ i, i < os.length → ∃ x, w.cell? ⟨g, i * 2, none⟩ = some (.int .u8 (os.getD i (0, [])).1) ∧ w.cell? ⟨g, i * 2 + 1, none⟩ = some x ∧ Rd .u8 w0 x (os.getD i (0, [])).2 := by
  rcases h with ⟨xs, rfl, h2, h3⟩ | ⟨va, hv, rfl⟩
  · rw [List.length_map] at hn ⊢
    rcases h2.2 with ⟨rfl, h0⟩ | ⟨g, cap, cur, rfl, hb, hh, hn', hm, hsz, htk⟩
    · omega
    refine ⟨g, cap, rfl, hb, lt_of_block hh, hn', hm, fun i hi => ?_⟩
    have hx : (xs.map (·.1)).getD i (0, []) = (xs.getD i ((0, []), undef)).1 := by simp [List.getD, hi]
    obtain ⟨c0, c1⟩ := rowsO_at xs i hi
    refine ⟨(xs.getD i ((0, []), undef)).2, ?_, ?_, ?_⟩
    · rw [hx, ← c0, cell_of_row w g (i * 2) cur _ (0, 0) hh, ← htk, List.getElem?_take, if_pos (by omega)]
      simp
    · rw [← c1, cell_of_row w g (i * 2 + 1) cur _ (0, 0) hh, ← htk, List.getElem?_take, if_pos (by omega)]
      simp
    · rw [hx]
      exact h3 _ (by simp [List.getD, hi])
  · simp at hn
theorem RoW.shape {w0 w : World} {base : Nat} {v : Value} {os : List Op1} (h : RoW w0 w base v os) : ∃ a c, v = .slice a os.length c ∧ os.length ≤ c ∧ c ≤ maxLen := by
  rcases h with ⟨xs, rfl, h2, h3⟩ | ⟨va, rfl, rfl⟩
  · rcases h2.2 with ⟨rfl, h0⟩ | ⟨g, cap, cur, rfl, hb, hh, hn', hm, hsz, htk⟩
    · exact ⟨none, 0, by simp [h0], by simp [h0], by decide⟩
    · exact ⟨some ⟨g, 0, none⟩, cap, by simp, by simpa using hn', hm⟩
  · exact ⟨va, 0, rfl, by simp, by decide⟩

end Go.Proofs.Ytgbbpibcmpeneaa
