/-
  Proved here: culvertlaw09's few: a packet of at most 1600 bytes in each part and 20 options of at most 60. (PRINTED BY tools/genfew.py)
-/
import Derived.Test.YtbaidlkjbdeceaaPkX
import Derived.Test.YtbaidlkjbdeceaaOptM
import Derived.Test.YtbaidlkjbdeceaaRow
namespace Go.Proofs.Ytbaidlkjbdeceaa
set_option maxRecDepth 200000
open Go.ChangeShapes Go.WideShapes Go.ChangeAt Go.RowKit Go.Cul Go.Loose
set_option linter.unusedVariables false
attribute [local go_sem] Loose.Still Loose.Upon Loose.vUpon

def fx1 (o : Op1) : Op1 := (o.1, o.2.take 60)
def fxO (os : List Op1) : List Op1 := (os.take 20).map fx1
theorem fxO_len (os : List Op1) : (fxO os).length ≤ 20 := by unfold fxO; rw [List.length_map, List.length_take]; omega
theorem fxO_byt {os : List Op1} (h : BytO os) : BytO (fxO os) := by
  intro o ho
  obtain ⟨x, hx, rfl⟩ := List.mem_map.1 ho
  have := h x (List.mem_of_mem_take hx)
  exact ⟨this.1, this.2.take _⟩
theorem fxO_dl (os : List Op1) : ∀ o ∈ fxO os, o.2.length ≤ 60 := by
  intro o ho
  obtain ⟨x, hx, rfl⟩ := List.mem_map.1 ho
  show (x.2.take 60).length ≤ 60
  rw [List.length_take]; omega
/-- The first i are cut. -/
def cutX (os : List Op1) (i : Nat) : List Op1 := (os.take i).map fx1 ++ os.drop i
theorem cutX_len (os : List Op1) (i : Nat) : (cutX os i).length = os.length := by unfold cutX; simp only [List.length_append, List.length_map, List.length_take, List.length_drop]; omega
theorem cutX_at {os : List Op1} {i : Nat} (h : i < os.length) : (cutX os i).getD i (0, []) = os.getD i (0, []) := by
  unfold cutX
  have hl : ((os.take i).map fx1).length = i := by rw [List.length_map, List.length_take]; omega
  simp only [List.getD, List.getElem?_append_right (show ((os.take i).map fx1).length ≤ i by omega), hl, Nat.sub_self, List.getElem?_drop, Nat.add_zero]
theorem cutX_set {os : List Op1} {i : Nat} (h : i < os.length) : (cutX os i).set i ((os.getD i (0, [])).1, (os.getD i (0, [])).2.take 60) = cutX os (i + 1) := by
  unfold cutX
  have hl : ((os.take i).map fx1).length = i := by rw [List.length_map, List.length_take]; omega
  rw [List.set_append_right _ _ (by omega), hl, Nat.sub_self, List.drop_eq_getElem_cons h, List.set_cons_zero, take_succ_getD' (0, []) os i h, List.map_append]
  simp only [List.map_cons, List.map_nil, fx1, List.append_assoc, List.singleton_append]

/-- New memory that holds options; their data was there at w0. -/
def RoX (w0 w : World) (base : Nat) (v : Value) (os : List Op1) : Prop :=
  (∃ xs : List (Op1 × Value), xs.map (·.1) = os ∧ w.ownsRow base 55 2 v xs.length (rowsO xs) ∧ ∀ x ∈ xs, Rd .u8 w0 x.2 x.1.2) ∨ ∃ a, v = .slice a 0 0 ∧ os = []
theorem RoX.mio {w0 w : World} {base : Nat} {v : Value} {os : List Op1} (h : RoX w0 w base v os) (h0 : w0.heap.size ≤ base) (hx : Ext w0 w) : MiO w base v os := by
  rcases h with ⟨xs, h1, h2, h3⟩ | h
  · exact .inl ⟨xs, h1, h2, fun x hk => .inr ⟨w0, h0, hx, h3 x hk⟩⟩
  · exact .inr h
theorem RoX.keep {w0 w w' : World} {base : Nat} {v : Value} {os : List Op1} (h : RoX w0 w base v os) (hk : Keep base w w') : RoX w0 w' base v os := by
  rcases h with ⟨xs, h1, h2, h3⟩ | h
  · refine .inl ⟨xs, h1, ⟨h2.1, ?_⟩, h3⟩
    rcases h2.2 with h0 | ⟨g, cap, cur, rfl, hb, hh, r⟩
    · exact .inl h0
    · exact .inr ⟨g, cap, cur, rfl, hb, hk g _ hb hh, r⟩
  · exact .inr h
theorem RoX.lowS {w0 w : World} {base base' : Nat} {v : Value} {os : List Op1} (h : RoX w0 w base v os) (hb : base' ≤ base) : RoX w0 w base' v os := by
  rcases h with ⟨xs, h1, h2, h3⟩ | h
  · refine .inl ⟨xs, h1, ⟨h2.1, ?_⟩, h3⟩
    rcases h2.2 with h0 | ⟨g, cap, cur, rfl, hb', r⟩
    · exact .inl h0
    · exact .inr ⟨g, cap, cur, rfl, by omega, r⟩
  · exact .inr h
/-- Options appended to an empty slice. -/
theorem run_appX (w0 w : World) (ty : TypeId) (va : Option Addr) (hva : va ≠ none) (u : Value) (rs : List Op1) (hu : RdO w0 u rs) (hx : Ext w0 w) (hn : rs.length ≤ 100000) :
    ∃ v' w', (Builtin.append_ #[27, 27] ty #[.slice va 0 0, u]).run Try.prog w = .ok v' w' ∧ RoX w0 w' w.heap.size v' rs ∧ Ext w w' := by
  obtain ⟨i, hi, hz, hs, hb⟩ := info_opt
  have hsrc := SrcO.of (base := w0.heap.size) hu (Nat.le_refl _) (Ext.rfl' w0)
  obtain ⟨a, cap, rfl, hc1, hc2, hsrc⟩ := hsrc
  rcases hsrc with rfl | ⟨b, o, rfl, hsrc⟩
  · exact ⟨_, w, run_appM_nothing w ty va 0 0 a cap (Nat.le_refl _) (fun _ => rfl), .inr ⟨_, rfl, rfl⟩, Ext.rfl' w⟩
  · rcases Nat.eq_zero_or_pos rs.length with h0 | h0
    · have : rs = [] := List.eq_nil_of_length_eq_zero h0
      subst this
      exact ⟨_, w, run_appM_nothing w ty va 0 0 _ cap (Nat.le_refl _) (fun _ => rfl), .inr ⟨_, rfl, rfl⟩, Ext.rfl' w⟩
    obtain ⟨ys, hy1, hy2, hy3⟩ := src_list hsrc
    have hyl : ys.length = rs.length := by rw [← hy1, List.length_map]
    cases va with
    | none => exact absurd rfl hva
    | some ad =>
      obtain ⟨v', w', hrun, ho, hg⟩ := run_append_arg_grows (P := Try.prog) w 27 ty 55 i _ 2 32 under_opts hi hz hs hb rfl (by decide) ad 0 0 [] rfl (by simp) ⟨b, o, none⟩ rs.length cap (rowsO ys) (by rw [rowsO_len, hyl]) (fun j u hj => hx.cell (hy2 j u hj)) (by omega) (by unfold maxLen; omega) (by omega)
      refine ⟨v', w', hrun, .inl ⟨ys, hy1, ?_, fun y hy => (hy3 y hy).rd⟩, Ext.of_grown hg⟩
      rw [hyl]
      simpa using ho
theorem wpList_appX {w : World} {ops : Array Oper} {rest : List Oper} {o : Oper} {a : Act} {Q : Exit → Act → World → Prop} (hgd : o.guard = none) (s x : Operand)
    (ho : o.op = .call { callee := .builtin .append, args := #[s, x], argTypes := #[27, 27] }) (w0 : World) (va : Option Addr) (hva : va ≠ none) (hs : a.eval s = .slice va 0 0) (u : Value) (rs : List Op1) (hx : a.eval x = u) (hr : RdO w0 u rs) (hx0 : Ext w0 w)
    (hn : rs.length ≤ 100000)
    (h : ∀ v' w', RoX w0 w' w.heap.size v' rs → Ext w w' → wpList Try.prog ops Q rest (a.put o.dst v') w') : wpList Try.prog ops Q (o :: rest) a w :=
  wpList_plain hgd fun _ hK => by
    obtain ⟨v', w', hrun, h2, h3⟩ := run_appX w0 w o.type va hva u rs hr hx0 hn
    unfold Oper.wp execOp
    simp only [ho, resolve, invoke, builtin, Sem.run_bind, Sem.run_pure, Result.andThen_ok, List.map_toArray, List.map_cons, List.map_nil, hs, hx, hrun]
    exact hK _ _ (h v' w' h2 h3)
/-- A store into an option's data. -/
theorem RoX.stored {w0 w : World} {base g n c : Nat} {os : List Op1} (h : RoX w0 w base (.slice (some ⟨g, 0, none⟩) n c) os) (i : Nat) (hi : i < os.length) (u : Value) (l : List Int) (hu : Rd .u8 w0 u l) :
    RoX w0 (w.setCell ⟨g, i * 2 + 1, none⟩ u) base (.slice (some ⟨g, 0, none⟩) n c) (os.set i ((os.getD i (0, [])).1, l)) ∧ w.frozen? ⟨g, i * 2 + 1, none⟩ = false ∧ base ≤ g := by
  rcases h with ⟨xs, rfl, h2, h3⟩ | ⟨va, hv, rfl⟩
  · rw [List.length_map] at hi
    have hn : n = xs.length := by
      rcases h2.2 with ⟨h', _⟩ | ⟨g', cap, cur, h', _⟩
      · cases h'
      · cases h'; rfl
    subst hn
    obtain ⟨k1, k2⟩ := World.ownsRow.stored h2 (i * 2 + 1) u
    have hx : ((xs.map (·.1)).getD i (0, [])) = (xs.getD i ((0, []), undef)).1 := by simp [List.getD, hi]
    refine ⟨.inl ⟨xs.set i (((xs.getD i ((0, []), undef)).1.1, l), u), ?_, ?_, fun x hx => ?_⟩, World.ownsRow.frozenAt h2 _, (World.ownsRow.lt h2 g rfl).1⟩
    · rw [List.map_set, hx]
    · rw [rowsO_set _ _ _ _ hi, List.length_set]; exact k1
    · rcases List.mem_or_eq_of_mem_set hx with hx | rfl
      · exact h3 x hx
      · exact hu
  · simp at hi
theorem RoX.form {w0 w : World} {base : Nat} {v : Value} {os : List Op1} (h : RoX w0 w base v os) (hn : 0 < os.length) : ∃ g cap, v = .slice (some ⟨g, 0, none⟩) os.length cap ∧ base ≤ g ∧ g < w.heap.size ∧ os.length ≤ cap ∧ cap ≤ maxLen ∧
    ∀ i, i < os.length → ∃ x, w.cell? ⟨g, i * 2, none⟩ = some (.int .u8 (os.getD i (0, [])).1) ∧ w.cell? ⟨g, i * 2 + 1, none⟩ = some x ∧ Rd .u8 w0 x (os.getD i (0, [])).2 := by
  rcases h with ⟨xs, rfl, h2, h3⟩ | ⟨va, hv, rfl⟩
  · rw [List.length_map] at hn ⊢
    rcases h2.2 with ⟨rfl, h0⟩ | ⟨g, cap, cur, rfl, hb, hh, hn', hm, hsz, htk⟩
    · omega
    refine ⟨g, cap, rfl, hb, lt_of_block hh, hn', hm, fun i hi => ?_⟩
    have hx : (xs.map (·.1)).getD i (0, []) = (xs.getD i ((0, []), undef)).1 := by simp [List.getD, hi]
    obtain ⟨c0, c1⟩ := rowsO_at xs i hi
    refine ⟨(xs.getD i ((0, []), undef)).2, ?_, ?_, ?_⟩
    · rw [hx, ← c0, cell_of_row w g (i * 2) cur _ (0, 0) hh, ← htk, List.getElem?_take, if_pos (by omega)]
      simp
    · rw [← c1, cell_of_row w g (i * 2 + 1) cur _ (0, 0) hh, ← htk, List.getElem?_take, if_pos (by omega)]
      simp
    · rw [hx]
      exact h3 _ (by simp [List.getD, hi])
  · simp at hn
theorem RoX.shape {w0 w : World} {base : Nat} {v : Value} {os : List Op1} (h : RoX w0 w base v os) : ∃ a c, v = .slice a os.length c ∧ os.length ≤ c ∧ c ≤ maxLen := by
  rcases h with ⟨xs, rfl, h2, h3⟩ | ⟨va, rfl, rfl⟩
  · rcases h2.2 with ⟨rfl, h0⟩ | ⟨g, cap, cur, rfl, hb, hh, hn', hm, hsz, htk⟩
    · exact ⟨none, 0, by simp [h0], by simp [h0], by decide⟩
    · exact ⟨some ⟨g, 0, none⟩, cap, by simp, by simpa using hn', hm⟩
  · exact ⟨va, 0, rfl, by simp, by decide⟩

theorem rdo_take9 {w : World} {a : Option Addr} {n cap : Nat} {os : List Op1} (h : RdO w (.slice a n cap) os) {m : Nat} (hm : m ≤ os.length) : RdO w (.slice a m cap) (os.take m) := by
  obtain ⟨a', cap', he, h1, h2, h3⟩ := h
  cases he
  have hl : (os.take m).length = m := by rw [List.length_take]; omega
  refine ⟨a, cap, by rw [hl], by omega, h2, ?_⟩
  rcases h3 with h3 | ⟨b, o, rfl, h3⟩
  · left; rw [h3]; simp
  · refine .inr ⟨b, o, rfl, fun i hi => ?_⟩
    rw [hl] at hi
    have hg : (os.take m).getD i (0, []) = os.getD i (0, []) := by simp [List.getD, hi]
    rw [hg]
    exact h3 i (by omega)
theorem set9_7 (p : Pk) (vh vo vg vd vm v : Value) : (p.cells vh vo vg vd vm).setIfInBounds 7 v = p.cells v vo vg vd vm := rfl
theorem set9_15 (p : Pk) (vh vo vg vd vm v : Value) : (p.cells vh vo vg vd vm).setIfInBounds 15 v = p.cells vh v vg vd vm := rfl
theorem set9_16 (p : Pk) (vh vo vg vd vm v : Value) : (p.cells vh vo vg vd vm).setIfInBounds 16 v = p.cells vh vo v vd vm := rfl
theorem set9_19 (p : Pk) (vh vo vg vd vm v : Value) : (p.cells vh vo vg vd vm).setIfInBounds 19 v = p.cells vh vo vg v vm := rfl
theorem set9_23 (p : Pk) (vh vo vg vd vm v : Value) : (p.cells vh vo vg vd vm).setIfInBounds 23 v = p.cells vh vo vg vd v := rfl
def fxP (p : Pk) : Pk := ⟨{ p.h with op := p.h.op.take 1600 }, { p.g with os := fxO p.g.os, data := p.g.data.take 1600 }, { p.d with data := p.d.data.take 1600 }, { p.m with data := p.m.data.take 1600 }⟩
theorem fxP_ok {p : Pk} (h : p.ok) : (fxP p).ok :=
  ⟨⟨h.h.tos, h.h.id, h.h.ttl, h.h.proto, h.h.src, h.h.dst, h.h.op.take _⟩, h.ho.take _, ⟨h.g.sp, h.g.dp, h.g.seq, h.g.ack, h.g.f, h.g.win, h.g.urg, fxO_byt h.g.os, h.g.data.take _⟩, ⟨h.d.sp, h.d.dp, h.d.data.take _⟩, ⟨h.m.ty, h.m.cd, h.m.rest, h.m.data.take _⟩⟩
theorem cut9_any (a : Option Addr) (n c m : Nat) (hm : m = min n 1600) (hn : n ≤ c) (w : World) : Calls Try.prog 18 #[.slice a n c] w fun e w' => e = .returned (.slice a m c) ∧ Ext w w' := by
  have hmin : (if (1600 : Int) < (n : Int) then (1600 : Int) else (n : Int)) = (m : Int) := by split <;> omega
  have hmc : (m : Int) ≤ (c : Int) := by omega
  clear hm
  go_enter Try.func18, Try.ntmps18
  go_wp2_with fail
  go_ret
  exact ⟨rfl, Ext.rfl' _⟩
theorem take1600 {l : List Int} {m : Nat} (h : m = min l.length 1600) : l.take 1600 = l.take m ∧ (l.take 1600).length = m := by
  rcases Nat.lt_or_ge 1600 l.length with h' | h'
  · rw [h, Nat.min_eq_right (by omega)]; exact ⟨rfl, by rw [List.length_take]; omega⟩
  · rw [h, Nat.min_eq_left h', List.take_of_length_le h', List.take_of_length_le (Nat.le_refl _)]; exact ⟨rfl, rfl⟩

set_option maxHeartbeats 8000000
set_option maxRecDepth 100000
theorem few9_any (p : Pk) (vh vo vg vd vm : Value) (w0 w : World) (hx0 : Ext w0 w) (r : PkR w0 p vh vo vg vd vm) :
    Calls Try.prog 6 #[.agg (p.cells vh vo vg vd vm)] w fun e w' => ∃ uh uo ug ud um, e = .returned (.agg ((fxP p).cells uh uo ug ud um)) ∧ RoX w0 w' w.heap.size uo (fxO p.g.os) ∧ Rd .u8 w0 uh (fxP p).h.op ∧ Rd .u8 w0 ug (fxP p).g.data ∧ Rd .u8 w0 ud (fxP p).d.data ∧ Rd .u8 w0 um (fxP p).m.data ∧ Ext w w' := by
  obtain ⟨rh, ro, rg, rd, rm⟩ := r
  obtain ⟨a, cap, rfl, hc1, hc2, -⟩ := id ro
  obtain ⟨ah, ch, rfl, hh1, hh2, -⟩ := id rh
  obtain ⟨ag, cg, rfl, hg1, hg2, -⟩ := id rg
  obtain ⟨ad, cd, rfl, hd1, hd2, -⟩ := id rd
  obtain ⟨am, cm, rfl, hm1, hm2, -⟩ := id rm
  unfold maxLen at hc2
  obtain ⟨nh, hnh⟩ : ∃ n : Nat, n = min p.h.op.length 1600 := ⟨_, rfl⟩
  obtain ⟨ng, hng⟩ : ∃ n : Nat, n = min p.g.data.length 1600 := ⟨_, rfl⟩
  obtain ⟨nd, hnd⟩ : ∃ n : Nat, n = min p.d.data.length 1600 := ⟨_, rfl⟩
  obtain ⟨nm, hnm⟩ : ∃ n : Nat, n = min p.m.data.length 1600 := ⟨_, rfl⟩
  have HH : Hid (Rd .u8 w0 (.slice ah nh ch) (p.h.op.take 1600)) := by unfold Hid; rw [(take1600 hnh).1]; exact rh.take (by omega)
  have HG : Hid (Rd .u8 w0 (.slice ag ng cg) (p.g.data.take 1600)) := by unfold Hid; rw [(take1600 hng).1]; exact rg.take (by omega)
  have HD : Hid (Rd .u8 w0 (.slice ad nd cd) (p.d.data.take 1600)) := by unfold Hid; rw [(take1600 hnd).1]; exact rd.take (by omega)
  have HM : Hid (Rd .u8 w0 (.slice am nm cm) (p.m.data.take 1600)) := by unfold Hid; rw [(take1600 hnm).1]; exact rm.take (by omega)
  have C1 := Lib.hid (cut9_any ah _ ch nh hnh hh1)
  have C2 := Lib.hid (cut9_any ag _ cg ng hng hg1)
  have C3 := Lib.hid (cut9_any ad _ cd nd hnd hd1)
  have C4 := Lib.hid (cut9_any am _ cm nm hnm hm1)
  obtain ⟨m, hm⟩ : ∃ m : Nat, m = min p.g.os.length 20 := ⟨_, rfl⟩
  have hml : m ≤ p.g.os.length := by omega
  have hm20 : m ≤ 20 := by omega
  have hmc : (m : Int) ≤ (cap : Int) := by omega
  have hv1 := rdo_take9 ro hml
  have hmin : (if (20 : Int) < (p.g.os.length : Int) then (20 : Int) else (p.g.os.length : Int)) = (m : Int) := by split <;> omega
  have hLl : (p.g.os.take m).length = m := by rw [List.length_take]; omega
  have hfew : Hid (fxO p.g.os = cutX (p.g.os.take m) m) := by
    unfold Hid fxO cutX
    rw [List.take_take, Nat.min_self, List.drop_eq_nil_of_le (by rw [hLl]; exact Nat.le_refl _), List.append_nil]
    congr 1
    rw [hm]
    rcases Nat.lt_or_ge 20 p.g.os.length with h | h
    · rw [Nat.min_eq_right (by omega)]
    · rw [Nat.min_eq_left h, List.take_of_length_le h, List.take_of_length_le (Nat.le_refl _)]
  generalize p.g.os.take m = L at *
  have HV1 := Lib.hid hv1
  clear rh ro rg rd rm hm hv1 hnh hng hnd hnm hh1 hh2 hg1 hg2 hd1 hd2 hm1 hm2
  go_enter Try.func6, Try.ntmps6
  go_upto_region 1 with (fail)
  generalize hW : World.alloc (World.alloc w _) _ = W
  have hxW : Ext w W := by rw [← hW]; exact (Ext.new w _).al _
  have k0 : W.heap[w.heap.size]? = some (.cells (p.cells (.slice ah p.h.op.length ch) (.slice a p.g.os.length cap) (.slice ag p.g.data.length cg) (.slice ad p.d.data.length cd) (.slice am p.m.data.length cm)) 35) := by rw [← hW]; exact new9a w _ _
  have j0 : W.heap[w.heap.size + 1]? = some (.cells (pno.cells nos9 nos9 nos9 nos9 nos9) 35) := by rw [← hW]; exact new9b w _ _
  clear hW
  have e7 := cell_blk k0 7
  have e16 := cell_blk k0 16
  have e19 := cell_blk k0 19
  have e23 := cell_blk k0 23
  simp at e7 e16 e19 e23
  have HK0 := Lib.hid k0
  have HJ0 := Lib.hid j0
  clear k0 j0
  go_upto_region 2 with (fail)
  refine wp_region_tail 22 [(4, Loose.is (.slice ah nh ch)), (9, Loose.is (.slice ag ng cg)), (14, Loose.is (.slice ad nd cd)), (19, Loose.is (.slice am nm cm))] (lasts_is (lasts_is (lasts_is (lasts_is lasts_nil)))) (by kernel_rfl) (by kernel_rfl) (by kernel_rfl) ?_
  simp only [List.take, List.drop]
  iterate 3
    apply wpL_none rfl rfl
    · intro w' hw' hn'; go_simp; exact rfl
    intro K hK; go_simp; refine hK _ _ ?_; clear hK K
  iterate 1
    apply wpL_none rfl rfl
    · intro w' hw' hn'; have e7 := Ext.cell hw' e7; go_simp; exact rfl
    intro K hK; go_simp; refine hK _ _ ?_; clear hK K
  apply wpL_some rfl rfl
  · intro w' hw' hn'
    go_simp
    refine ⟨Ext.rfl' _, ?_⟩
    refine ((C1.out w')).mono ?_
    rintro e w2 ⟨rfl, hx⟩
    exact ⟨_, rfl, hx, rfl⟩
  intro v w' hw' hD' hv
  obtain rfl : v = _ := hv
  clear hw' hD' w'
  intro K hK; go_simp; refine hK _ _ ?_; clear hK K
  iterate 3
    apply wpL_none rfl rfl
    · intro w' hw' hn'; go_simp; exact rfl
    intro K hK; go_simp; refine hK _ _ ?_; clear hK K
  iterate 1
    apply wpL_none rfl rfl
    · intro w' hw' hn'; have e16 := Ext.cell hw' e16; go_simp; exact rfl
    intro K hK; go_simp; refine hK _ _ ?_; clear hK K
  apply wpL_some rfl rfl
  · intro w' hw' hn'
    go_simp
    refine ⟨Ext.rfl' _, ?_⟩
    refine ((C2.out w')).mono ?_
    rintro e w2 ⟨rfl, hx⟩
    exact ⟨_, rfl, hx, rfl⟩
  intro v w' hw' hD' hv
  obtain rfl : v = _ := hv
  clear hw' hD' w'
  intro K hK; go_simp; refine hK _ _ ?_; clear hK K
  iterate 3
    apply wpL_none rfl rfl
    · intro w' hw' hn'; go_simp; exact rfl
    intro K hK; go_simp; refine hK _ _ ?_; clear hK K
  iterate 1
    apply wpL_none rfl rfl
    · intro w' hw' hn'; have e19 := Ext.cell hw' e19; go_simp; exact rfl
    intro K hK; go_simp; refine hK _ _ ?_; clear hK K
  apply wpL_some rfl rfl
  · intro w' hw' hn'
    go_simp
    refine ⟨Ext.rfl' _, ?_⟩
    refine ((C3.out w')).mono ?_
    rintro e w2 ⟨rfl, hx⟩
    exact ⟨_, rfl, hx, rfl⟩
  intro v w' hw' hD' hv
  obtain rfl : v = _ := hv
  clear hw' hD' w'
  intro K hK; go_simp; refine hK _ _ ?_; clear hK K
  iterate 3
    apply wpL_none rfl rfl
    · intro w' hw' hn'; go_simp; exact rfl
    intro K hK; go_simp; refine hK _ _ ?_; clear hK K
  iterate 1
    apply wpL_none rfl rfl
    · intro w' hw' hn'; have e23 := Ext.cell hw' e23; go_simp; exact rfl
    intro K hK; go_simp; refine hK _ _ ?_; clear hK K
  apply wpL_some rfl rfl
  · intro w' hw' hn'
    go_simp
    refine ⟨Ext.rfl' _, ?_⟩
    refine ((C4.out w')).mono ?_
    rintro e w2 ⟨rfl, hx⟩
    exact ⟨_, rfl, hx, rfl⟩
  intro v w' hw' hD' hv
  obtain rfl : v = _ := hv
  clear hw' hD' w'
  intro K hK; go_simp; refine hK _ _ ?_; clear hK K
  iterate 2
    apply wpL_none rfl rfl
    · intro w' hw' hn'; go_simp; exact rfl
    intro K hK; go_simp; refine hK _ _ ?_; clear hK K
  refine wpL_nil ?_
  intro w' hw' hD'
  have hw' : Ext W w' := hw'
  have k0 := hw'.block HK0.out
  have j0 := hw'.block HJ0.out
  have hx1 := hxW.tr hw'
  clear hD' hw' e7 e16 e19 e23 HK0 HJ0 hxW C1 C2 C3 C4
  refine wpVL_put_cell 24 w.heap.size 7 _ _ (.slice ah nh ch) rfl rfl k0 (by kernel_rfl) (by show 7 < 24; decide) rfl rfl ?_
  intro V1 k1 m1
  rw [set9_7] at k1
  iterate 2
    apply wpVL_step rfl
    intro K hK
    go_simp
    refine hK _ _ ?_
    clear hK K
  refine wpVL_put_cell 24 w.heap.size 16 _ _ (.slice ag ng cg) rfl rfl k1 (by kernel_rfl) (by show 16 < 24; decide) rfl rfl ?_
  intro V2 k2 m2
  rw [set9_16] at k2
  iterate 2
    apply wpVL_step rfl
    intro K hK
    go_simp
    refine hK _ _ ?_
    clear hK K
  refine wpVL_put_cell 24 w.heap.size 19 _ _ (.slice ad nd cd) rfl rfl k2 (by kernel_rfl) (by show 19 < 24; decide) rfl rfl ?_
  intro V3 k3 m3
  rw [set9_19] at k3
  iterate 2
    apply wpVL_step rfl
    intro K hK
    go_simp
    refine hK _ _ ?_
    clear hK K
  refine wpVL_put_cell 24 w.heap.size 23 _ _ (.slice am nm cm) rfl rfl k3 (by kernel_rfl) (by show 23 < 24; decide) rfl rfl ?_
  intro W2 k2' m4
  rw [set9_23] at k2'
  refine wpVL_nil ?_
  have hmm : Mvs (fun k => k = w.heap.size) w' W2 := ((m1.tr m2).tr m3).tr m4
  have hx2 : Ext w W2 := hmm.ext hx1 (fun k hk => by omega)
  have j2 := hmm.keep j0 (by omega)
  have hN2 := lt_of_block j2
  clear m1 m2 m3 m4 hmm k0 k1 k2 k3 j0 hx1
  have k2 := k2'
  clear k2'
  simp only [Act.put]
  have e15 := cell_blk k2 15
  simp at e15
  have k15 := e15
  have e15 := fun (o : Obj) => (Ext.new W2 o).cell e15
  go_wp2_with (at_builtin; go_must (refine wpList_appX rfl (.tmp 33) (.tmp 42) rfl w0 _ (by simp) rfl _ L rfl HV1.out (hx0.tr (hx2.al _)) (by omega) ?_); intro v1 w1 hmi1 hx1; obtain ⟨a1, c1, hv1, hc1', hc2'⟩ := hmi1.shape; rw [hLl] at hv1; subst hv1; have hx1b : Ext W2 w1 := Ext.tr (Ext.new _ _) hx1; clear hx1; have e15 := hx1b.cell k15; have z15 := fz_blk (hx1b.block k2) 15)
  have k3 := hx1b.block k2
  have hx1 := hx2.tr hx1b
  have hmi1 := hmi1.lowS (base' := w.heap.size + 2) (by simp [World.size_alloc]; omega)
  generalize hW3 : World.setCell w1 _ _ = W3
  have hm3 : Mvs (fun k => k = w.heap.size) w1 W3 := by rw [← hW3]; exact Mvs.set _ _ _ rfl
  have k4 : W3.heap[w.heap.size]? = some (.cells (p.cells (.slice ah nh ch) (.slice a1 m c1) (.slice ag ng cg) (.slice ad nd cd) (.slice am nm cm)) 35) := by
    rw [← hW3]
    exact set_blk k3 15 (.slice a1 m c1)
  have hx3 : Ext w W3 := hm3.ext hx1 (fun k hk => by omega)
  have j3 := hm3.keep (hx1b.block j2) (by omega)
  have hmi3 := hmi1.keep (Keep.ofMvs hm3 (fun k hk => by omega))
  clear hW3 hm3 hx1 hx1b hmi1 k3 e15 hN2 hx2 hmin hmc j2
  have hclen : ∀ k, (cutX L k).length = m := fun k => by rw [cutX_len, hLl]
  have HCl := Lib.hid hclen
  have HLl := Lib.hid hLl
  have hmi0 : RoX w0 W3 (w.heap.size + 2) (.slice a1 m c1) (cutX L 0) := by unfold cutX; simpa using hmi3
  have hN0 := hx3.size
  clear hmi3 hclen hLl
  have e15 := cell_blk k4 15
  simp at e15
  go_wp2_with fail
  go_loopw [50] (fun i wr => ∃ k : Nat, k ≤ m ∧ i = .int .i64 k ∧ RoX w0 wr (w.heap.size + 2) (.slice a1 m c1) (cutX L k) ∧ wr.heap[w.heap.size]? = some (.cells (p.cells (.slice ah nh ch) (.slice a1 m c1) (.slice ag ng cg) (.slice ad nd cd) (.slice am nm cm)) 35) ∧ wr.heap[w.heap.size + 1]? = some (.cells (pno.cells nos9 nos9 nos9 nos9 nos9) 35) ∧ Ext w wr) (fun i _ => m - (intOf i).toNat)
  case atStart => exact ⟨0, Nat.zero_le _, rfl, hmi0, k4, j3, hx3⟩
  case round =>
    obtain ⟨k, hk, rfl, hmi, k5, j5, hx⟩ := hrel
    have hcl := HCl.out k
    by_cases hlt : k < m
    · have hLk : k < L.length := by rw [HLl.out]; omega
      obtain ⟨b, c', he, hg1, hg2, hg3, hg4, hel⟩ := hmi.form (by omega)
      rw [hcl] at he
      cases he
      obtain ⟨u, e0, e1, hu⟩ := hel k (by omega)
      clear hel
      rw [cutX_at hLk] at e0 hu
      have hset := Lib.hid (cutX_set hLk)
      have hgk := Lib.hid (cutX_at hLk)
      generalize L.getD k (0, []) = x at *
      obtain ⟨kd, D⟩ := x
      dsimp only at e0 hu hset
      obtain ⟨au, cu, rfl, hcu1, hcu2, -⟩ := id hu
      unfold maxLen at hcu2
      obtain ⟨q, hq⟩ : ∃ q : Nat, q = min D.length 60 := ⟨_, rfl⟩
      have hqm : (if (60 : Int) < (D.length : Int) then (60 : Int) else (D.length : Int)) = (q : Int) := by split <;> omega
      have hqc : q ≤ cu := by omega
      have hqt : D.take 60 = D.take q := by
        rcases Nat.lt_or_ge 60 D.length with h | h
        · rw [hq, Nat.min_eq_right (by omega)]
        · rw [hq, Nat.min_eq_left h, List.take_of_length_le h, List.take_of_length_le (Nat.le_refl _)]
      have hcut : Rd .u8 w0 (.slice au q cu) (D.take 60) := by
        rw [hqt]
        exact hu.take (by omega)
      have hkm : (k : Int) < (m : Int) := by omega
      have hN := hx.size
      clear hu hqt hq hcl hg2 e15
      have e15 := cell_blk k5 15
      simp at e15
      go_upto_region 7 with (fail)
      refine wp_region_tail 21 [] lasts_nil (by kernel_rfl) (by kernel_rfl) (by kernel_rfl) ?_
      simp only [List.take, List.drop]
      iterate 21
        apply wpL_none rfl rfl
        · intro w' hw' hn'; have e1 := Ext.cell hw' e1; have e15 := Ext.cell hw' e15; go_simp; exact rfl
        intro K hK; go_simp; refine hK _ _ ?_; clear hK K
      refine wpL_nil ?_
      intro w' hw' hD'
      obtain ⟨s1, s2, s3⟩ := (hmi.keep (Keep.ofExt hw')).stored k (by rw [HCl.out]; exact hlt) (.slice au q cu) (D.take 60) hcut
      have k6 := Ext.block hw' k5
      have e1 := Ext.cell hw' e1
      have j6 := Ext.block hw' j5
      have hx6 := hx.tr hw'
      rw [hgk.out] at s1
      dsimp only at s1
      rw [hset.out] at s1
      clear hD' e0 hset hgk hcut hmi hw' hx e15 k5 j5
      iterate 2
        apply wpVL_step rfl
        intro K hK
        go_simp
        refine hK _ _ ?_
        clear hK K
      apply wpVL_step rfl
      intro K hK
      go_simp
      refine hK _ _ ?_
      clear hK K
      refine wpVL_nil ?_
      try simp only [Act.put]
      have hm7 : Mvs (fun j => j = b) w' (w'.setCell ⟨b, k * 2 + 1, none⟩ (.slice au q cu)) := Mvs.set _ _ _ rfl
      have k7 := hm7.keep k6 (by omega)
      have hx7 := hm7.ext hx6 (fun k hk => by omega)
      have j7 := hm7.keep j6 (by omega)
      clear e1 s2 s3 hm7 k6 hx6 j6
      generalize World.setCell w' _ _ = w7 at *
      go_wp2_with fail
      go_roundw
      case rel => exact ⟨k + 1, by omega, by go_num, s1, k7, j7, hx7⟩
      case measure => simp [intOf]; omega
    · obtain rfl : k = m := by omega
      clear e15
      go_wp2_with (first | (refine wpList_load_bigG 35 w.heap.size _ _ _ rfl k5 rfl Try.underlying35 rfl (by kernel_rfl) ?_; simp only [Act.put, List.setIfInBounds_toArray, List.set_cons_succ, List.set_cons_zero]) | (refine wpList_put_row 35 (w.heap.size + 1) _ (p.cells (.slice ah nh ch) (.slice a1 k c1) (.slice ag ng cg) (.slice ad nd cd) (.slice am nm cm)) _ rfl rfl j5 (by kernel_rfl) rfl (pk_one9 _ _ _ _ _ _ _ _ _ _ _ _ _ _ _ _) ?_; intro W8 j8 hm8))
      refine bodyPost_ret (results_cell Try.results6 _ rfl (load_blk j8 35 _ Try.underlying35 rfl (show _ = some 24 by kernel_rfl))) rfl ?_
      have hx8 := hm8.ext hx (fun k hk => by omega)
      have hmi8 := (hmi.keep (Keep.ofMvs hm8 (fun k hk => by omega))).lowS (base' := w.heap.size) (by omega)
      rw [hfew.out]
      exact ⟨_, _, _, _, _, rfl, hmi8, HH.out, HG.out, HD.out, HM.out, hx8⟩
end Go.Proofs.Ytbaidlkjbdeceaa
