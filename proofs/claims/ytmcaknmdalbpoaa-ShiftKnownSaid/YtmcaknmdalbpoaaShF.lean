/-
  Proved here: culvertlaw25's few and plain: a segment of at most 1600 bytes and 20 options of at most 60; its flags without Syn; whether it can go over.
-/
import Derived.Test.YtmcaknmdalbpoaaShX
import Derived.Test.YtmcaknmdalbpoaaOptA
import Derived.Test.YtmcaknmdalbpoaaRow
namespace Go.Proofs.Ytmcaknmdalbpoaa
set_option maxRecDepth 16000
open Go.ChangeShapes Go.WideShapes Go.ChangeAt Go.RowKit Go.Cul Go.Loose
set_option linter.unusedVariables false
attribute [local go_sem] Loose.Still Loose.Upon Loose.vUpon

def fw1 (o : Op1) : Op1 := (o.1, o.2.take 60)
def fwO (os : List Op1) : List Op1 := (os.take 20).map fw1
def fwG (g : Sg) : Sg := { g with os := fwO g.os, data := g.data.take 1600 }
theorem fwO_len (os : List Op1) : (fwO os).length ≤ 20 := by unfold fwO; rw [List.length_map, List.length_take]; omega
theorem fwO_byt {os : List Op1} (h : BytO os) : BytO (fwO os) := by
  intro o ho
  obtain ⟨x, hx, rfl⟩ := List.mem_map.1 ho
  have := h x (List.mem_of_mem_take hx)
  exact ⟨this.1, this.2.take _⟩
theorem fwO_dl (os : List Op1) : ∀ o ∈ fwO os, o.2.length ≤ 60 := by
  intro o ho
  obtain ⟨x, hx, rfl⟩ := List.mem_map.1 ho
  show (x.2.take 60).length ≤ 60
  rw [List.length_take]; omega
theorem fwG_ok {g : Sg} (h : g.ok) : (fwG g).ok := ⟨h.sp, h.dp, h.seq, h.ack, h.f, h.win, h.urg, fwO_byt h.os, h.data.take _⟩
/-- The first i are cut. -/
def cutF (os : List Op1) (i : Nat) : List Op1 := (os.take i).map fw1 ++ os.drop i
theorem cutF_len (os : List Op1) (i : Nat) : (cutF os i).length = os.length := by unfold cutF; simp only [List.length_append, List.length_map, List.length_take, List.length_drop]; omega
theorem cutF_at {os : List Op1} {i : Nat} (h : i < os.length) : (cutF os i).getD i (0, []) = os.getD i (0, []) := by
  unfold cutF
  have hl : ((os.take i).map fw1).length = i := by rw [List.length_map, List.length_take]; omega
  simp only [List.getD, List.getElem?_append_right (show ((os.take i).map fw1).length ≤ i by omega), hl, Nat.sub_self, List.getElem?_drop, Nat.add_zero]
theorem cutF_set {os : List Op1} {i : Nat} (h : i < os.length) : (cutF os i).set i ((os.getD i (0, [])).1, (os.getD i (0, [])).2.take 60) = cutF os (i + 1) := by
  unfold cutF
  have hl : ((os.take i).map fw1).length = i := by rw [List.length_map, List.length_take]; omega
  rw [List.set_append_right _ _ (by omega), hl, Nat.sub_self, List.drop_eq_getElem_cons h, List.set_cons_zero, take_succ_getD' (0, []) os i h, List.map_append]
  simp only [List.map_cons, List.map_nil, fw1, List.append_assoc, List.singleton_append]

/-- New memory that holds options; their data was there at w0. -/
def RoW (w0 w : World) (base : Nat) (v : Value) (os : List Op1) : Prop :=
  (∃ xs : List (Op1 × Value), xs.map (·.1) = os ∧ w.ownsRow base 46 2 v xs.length (rowsO xs) ∧ ∀ x ∈ xs, Rd .u8 w0 x.2 x.1.2) ∨ ∃ a, v = .slice a 0 0 ∧ os = []
theorem RoW.mio {w0 w : World} {base : Nat} {v : Value} {os : List Op1} (h : RoW w0 w base v os) (h0 : w0.heap.size ≤ base) (hx : Ext w0 w) : MiO w base v os := by
  rcases h with ⟨xs, h1, h2, h3⟩ | h
  · exact .inl ⟨xs, h1, h2, fun x hk => .inr ⟨w0, h0, hx, h3 x hk⟩⟩
  · exact .inr h
theorem RoW.keep {w0 w w' : World} {base : Nat} {v : Value} {os : List Op1} (h : RoW w0 w base v os) (hk : Keep base w w') : RoW w0 w' base v os := by
  rcases h with ⟨xs, h1, h2, h3⟩ | h
  · refine .inl ⟨xs, h1, ⟨h2.1, ?_⟩, h3⟩
    rcases h2.2 with h0 | ⟨g, cap, cur, rfl, hb, hh, r⟩
    · exact .inl h0
    · exact .inr ⟨g, cap, cur, rfl, hb, hk g _ hb hh, r⟩
  · exact .inr h
theorem RoW.lowS {w0 w : World} {base base' : Nat} {v : Value} {os : List Op1} (h : RoW w0 w base v os) (hb : base' ≤ base) : RoW w0 w base' v os := by
  rcases h with ⟨xs, h1, h2, h3⟩ | h
  · refine .inl ⟨xs, h1, ⟨h2.1, ?_⟩, h3⟩
    rcases h2.2 with h0 | ⟨g, cap, cur, rfl, hb', r⟩
    · exact .inl h0
    · exact .inr ⟨g, cap, cur, rfl, by omega, r⟩
  · exact .inr h
/-- Options appended to an empty slice. -/
theorem run_appW (w0 w : World) (ty : TypeId) (va : Option Addr) (hva : va ≠ none) (u : Value) (rs : List Op1) (hu : RdO w0 u rs) (hx : Ext w0 w) (hn : rs.length ≤ 100000) :
    ∃ v' w', (Builtin.append_ #[26, 26] ty #[.slice va 0 0, u]).run Try.prog w = .ok v' w' ∧ RoW w0 w' w.heap.size v' rs ∧ Ext w w' := by
  obtain ⟨i, hi, hz, hs, hb⟩ := info_opt
  have hsrc := SrcO.of (base := w0.heap.size) hu (Nat.le_refl _) (Ext.rfl' w0)
  obtain ⟨a, cap, rfl, hc1, hc2, hsrc⟩ := hsrc
  rcases hsrc with rfl | ⟨b, o, rfl, hsrc⟩
  · exact ⟨_, w, run_appM_nothing w ty va 0 0 a cap (Nat.le_refl _) (fun _ => rfl), .inr ⟨_, rfl, rfl⟩, Ext.rfl' w⟩
  · rcases Nat.eq_zero_or_pos rs.length with h0 | h0
    · have : rs = [] := List.eq_nil_of_length_eq_zero h0
      subst this
      exact ⟨_, w, run_appM_nothing w ty va 0 0 _ cap (Nat.le_refl _) (fun _ => rfl), .inr ⟨_, rfl, rfl⟩, Ext.rfl' w⟩
    obtain ⟨ys, hy1, hy2, hy3⟩ := src_list hsrc
    have hyl : ys.length = rs.length := by rw [← hy1, List.length_map]
    cases va with
    | none => exact absurd rfl hva
    | some ad =>
      obtain ⟨v', w', hrun, ho, hg⟩ := run_append_arg_grows (P := Try.prog) w 26 ty 46 i _ 2 32 under_opts hi hz hs hb rfl (by decide) ad 0 0 [] rfl (by simp) ⟨b, o, none⟩ rs.length cap (rowsO ys) (by rw [rowsO_len, hyl]) (fun j u hj => hx.cell (hy2 j u hj)) (by omega) (by unfold maxLen; omega) (by omega)
      refine ⟨v', w', hrun, .inl ⟨ys, hy1, ?_, fun y hy => (hy3 y hy).rd⟩, Ext.of_grown hg⟩
      rw [hyl]
      simpa using ho
theorem wpList_appW {w : World} {ops : Array Oper} {rest : List Oper} {o : Oper} {a : Act} {Q : Exit → Act → World → Prop} (hgd : o.guard = none) (s x : Operand)
    (ho : o.op = .call { callee := .builtin .append, args := #[s, x], argTypes := #[26, 26] }) (w0 : World) (va : Option Addr) (hva : va ≠ none) (hs : a.eval s = .slice va 0 0) (u : Value) (rs : List Op1) (hx : a.eval x = u) (hr : RdO w0 u rs) (hx0 : Ext w0 w)
    (hn : rs.length ≤ 100000)
    (h : ∀ v' w', RoW w0 w' w.heap.size v' rs → Ext w w' → wpList Try.prog ops Q rest (a.put o.dst v') w') : wpList Try.prog ops Q (o :: rest) a w :=
  wpList_plain hgd fun _ hK => by
    obtain ⟨v', w', hrun, h2, h3⟩ := run_appW w0 w o.type va hva u rs hr hx0 hn
    unfold Oper.wp execOp
    simp only [ho, resolve, invoke, builtin, Sem.run_bind, Sem.run_pure, Result.andThen_ok, List.map_toArray, List.map_cons, List.map_nil, hs, hx, hrun]
    exact hK _ _ (h v' w' h2 h3)
/-- A store into an option's data. -/
theorem RoW.stored {w0 w : World} {base g n c : Nat} {os : List Op1} (h : RoW w0 w base (.slice (some ⟨g, 0, none⟩) n c) os) (i : Nat) (hi : i < os.length) (u : Value) (l : List Int) (hu : Rd .u8 w0 u l) :
    RoW w0 (w.setCell ⟨g, i * 2 + 1, none⟩ u) base (.slice (some ⟨g, 0, none⟩) n c) (os.set i ((os.getD i (0, [])).1, l)) ∧ w.frozen? ⟨g, i * 2 + 1, none⟩ = false ∧ base ≤ g := by
  rcases h with ⟨xs, rfl, h2, h3⟩ | ⟨va, hv, rfl⟩
  · rw [List.length_map] at hi
    have hn : n = xs.length := by
      rcases h2.2 with ⟨h', _⟩ | ⟨g', cap, cur, h', _⟩
      · cases h'
      · cases h'; rfl
    subst hn
    obtain ⟨k1, k2⟩ := World.ownsRow.stored h2 (i * 2 + 1) u
    have hx : ((xs.map (·.1)).getD i (0, [])) = (xs.getD i ((0, []), undef)).1 := by simp [List.getD, hi]
    refine ⟨.inl ⟨xs.set i (((xs.getD i ((0, []), undef)).1.1, l), u), ?_, ?_, fun x hx => ?_⟩, World.ownsRow.frozenAt h2 _, (World.ownsRow.lt h2 g rfl).1⟩
    · rw [List.map_set, hx]
    · rw [rowsO_set _ _ _ _ hi, List.length_set]; exact k1
    · rcases List.mem_or_eq_of_mem_set hx with hx | rfl
      · exact h3 x hx
      · exact hu
  · simp at hi
theorem RoW.form {w0 w : World} {base : Nat} {v : Value} {os : List Op1} (h : RoW w0 w base v os) (hn : 0 < os.length) : ∃ g cap, v = .slice (some ⟨g, 0, none⟩) os.length cap ∧ base ≤ g ∧ g < w.heap.size ∧ os.length ≤ cap ∧ cap ≤ maxLen ∧
    ∀ i, i < os.length → ∃ x, w.cell? ⟨g, i * 2, none⟩ = some (.int .u8 (os.getD i (0, [])).1) ∧ w.cell? ⟨g, i * 2 + 1, none⟩ = some x ∧ Rd .u8 w0 x (os.getD i (0, [])).2 := by
  rcases h with ⟨xs, rfl, h2, h3⟩ | ⟨va, hv, rfl⟩
  · rw [List.length_map] at hn ⊢
    rcases h2.2 with ⟨rfl, h0⟩ | ⟨g, cap, cur, rfl, hb, hh, hn', hm, hsz, htk⟩
    · omega
    refine ⟨g, cap, rfl, hb, lt_of_block hh, hn', hm, fun i hi => ?_⟩
    have hx : (xs.map (·.1)).getD i (0, []) = (xs.getD i ((0, []), undef)).1 := by simp [List.getD, hi]
    obtain ⟨c0, c1⟩ := rowsO_at xs i hi
    refine ⟨(xs.getD i ((0, []), undef)).2, ?_, ?_, ?_⟩
    · rw [hx, ← c0, cell_of_row w g (i * 2) cur _ (0, 0) hh, ← htk, List.getElem?_take, if_pos (by omega)]
      simp
    · rw [← c1, cell_of_row w g (i * 2 + 1) cur _ (0, 0) hh, ← htk, List.getElem?_take, if_pos (by omega)]
      simp
    · rw [hx]
      exact h3 _ (by simp [List.getD, hi])
  · simp at hn
theorem RoW.shape {w0 w : World} {base : Nat} {v : Value} {os : List Op1} (h : RoW w0 w base v os) : ∃ a c, v = .slice a os.length c ∧ os.length ≤ c ∧ c ≤ maxLen := by
  rcases h with ⟨xs, rfl, h2, h3⟩ | ⟨va, rfl, rfl⟩
  · rcases h2.2 with ⟨rfl, h0⟩ | ⟨g, cap, cur, rfl, hb, hh, hn', hm, hsz, htk⟩
    · exact ⟨none, 0, by simp [h0], by simp [h0], by decide⟩
    · exact ⟨some ⟨g, 0, none⟩, cap, by simp, by simpa using hn', hm⟩
  · exact ⟨va, 0, rfl, by simp, by decide⟩

set_option maxHeartbeats 2000000 in
set_option maxRecDepth 100000 in
theorem few25_any (g : Sg) (hg : g.ok) (vo vd : Value) (w0 w : World) (hx0 : Ext w0 w) (hvo : RdO w0 vo g.os) (hvd : Rd .u8 w0 vd g.data) :
    Calls Try.prog 19 #[.agg (g.cells vo vd)] w fun e w' => ∃ uo ud, e = .returned (.agg ((fwG g).cells uo ud)) ∧ RoW w0 w' w.heap.size uo (fwG g).os ∧ Rd .u8 w0 ud (fwG g).data ∧ Ext w w' := by
  obtain ⟨a, cap, rfl, hc1, hc2, -⟩ := id hvo
  obtain ⟨ad, cd, rfl, hd1, hd2, -⟩ := id hvd
  unfold maxLen at hc2 hd2
  obtain ⟨m, hm⟩ : ∃ m : Nat, m = min g.os.length 20 := ⟨_, rfl⟩
  obtain ⟨n, hn⟩ : ∃ n : Nat, n = min g.data.length 1600 := ⟨_, rfl⟩
  have hml : m ≤ g.os.length := by omega
  have hm20 : m ≤ 20 := by omega
  have hnl : n ≤ g.data.length := by omega
  have hnc : (n : Int) ≤ (cd : Int) := by omega
  have hmc : (m : Int) ≤ (cap : Int) := by omega
  have hv1 := hvo.take hml
  have hw1 := hvd.take hnl
  have hmin : (if (20 : Int) < (g.os.length : Int) then (20 : Int) else (g.os.length : Int)) = (m : Int) := by split <;> omega
  have hmin2 : (if (1600 : Int) < (g.data.length : Int) then (1600 : Int) else (g.data.length : Int)) = (n : Int) := by split <;> omega
  have hLl : (g.os.take m).length = m := by rw [List.length_take]; omega
  have hdt : Hid (g.data.take 1600 = g.data.take n) := by
    unfold Hid
    rcases Nat.lt_or_ge 1600 g.data.length with h | h
    · rw [hn, Nat.min_eq_right (by omega)]
    · rw [hn, Nat.min_eq_left h, List.take_of_length_le h, List.take_of_length_le (Nat.le_refl _)]
  have hfew : Hid (fwO g.os = cutF (g.os.take m) m) := by
    unfold Hid fwO cutF
    rw [List.take_take, Nat.min_self, List.drop_eq_nil_of_le (by rw [hLl]; exact Nat.le_refl _), List.append_nil]
    congr 1
    rw [hm]
    rcases Nat.lt_or_ge 20 g.os.length with h | h
    · rw [Nat.min_eq_right (by omega)]
    · rw [Nat.min_eq_left h, List.take_of_length_le h, List.take_of_length_le (Nat.le_refl _)]
  generalize g.os.take m = L at *
  have HV1 := Lib.hid hv1
  have HW1 := Lib.hid hw1
  have HN := Lib.hid hn
  clear hvo hvd hm hn hv1 hw1
  go_enter Try.func19, Try.ntmps19
  go_upto_region 1 with (fail)
  generalize hW : World.alloc (World.alloc w _) _ = W
  have hxW : Ext w W := by rw [← hW]; exact (Ext.new w _).al _
  have k0 : W.heap[w.heap.size]? = some (.cells (g.cells (.slice a g.os.length cap) (.slice ad g.data.length cd)) 29) := by rw [← hW]; simp only [heap_alloc_at, World.size_alloc]; repeat (first | rfl | rw [if_pos (by first | trivial | omega)] | rw [if_neg (by omega)])
  have j0 : W.heap[w.heap.size + 1]? = some (.cells (Sg.none.cells (.slice none 0 0) (.slice none 0 0)) 29) := by rw [← hW]; simp only [heap_alloc_at, World.size_alloc]; repeat (first | rfl | rw [if_pos (by first | trivial | omega)] | rw [if_neg (by omega)])
  clear hW
  have e7 := cell_blk k0 7
  have e8 := cell_blk k0 8
  simp at e7 e8
  have z8 := fz_blk k0 8
  go_upto_region 2 with (fail)
  generalize hW2 : World.setCell W _ _ = W2
  have hm2 : Mvs (fun k => k = w.heap.size) W W2 := by rw [← hW2]; exact Mvs.set _ _ _ rfl
  have k2 : W2.heap[w.heap.size]? = some (.cells (g.cells (.slice a g.os.length cap) (.slice ad n cd)) 29) := by
    rw [← hW2]
    have := set_blk k0 8 (.slice ad n cd)
    simpa using this
  have hx2 : Ext w W2 := hm2.ext hxW (fun k hk => by omega)
  have j2 := hm2.keep j0 (by omega)
  have hN2 := lt_of_block j2
  clear hW2 e7 e8 z8 k0 hm2 j0 hxW W
  have e7 := cell_blk k2 7
  simp at e7
  have k7 := e7
  have e7 := fun (o : Obj) => (Ext.new W2 o).cell e7
  go_wp2_with (at_builtin; go_must (refine wpList_appW rfl (.tmp 12) (.tmp 19) rfl w0 _ (by simp) rfl _ L rfl HV1.out (hx0.tr (hx2.al _)) (by omega) ?_); intro v1 w1 hmi1 hx1; obtain ⟨a1, c1, hv1, hc1', hc2'⟩ := hmi1.shape; rw [hLl] at hv1; subst hv1; have hx1b : Ext W2 w1 := Ext.tr (Ext.new _ _) hx1; clear hx1; have e7 := hx1b.cell k7; have z7 := fz_blk (hx1b.block k2) 7)
  have k3 := hx1b.block k2
  have hx1 := hx2.tr hx1b
  have hmi1 := hmi1.lowS (base' := w.heap.size + 2) (by simp [World.size_alloc]; omega)
  generalize hW3 : World.setCell w1 _ _ = W3
  have hm3 : Mvs (fun k => k = w.heap.size) w1 W3 := by rw [← hW3]; exact Mvs.set _ _ _ rfl
  have k4 : W3.heap[w.heap.size]? = some (.cells (g.cells (.slice a1 m c1) (.slice ad n cd)) 29) := by
    rw [← hW3]
    have := set_blk k3 7 (.slice a1 m c1)
    simpa using this
  have hx3 : Ext w W3 := hm3.ext hx1 (fun k hk => by omega)
  have j3 := hm3.keep (hx1b.block j2) (by omega)
  have hmi3 := hmi1.keep (Keep.ofMvs hm3 (fun k hk => by omega))
  clear hW3 hm3 hx1 hx1b hmi1 k3 e7 hN2 hx2 hmin hmin2 hmc hnc j2
  have hclen : ∀ k, (cutF L k).length = m := fun k => by rw [cutF_len, hLl]
  have HCl := Lib.hid hclen
  have HLl := Lib.hid hLl
  have hmi0 : RoW w0 W3 (w.heap.size + 2) (.slice a1 m c1) (cutF L 0) := by unfold cutF; simpa using hmi3
  have hN0 := hx3.size
  clear hmi3 hclen hLl
  have e7 := cell_blk k4 7
  simp at e7
  go_wp2_with fail
  go_loopw [25] (fun i wr => ∃ k : Nat, k ≤ m ∧ i = .int .i64 k ∧ RoW w0 wr (w.heap.size + 2) (.slice a1 m c1) (cutF L k) ∧ wr.heap[w.heap.size]? = some (.cells (g.cells (.slice a1 m c1) (.slice ad n cd)) 29) ∧ wr.heap[w.heap.size + 1]? = some (.cells (Sg.none.cells (.slice none 0 0) (.slice none 0 0)) 29) ∧ Ext w wr) (fun i _ => m - (intOf i).toNat)
  case atStart => exact ⟨0, Nat.zero_le _, rfl, hmi0, k4, j3, hx3⟩
  case round =>
    obtain ⟨k, hk, rfl, hmi, k5, j5, hx⟩ := hrel
    have hcl := HCl.out k
    by_cases hlt : k < m
    · have hLk : k < L.length := by rw [HLl.out]; omega
      obtain ⟨b, c', he, hg1, hg2, hg3, hg4, hel⟩ := hmi.form (by omega)
      rw [hcl] at he
      cases he
      obtain ⟨u, e0, e1, hu⟩ := hel k (by omega)
      clear hel
      rw [cutF_at hLk] at e0 hu
      have hset := Lib.hid (cutF_set hLk)
      have hgk := Lib.hid (cutF_at hLk)
      generalize L.getD k (0, []) = x at *
      obtain ⟨kd, D⟩ := x
      dsimp only at e0 hu hset
      obtain ⟨au, cu, rfl, hcu1, hcu2, -⟩ := id hu
      unfold maxLen at hcu2
      obtain ⟨q, hq⟩ : ∃ q : Nat, q = min D.length 60 := ⟨_, rfl⟩
      have hqm : (if (60 : Int) < (D.length : Int) then (60 : Int) else (D.length : Int)) = (q : Int) := by split <;> omega
      have hqc : q ≤ cu := by omega
      have hqt : D.take 60 = D.take q := by
        rcases Nat.lt_or_ge 60 D.length with h | h
        · rw [hq, Nat.min_eq_right (by omega)]
        · rw [hq, Nat.min_eq_left h, List.take_of_length_le h, List.take_of_length_le (Nat.le_refl _)]
      have hcut : Rd .u8 w0 (.slice au q cu) (D.take 60) := by
        rw [hqt]
        exact hu.take (by omega)
      have hkm : (k : Int) < (m : Int) := by omega
      have hN := hx.size
      clear hu hqt hq hcl hg2 e7
      have e7 := cell_blk k5 7
      simp at e7
      go_upto_region 6 with (fail)
      refine wp_region_tail 18 [] lasts_nil (by kernel_rfl) (by kernel_rfl) (by kernel_rfl) ?_
      simp only [List.take, List.drop]
      iterate 18
        apply wpL_none rfl rfl
        · intro w' hw' hn'; have e1 := Ext.cell hw' e1; have e7 := Ext.cell hw' e7; go_simp; exact rfl
        intro K hK; go_simp; refine hK _ _ ?_; clear hK K
      refine wpL_nil ?_
      intro w' hw' hD'
      obtain ⟨s1, s2, s3⟩ := (hmi.keep (Keep.ofExt hw')).stored k (by rw [HCl.out]; exact hlt) (.slice au q cu) (D.take 60) hcut
      have k6 := Ext.block hw' k5
      have e1 := Ext.cell hw' e1
      have j6 := Ext.block hw' j5
      have hx6 := hx.tr hw'
      rw [hgk.out] at s1
      dsimp only at s1
      rw [hset.out] at s1
      clear hD' e0 hset hgk hcut hmi hw' hx e7 k5 j5
      iterate 2
        apply wpVL_step rfl
        intro K hK
        go_simp
        refine hK _ _ ?_
        clear hK K
      apply wpVL_step rfl
      intro K hK
      go_simp
      refine hK _ _ ?_
      clear hK K
      refine wpVL_nil ?_
      try simp only [Act.put]
      have hm7 : Mvs (fun j => j = b) w' (w'.setCell ⟨b, k * 2 + 1, none⟩ (.slice au q cu)) := Mvs.set _ _ _ rfl
      have k7 := hm7.keep k6 (by omega)
      have hx7 := hm7.ext hx6 (fun k hk => by omega)
      have j7 := hm7.keep j6 (by omega)
      clear e1 s2 s3 hm7 k6 hx6 j6
      generalize World.setCell w' _ _ = w7 at *
      go_wp2_with fail
      go_roundw
      case rel => exact ⟨k + 1, by omega, by go_num, s1, k7, j7, hx7⟩
      case measure => simp [intOf]; omega
    · obtain rfl : k = m := by omega
      clear e7
      have e0 := cell_blk k5 0
      have e1 := cell_blk k5 1
      have e2 := cell_blk k5 2
      have e3 := cell_blk k5 3
      have e4 := cell_blk k5 4
      have e5 := cell_blk k5 5
      have e6 := cell_blk k5 6
      have e7 := cell_blk k5 7
      have e8 := cell_blk k5 8
      simp at e0 e1 e2 e3 e4 e5 e6 e7 e8
      have hone : (g.cells (.slice a1 k c1) (.slice ad n cd)).all (·.oneCell') = true := by simp [Value.oneCell']
      have hsz : (Try.prog.info? 29).map (·.size) = some (g.cells (.slice a1 k c1) (.slice ad n cd)).size := by kernel_rfl
      go_upto_region 8 with (fail)
      go_wp2_with (refine wpList_put_row 29 (w.heap.size + 1) _ (g.cells (.slice a1 k c1) (.slice ad n cd)) _ rfl rfl j5 hsz rfl hone ?_; intro W8 j8 hm8)
      refine bodyPost_ret (v := .agg (g.cells (.slice a1 k c1) (.slice ad n cd))) (results_cell Try.results19 _ rfl (load_blk j8 _ _ Try.underlying29 rfl (by kernel_rfl))) rfl ?_
      have hx8 := hm8.ext hx (fun k hk => by omega)
      have hmi8 := (hmi.keep (Keep.ofMvs hm8 (fun k hk => by omega))).lowS (base' := w.heap.size) (by omega)
      refine ⟨_, _, rfl, ?_, ?_, hx8⟩
      · show RoW _ _ _ _ (fwO g.os)
        rw [hfew.out]
        exact hmi8
      · show Rd _ _ _ (g.data.take 1600)
        rw [hdt.out]
        exact HW1.out
end Go.Proofs.Ytmcaknmdalbpoaa
