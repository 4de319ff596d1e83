/-
  Proved here: culvertlaw09's awake returns true.
  Proved here: culvertlaw09's few: a packet of at most 1600 bytes in each part and 20 options of at most 60. (PRINTED BY tools/genfew.py)
  Proved here: a packet's bytes have right sums and lengths: the plain law of PacketSums. No walk.
  Proved here: a packet among the arguments is opened; culvertlaw09's few of it. No condition.
-/
import Derived.Test.YtbaidlkjbdeceaaGreatPkX
import Derived.Test.YtbaidlkjbdeceaaGreatOptM
import Derived.Test.YtbaidlkjbdeceaaGreatRow
import Derived.Test.YtbaidlkjbdeceaaGreatPkR
import Derived.Test.YtbaidlkjbdeceaaGreatTcpL
import Derived.Test.YtbaidlkjbdeceaaGreatTcpW
import Derived.Test.YtbaidlkjbdeceaaGreatShape
namespace Go.Proofs.YtbaidlkjbdeceaaGreat
set_option maxRecDepth 200000
open Go.ChangeShapes Go.WideShapes Go.ChangeAt Go.RowKit Go.Cul Go.Loose
set_option linter.unusedVariables false
attribute [local go_sem] Loose.Still Loose.Upon Loose.vUpon First.pUpon

/-- The document's example, as bytes. -/
abbrev synB : List Int := [69, 0, 0, 40, 0, 0, 64, 0, 64, 6, 58, 206, 0, 0, 0, 1, 0, 0, 0, 2, 0, 3, 0, 4, 0, 0, 0, 0, 0, 0, 0, 0, 80, 2, 0, 0, 175, 217, 0, 0]
abbrev oddP : Pk := ⟨⟨0, 0, true, 64, 17, 1, 2, []⟩, synG, Dg.none, Ms.none⟩
theorem syn_put : pput synP = (synB, 0) := by decide +kernel
theorem odd_put : pput oddP = ([], 1) := by decide +kernel
theorem syn_par : ppar synB = (synP, 0) := by kernel_rfl
theorem syn_err : ierr synB = 0 := by decide +kernel
theorem syn_pro : (ihead synB).proto = 6 := by decide +kernel
theorem synB_byt : Byt synB := byt_of rfl
theorem hd_syn : (ownP 1 2 6).h.ok := ⟨by decide, by decide, by decide, by decide, by decide, by decide, byt0⟩
theorem sg_syn : synG.ok := ⟨by decide, by decide, by decide, by decide, by decide, by decide, by decide, (fun o h => by cases h), byt0⟩
theorem syn_ok : synP.ok := ⟨hd_syn, byt0, sg_syn, dg0, ms0⟩
theorem odd_ok : oddP.ok := ⟨⟨by decide, by decide, by decide, by decide, by decide, by decide, byt0⟩, byt0, sg_syn, dg0, ms0⟩
theorem syn_r (w : World) : PkR w synP nos9 nos9 nos9 nos9 nos9 := ⟨Rd.nil _ _, RdO.nil _, Rd.nil _ _, Rd.nil _ _, Rd.nil _ _⟩
theorem odd_r (w : World) : PkR w oddP nos9 nos9 nos9 nos9 nos9 := ⟨Rd.nil _ _, RdO.nil _, Rd.nil _ _, Rd.nil _ _, Rd.nil _ _⟩
theorem syn_len : synP.len := ⟨by decide, by decide, by decide, by decide⟩
theorem odd_len : oddP.len := ⟨by decide, by decide, by decide, by decide⟩
theorem syn_put_any (w : World) : Calls Tryz.prog 5 #[.agg (synP.cells nos9 nos9 nos9 nos9 nos9)] w fun e w' => ∃ a c, e = .returned (.tuple #[.slice a 40 c, .int .i64 0]) ∧ Rd .u8 w' (.slice a 40 c) synB ∧ Ext w w' := by
  refine (pput_any synP nos9 nos9 nos9 nos9 nos9 w syn_ok (syn_r w) syn_len).mono ?_
  rintro e w' ⟨u, rfl, hu, hx⟩
  rw [syn_put] at hu ⊢
  have hr := hu.rd
  obtain ⟨a, c, rfl, -⟩ := id hr
  exact ⟨a, c, rfl, hr, hx⟩
theorem odd_put_any (w : World) : Calls Tryz.prog 5 #[.agg (oddP.cells nos9 nos9 nos9 nos9 nos9)] w fun e w' => ∃ a n c, e = .returned (.tuple #[.slice a n c, .int .i64 1]) ∧ Ext w w' := by
  refine (pput_any oddP nos9 nos9 nos9 nos9 nos9 w odd_ok (odd_r w) odd_len).mono ?_
  rintro e w' ⟨u, rfl, hu, hx⟩
  rw [odd_put] at hu ⊢
  obtain ⟨a, n, c, rfl⟩ := hu.rd.shape
  exact ⟨a, n, c, rfl, hx⟩
theorem syn_parse_any (bv : Value) (w : World) (hv : Rd .u8 w bv synB) : Calls Tryz.prog 21 #[bv] w fun e w' => ∃ a1 n1 c1 a2 n2 c2 a3 n3 c3, e = .returned (.tuple #[.agg (synP.cells (.slice a1 n1 c1) (.slice a2 n2 c2) (.slice a3 n3 c3) nos9 nos9), .int .i64 0]) ∧ PkR w' synP (.slice a1 n1 c1) (.slice a2 n2 c2) (.slice a3 n3 c3) nos9 nos9 ∧ Ext w w' := by
  refine (pparse_any bv synB w hv synB_byt (by decide) (fun _ _ => syn_pro)).mono ?_
  rintro e w' ⟨a1, n1, c1, a2, n2, c2, a3, n3, c3, rfl, h1, h2, h3, hx⟩
  rw [syn_par] at h1 h2 h3 ⊢
  exact ⟨a1, n1, c1, a2, n2, c2, a3, n3, c3, rfl, ⟨h1, h2, h3, Rd.nil _ _, Rd.nil _ _⟩, hx⟩
theorem syn_same_any (vh vo vg : Value) (w : World) (r : PkR w synP vh vo vg nos9 nos9) : Calls Tryz.prog 11 #[.agg (synP.cells vh vo vg nos9 nos9), .agg (synP.cells nos9 nos9 nos9 nos9 nos9)] w fun e w' => e = .returned (.bool true) ∧ Ext w w' := by
  refine (psame_any synP synP vh vo vg nos9 nos9 nos9 nos9 nos9 nos9 nos9 w syn_ok syn_ok r (syn_r w)).mono ?_
  rintro e w' ⟨rfl, hx⟩
  exact ⟨by rw [(psame_iff synP synP).2 rfl], hx⟩
theorem odd_set (vh vo vg vd vm : Value) : (synP.cells vh vo vg vd vm).setIfInBounds 4 (.int .u8 17) = oddP.cells vh vo vg vd vm := rfl

set_option maxHeartbeats 8000000
set_option maxRecDepth 100000
theorem awake9_any (w : World) : Calls Tryz.prog 7 #[] w fun e w' => e = .returned (.bool true) ∧ Ext w w' := by
  go_enter Tryz.func7, Tryz.ntmps7
  go_wp2_with fail
  refine (syn_any w).mono ?_
  rintro e w1 ⟨rfl, hx⟩
  go_wp2_with fail
  refine (syn_put_any w1).mono ?_
  rintro e w2 ⟨ab, cb, rfl, rb, hx2⟩
  have hx := hx.tr hx2
  clear hx2
  go_wp2_with fail
  refine (syn_parse_any _ w2 rb).mono ?_
  rintro e w3 ⟨a1, n1, c1, a2, n2, c2, a3, n3, c3, rfl, rp, hx3⟩
  have hx := hx.tr hx3
  clear hx3 rb
  go_upto_region 3 with (refine wpList_put_row 35 w3.heap.size _ (synP.cells (.slice a1 n1 c1) (.slice a2 n2 c2) (.slice a3 n3 c3) nos9 nos9) _ rfl rfl (heap_alloc_new _ _) (by kernel_rfl) rfl (pk_one9 _ _ _ _ _ _ _ _ _ _ _ _ _ _ _ _) ?_; intro w4 k3 m4)
  have hx4 := m4.ext (Ext.new w3 _) (fun j hj => by omega)
  have hx := hx.tr hx4
  have RP := Lib.hid (rp.ext hx4)
  generalize w3.heap.size = b3 at *
  clear m4 hx4 rp
  try simp only [Act.put]
  go_wp2_with fail
  refine (syn_any w4).mono ?_
  rintro e w5 ⟨rfl, hx5⟩
  have hx := hx.tr hx5
  have k3 := hx5.block k3
  have RP := Lib.hid (RP.out.ext hx5)
  clear hx5
  have hb3 := lt_of_block k3
  go_upto_region 4 with (refine wpList_put_row 35 w5.heap.size _ (synP.cells nos9 nos9 nos9 nos9 nos9) _ rfl rfl (heap_alloc_new _ _) (by kernel_rfl) rfl (pk_one9 _ _ _ _ _ _ _ _ _ _ _ _ _ _ _ _) ?_; intro w6 k5 m6)
  have hx6 := m6.ext (Ext.new w5 _) (fun j hj => by omega)
  have hb5 : w5.heap.size < w6.heap.size := lt_of_block k5
  have HX5 := Lib.hid hx6
  have k3 := hx6.block k3
  generalize hB5 : w5.heap.size = b5 at *
  clear m6 hx6
  try simp only [Act.put]
  refine wp_region_lit ?_
  iterate 2
    refine wpList_plain rfl (fun K1 hK1 => ?_)
    go_simp
    refine hK1 _ _ ?_
    clear hK1 K1
  refine wpList_put_cell 5 b5 4 _ _ (.int .u8 17) rfl rfl k5 (by kernel_rfl) (by show 4 < 24; decide) rfl rfl ?_
  intro w7 k5' m7
  rw [odd_set] at k5'
  refine wpList_nil ?_
  have hxx : Ext w5 w7 := m7.ext HX5.out (fun j hj => by omega)
  have k3 := m7.keep k3 (by omega)
  have hx := hx.tr hxx
  have RP := Lib.hid (RP.out.ext hxx)
  clear m7 hxx HX5 k5
  simp only [Act.put]
  go_wp2_with (refine wpList_load_bigG 35 b5 _ _ _ rfl k5' rfl Tryz.underlying35 rfl (by kernel_rfl) ?_; simp only [Act.put, List.setIfInBounds_toArray, List.set_cons_succ, List.set_cons_zero])
  refine (odd_put_any w7).mono ?_
  rintro e w8 ⟨ao, no, co, rfl, hx8⟩
  have hx := hx.tr hx8
  have k3 := hx8.block k3
  have RP := Lib.hid (RP.out.ext hx8)
  clear hx8 k5'
  go_upto_region 6 with (fail)
  have e9 := cell_blk k3 9
  simp at e9
  have HK3 := Lib.hid k3
  clear k3
  refine wp_region_grow [(8, Loose.is (.agg (synP.cells nos9 nos9 nos9 nos9 nos9))), (9, Loose.is (.bool true))] (lasts_is (lasts_is lasts_nil)) (by kernel_rfl) (by kernel_rfl) ?_
  iterate 7
    apply wpL_none rfl rfl
    · intro w' hw' hn'; go_simp; exact rfl
    intro K hK; go_simp; refine hK _ _ ?_; clear hK K
  apply wpL_none rfl rfl
  · intro w' hw' hn'
    exact still_load 35 _ rfl b3 _ rfl (synP.cells (.slice a1 n1 c1) (.slice a2 n2 c2) (.slice a3 n3 c3) nos9 nos9) _ (fun j v hv => by rw [Nat.zero_add, cell_blk (Ext.block hw' HK3.out)]; simpa using hv) Tryz.underlying35 rfl (by kernel_rfl)
  intro K hK; go_simp; refine hK _ _ ?_; clear hK K
  apply wpL_some rfl rfl
  · intro w' hw' hn'
    go_simp
    refine ⟨Ext.rfl' _, ?_⟩
    refine ((syn_any w')).mono ?_
    rintro e w2 ⟨rfl, hx⟩
    exact ⟨_, rfl, hx, rfl⟩
  intro v w' hw' hD' hv
  obtain rfl : v = _ := hv
  clear hw' hD' w'
  intro K hK; go_simp; refine hK _ _ ?_; clear hK K
  apply wpL_some rfl rfl
  · intro w' hw' hn'
    go_simp
    refine ⟨Ext.rfl' _, ?_⟩
    refine ((syn_same_any _ _ _ w' (RP.out.ext hw'))).mono ?_
    rintro e w2 ⟨rfl, hx⟩
    exact ⟨_, rfl, hx, rfl⟩
  intro v w' hw' hD' hv
  obtain rfl : v = _ := hv
  clear hw' hD' w'
  intro K hK; go_simp; refine hK _ _ ?_; clear hK K
  iterate 9
    apply wpL_none rfl rfl
    · intro w' hw' hn'; go_simp; exact rfl
    intro K hK; go_simp; refine hK _ _ ?_; clear hK K
  iterate 1
    apply wpL_none rfl rfl
    · intro w' hw' hn'; have e9 := Ext.cell hw' e9; go_simp; exact rfl
    intro K hK; go_simp; refine hK _ _ ?_; clear hK K
  iterate 7
    apply wpL_none rfl rfl
    · intro w' hw' hn'; go_simp; exact rfl
    intro K hK; go_simp; refine hK _ _ ?_; clear hK K
  refine wpL_nil ?_
  intro w9 hx9 _
  have hx9 : Ext w8 w9 := hx9
  go_wp2_with fail
  go_ret
  exact ⟨rfl, hx.tr hx9⟩
end Go.Proofs.YtbaidlkjbdeceaaGreat
namespace Go.Proofs.YtbaidlkjbdeceaaGreat
set_option maxRecDepth 200000
open Go.ChangeShapes Go.WideShapes Go.ChangeAt Go.RowKit Go.Cul Go.Loose
set_option linter.unusedVariables false
attribute [local go_sem] Loose.Still Loose.Upon Loose.vUpon

def fx1 (o : Op1) : Op1 := (o.1, o.2.take 60)
def fxO (os : List Op1) : List Op1 := (os.take 20).map fx1
theorem fxO_len (os : List Op1) : (fxO os).length ≤ 20 := by unfold fxO; rw [List.length_map, List.length_take]; omega
theorem fxO_byt {os : List Op1} (h : BytO os) : BytO (fxO os) := by
  intro o ho
  obtain ⟨x, hx, rfl⟩ := List.mem_map.1 ho
  have := h x (List.mem_of_mem_take hx)
  exact ⟨this.1, this.2.take _⟩
theorem fxO_dl (os : List Op1) : ∀ o ∈ fxO os, o.2.length ≤ 60 := by
  intro o ho
  obtain ⟨x, hx, rfl⟩ := List.mem_map.1 ho
  show (x.2.take 60).length ≤ 60
  rw [List.length_take]; omega
/-- The first i are cut. -/
def cutX (os : List Op1) (i : Nat) : List Op1 := (os.take i).map fx1 ++ os.drop i
theorem cutX_len (os : List Op1) (i : Nat) : (cutX os i).length = os.length := by unfold cutX; simp only [List.length_append, List.length_map, List.length_take, List.length_drop]; omega
theorem cutX_at {os : List Op1} {i : Nat} (h : i < os.length) : (cutX os i).getD i (0, []) = os.getD i (0, []) := by
  unfold cutX
  have hl : ((os.take i).map fx1).length = i := by rw [List.length_map, List.length_take]; omega
  simp only [List.getD, List.getElem?_append_right (show ((os.take i).map fx1).length ≤ i by omega), hl, Nat.sub_self, List.getElem?_drop, Nat.add_zero]
theorem cutX_set {os : List Op1} {i : Nat} (h : i < os.length) : (cutX os i).set i ((os.getD i (0, [])).1, (os.getD i (0, [])).2.take 60) = cutX os (i + 1) := by
  unfold cutX
  have hl : ((os.take i).map fx1).length = i := by rw [List.length_map, List.length_take]; omega
  rw [List.set_append_right _ _ (by omega), hl, Nat.sub_self, List.drop_eq_getElem_cons h, List.set_cons_zero, take_succ_getD' (0, []) os i h, List.map_append]
  simp only [List.map_cons, List.map_nil, fx1, List.append_assoc, List.singleton_append]

/-- New memory that holds options; their data was there at w0. -/
def RoX (w0 w : World) (base : Nat) (v : Value) (os : List Op1) : Prop :=
  (∃ xs : List (Op1 × Value), xs.map (·.1) = os ∧ w.ownsRow base 48 2 v xs.length (rowsO xs) ∧ ∀ x ∈ xs, Rd .u8 w0 x.2 x.1.2) ∨ ∃ a, v = .slice a 0 0 ∧ os = []
theorem RoX.mio {w0 w : World} {base : Nat} {v : Value} {os : List Op1} (h : RoX w0 w base v os) (h0 : w0.heap.size ≤ base) (hx : Ext w0 w) : MiO w base v os := by
  rcases h with ⟨xs, h1, h2, h3⟩ | h
  · exact .inl ⟨xs, h1, h2, fun x hk => .inr ⟨w0, h0, hx, h3 x hk⟩⟩
  · exact .inr h
theorem RoX.keep {w0 w w' : World} {base : Nat} {v : Value} {os : List Op1} (h : RoX w0 w base v os) (hk : Keep base w w') : RoX w0 w' base v os := by
  rcases h with ⟨xs, h1, h2, h3⟩ | h
  · refine .inl ⟨xs, h1, ⟨h2.1, ?_⟩, h3⟩
    rcases h2.2 with h0 | ⟨g, cap, cur, rfl, hb, hh, r⟩
    · exact .inl h0
    · exact .inr ⟨g, cap, cur, rfl, hb, hk g _ hb hh, r⟩
  · exact .inr h
theorem RoX.lowS {w0 w : World} {base base' : Nat} {v : Value} {os : List Op1} (h : RoX w0 w base v os) (hb : base' ≤ base) : RoX w0 w base' v os := by
  rcases h with ⟨xs, h1, h2, h3⟩ | h
  · refine .inl ⟨xs, h1, ⟨h2.1, ?_⟩, h3⟩
    rcases h2.2 with h0 | ⟨g, cap, cur, rfl, hb', r⟩
    · exact .inl h0
    · exact .inr ⟨g, cap, cur, rfl, by omega, r⟩
  · exact .inr h
/-- Options appended to an empty slice. -/
theorem run_appX (w0 w : World) (ty : TypeId) (va : Option Addr) (hva : va ≠ none) (u : Value) (rs : List Op1) (hu : RdO w0 u rs) (hx : Ext w0 w) (hn : rs.length ≤ 100000) :
    ∃ v' w', (Builtin.append_ #[27, 27] ty #[.slice va 0 0, u]).run Tryz.prog w = .ok v' w' ∧ RoX w0 w' w.heap.size v' rs ∧ Ext w w' := by
  obtain ⟨i, hi, hz, hs, hb⟩ := info_opt
  have hsrc := SrcO.of (base := w0.heap.size) hu (Nat.le_refl _) (Ext.rfl' w0)
  obtain ⟨a, cap, rfl, hc1, hc2, hsrc⟩ := hsrc
  rcases hsrc with rfl | ⟨b, o, rfl, hsrc⟩
  · exact ⟨_, w, run_appM_nothing w ty va 0 0 a cap (Nat.le_refl _) (fun _ => rfl), .inr ⟨_, rfl, rfl⟩, Ext.rfl' w⟩
  · rcases Nat.eq_zero_or_pos rs.length with h0 | h0
    · have : rs = [] := List.eq_nil_of_length_eq_zero h0
      subst this
      exact ⟨_, w, run_appM_nothing w ty va 0 0 _ cap (Nat.le_refl _) (fun _ => rfl), .inr ⟨_, rfl, rfl⟩, Ext.rfl' w⟩
    obtain ⟨ys, hy1, hy2, hy3⟩ := src_list hsrc
    have hyl : ys.length = rs.length := by rw [← hy1, List.length_map]
    cases va with
    | none => exact absurd rfl hva
    | some ad =>
      obtain ⟨v', w', hrun, ho, hg⟩ := run_append_arg_grows (P := Tryz.prog) w 27 ty 48 i _ 2 32 under_opts hi hz hs hb rfl (by decide) ad 0 0 [] rfl (by simp) ⟨b, o, none⟩ rs.length cap (rowsO ys) (by rw [rowsO_len, hyl]) (fun j u hj => hx.cell (hy2 j u hj)) (by omega) (by unfold maxLen; omega) (by omega)
      refine ⟨v', w', hrun, .inl ⟨ys, hy1, ?_, fun y hy => (hy3 y hy).rd⟩, Ext.of_grown hg⟩
      rw [hyl]
      simpa using ho
theorem wpList_appX {w : World} {ops : Array Oper} {rest : List Oper} {o : Oper} {a : Act} {Q : Exit → Act → World → Prop} (hgd : o.guard = none) (s x : Operand)
    (ho : o.op = .call { callee := .builtin .append, args := #[s, x], argTypes := #[27, 27] }) (w0 : World) (va : Option Addr) (hva : va ≠ none) (hs : a.eval s = .slice va 0 0) (u : Value) (rs : List Op1) (hx : a.eval x = u) (hr : RdO w0 u rs) (hx0 : Ext w0 w)
    (hn : rs.length ≤ 100000)
    (h : ∀ v' w', RoX w0 w' w.heap.size v' rs → Ext w w' → wpList Tryz.prog ops Q rest (a.put o.dst v') w') : wpList Tryz.prog ops Q (o :: rest) a w :=
  wpList_plain hgd fun _ hK => by
    obtain ⟨v', w', hrun, h2, h3⟩ := run_appX w0 w o.type va hva u rs hr hx0 hn
    unfold Oper.wp execOp
    simp only [ho, resolve, invoke, builtin, Sem.run_bind, Sem.run_pure, Result.andThen_ok, List.map_toArray, List.map_cons, List.map_nil, hs, hx, hrun]
    exact hK _ _ (h v' w' h2 h3)
/-- A store into an option's data. -/
theorem RoX.stored {w0 w : World} {base g n c : Nat} {os : List Op1} (h : RoX w0 w base (.slice (some ⟨g, 0, none⟩) n c) os) (i : Nat) (hi : i < os.length) (u : Value) (l : List Int) (hu : Rd .u8 w0 u l) :
    RoX w0 (w.setCell ⟨g, i * 2 + 1, none⟩ u) base (.slice (some ⟨g, 0, none⟩) n c) (os.set i ((os.getD i (0, [])).1, l)) ∧ w.frozen? ⟨g, i * 2 + 1, none⟩ = false ∧ base ≤ g := by
  rcases h with ⟨xs, rfl, h2, h3⟩ | ⟨va, hv, rfl⟩
  · rw [List.length_map] at hi
    have hn : n = xs.length := by
      rcases h2.2 with ⟨h', _⟩ | ⟨g', cap, cur, h', _⟩
      · cases h'
      · cases h'; rfl
    subst hn
    obtain ⟨k1, k2⟩ := World.ownsRow.stored h2 (i * 2 + 1) u
    have hx : ((xs.map (·.1)).getD i (0, [])) = (xs.getD i ((0, []), undef)).1 := by simp [List.getD, hi]
    refine ⟨.inl ⟨xs.set i (((xs.getD i ((0, []), undef)).1.1, l), u), ?_, ?_, fun x hx => ?_⟩, World.ownsRow.frozenAt h2 _, (World.ownsRow.lt h2 g rfl).1⟩
    · rw [List.map_set, hx]
    · rw [rowsO_set _ _ _ _ hi, List.length_set]; exact k1
    · rcases List.mem_or_eq_of_mem_set hx with hx | rfl
      · exact h3 x hx
      · exact hu
  · simp at hi
theorem RoX.form {w0 w : World} {base : Nat} {v : Value} {os : List Op1} (h : RoX w0 w base v os) (hn : 0 < os.length) : ∃ g cap, v = .slice (some ⟨g, 0, none⟩) os.length cap ∧ base ≤ g ∧ g < w.heap.size ∧ os.length ≤ cap ∧ cap ≤ maxLen ∧
    ∀ i, i < os.length → ∃ x, w.cell? ⟨g, i * 2, none⟩ = some (.int .u8 (os.getD i (0, [])).1) ∧ w.cell? ⟨g, i * 2 + 1, none⟩ = some x ∧ Rd .u8 w0 x (os.getD i (0, [])).2 := by
  rcases h with ⟨xs, rfl, h2, h3⟩ | ⟨va, hv, rfl⟩
  · rw [List.length_map] at hn ⊢
    rcases h2.2 with ⟨rfl, h0⟩ | ⟨g, cap, cur, rfl, hb, hh, hn', hm, hsz, htk⟩
    · omega
    refine ⟨g, cap, rfl, hb, lt_of_block hh, hn', hm, fun i hi => ?_⟩
    have hx : (xs.map (·.1)).getD i (0, []) = (xs.getD i ((0, []), undef)).1 := by simp [List.getD, hi]
    obtain ⟨c0, c1⟩ := rowsO_at xs i hi
    refine ⟨(xs.getD i ((0, []), undef)).2, ?_, ?_, ?_⟩
    · rw [hx, ← c0, cell_of_row w g (i * 2) cur _ (0, 0) hh, ← htk, List.getElem?_take, if_pos (by omega)]
      simp
    · rw [← c1, cell_of_row w g (i * 2 + 1) cur _ (0, 0) hh, ← htk, List.getElem?_take, if_pos (by omega)]
      simp
    · rw [hx]
      exact h3 _ (by simp [List.getD, hi])
  · simp at hn
theorem RoX.shape {w0 w : World} {base : Nat} {v : Value} {os : List Op1} (h : RoX w0 w base v os) : ∃ a c, v = .slice a os.length c ∧ os.length ≤ c ∧ c ≤ maxLen := by
  rcases h with ⟨xs, rfl, h2, h3⟩ | ⟨va, rfl, rfl⟩
  · rcases h2.2 with ⟨rfl, h0⟩ | ⟨g, cap, cur, rfl, hb, hh, hn', hm, hsz, htk⟩
    · exact ⟨none, 0, by simp [h0], by simp [h0], by decide⟩
    · exact ⟨some ⟨g, 0, none⟩, cap, by simp, by simpa using hn', hm⟩
  · exact ⟨va, 0, rfl, by simp, by decide⟩

theorem rdo_take9 {w : World} {a : Option Addr} {n cap : Nat} {os : List Op1} (h : RdO w (.slice a n cap) os) {m : Nat} (hm : m ≤ os.length) : RdO w (.slice a m cap) (os.take m) := by
  obtain ⟨a', cap', he, h1, h2, h3⟩ := h
  cases he
  have hl : (os.take m).length = m := by rw [List.length_take]; omega
  refine ⟨a, cap, by rw [hl], by omega, h2, ?_⟩
  rcases h3 with h3 | ⟨b, o, rfl, h3⟩
  · left; rw [h3]; simp
  · refine .inr ⟨b, o, rfl, fun i hi => ?_⟩
    rw [hl] at hi
    have hg : (os.take m).getD i (0, []) = os.getD i (0, []) := by simp [List.getD, hi]
    rw [hg]
    exact h3 i (by omega)
theorem set9_7 (p : Pk) (vh vo vg vd vm v : Value) : (p.cells vh vo vg vd vm).setIfInBounds 7 v = p.cells v vo vg vd vm := rfl
theorem set9_15 (p : Pk) (vh vo vg vd vm v : Value) : (p.cells vh vo vg vd vm).setIfInBounds 15 v = p.cells vh v vg vd vm := rfl
theorem set9_16 (p : Pk) (vh vo vg vd vm v : Value) : (p.cells vh vo vg vd vm).setIfInBounds 16 v = p.cells vh vo v vd vm := rfl
theorem set9_19 (p : Pk) (vh vo vg vd vm v : Value) : (p.cells vh vo vg vd vm).setIfInBounds 19 v = p.cells vh vo vg v vm := rfl
theorem set9_23 (p : Pk) (vh vo vg vd vm v : Value) : (p.cells vh vo vg vd vm).setIfInBounds 23 v = p.cells vh vo vg vd v := rfl
def fxP (p : Pk) : Pk := ⟨{ p.h with op := p.h.op.take 1600 }, { p.g with os := fxO p.g.os, data := p.g.data.take 1600 }, { p.d with data := p.d.data.take 1600 }, { p.m with data := p.m.data.take 1600 }⟩
theorem fxP_ok {p : Pk} (h : p.ok) : (fxP p).ok :=
  ⟨⟨h.h.tos, h.h.id, h.h.ttl, h.h.proto, h.h.src, h.h.dst, h.h.op.take _⟩, h.ho.take _, ⟨h.g.sp, h.g.dp, h.g.seq, h.g.ack, h.g.f, h.g.win, h.g.urg, fxO_byt h.g.os, h.g.data.take _⟩, ⟨h.d.sp, h.d.dp, h.d.data.take _⟩, ⟨h.m.ty, h.m.cd, h.m.rest, h.m.data.take _⟩⟩
theorem cut9_any (a : Option Addr) (n c m : Nat) (hm : m = min n 1600) (hn : n ≤ c) (w : World) : Calls Tryz.prog 13 #[.slice a n c] w fun e w' => e = .returned (.slice a m c) ∧ Ext w w' := by
  have hmin : (if (1600 : Int) < (n : Int) then (1600 : Int) else (n : Int)) = (m : Int) := by split <;> omega
  have hmc : (m : Int) ≤ (c : Int) := by omega
  clear hm
  go_enter Tryz.func13, Tryz.ntmps13
  go_wp2_with fail
  go_ret
  exact ⟨rfl, Ext.rfl' _⟩
theorem take1600 {l : List Int} {m : Nat} (h : m = min l.length 1600) : l.take 1600 = l.take m ∧ (l.take 1600).length = m := by
  rcases Nat.lt_or_ge 1600 l.length with h' | h'
  · rw [h, Nat.min_eq_right (by omega)]; exact ⟨rfl, by rw [List.length_take]; omega⟩
  · rw [h, Nat.min_eq_left h', List.take_of_length_le h', List.take_of_length_le (Nat.le_refl _)]; exact ⟨rfl, rfl⟩

set_option maxHeartbeats 8000000
set_option maxRecDepth 100000
theorem few9_any (p : Pk) (vh vo vg vd vm : Value) (w0 w : World) (hx0 : Ext w0 w) (r : PkR w0 p vh vo vg vd vm) :
    Calls Tryz.prog 4 #[.agg (p.cells vh vo vg vd vm)] w fun e w' => ∃ uh uo ug ud um, e = .returned (.agg ((fxP p).cells uh uo ug ud um)) ∧ RoX w0 w' w.heap.size uo (fxO p.g.os) ∧ Rd .u8 w0 uh (fxP p).h.op ∧ Rd .u8 w0 ug (fxP p).g.data ∧ Rd .u8 w0 ud (fxP p).d.data ∧ Rd .u8 w0 um (fxP p).m.data ∧ Ext w w' := by
  obtain ⟨rh, ro, rg, rd, rm⟩ := r
  obtain ⟨a, cap, rfl, hc1, hc2, -⟩ := id ro
  obtain ⟨ah, ch, rfl, hh1, hh2, -⟩ := id rh
  obtain ⟨ag, cg, rfl, hg1, hg2, -⟩ := id rg
  obtain ⟨ad, cd, rfl, hd1, hd2, -⟩ := id rd
  obtain ⟨am, cm, rfl, hm1, hm2, -⟩ := id rm
  unfold maxLen at hc2
  obtain ⟨nh, hnh⟩ : ∃ n : Nat, n = min p.h.op.length 1600 := ⟨_, rfl⟩
  obtain ⟨ng, hng⟩ : ∃ n : Nat, n = min p.g.data.length 1600 := ⟨_, rfl⟩
  obtain ⟨nd, hnd⟩ : ∃ n : Nat, n = min p.d.data.length 1600 := ⟨_, rfl⟩
  obtain ⟨nm, hnm⟩ : ∃ n : Nat, n = min p.m.data.length 1600 := ⟨_, rfl⟩
  have HH : Hid (Rd .u8 w0 (.slice ah nh ch) (p.h.op.take 1600)) := by unfold Hid; rw [(take1600 hnh).1]; exact rh.take (by omega)
  have HG : Hid (Rd .u8 w0 (.slice ag ng cg) (p.g.data.take 1600)) := by unfold Hid; rw [(take1600 hng).1]; exact rg.take (by omega)
  have HD : Hid (Rd .u8 w0 (.slice ad nd cd) (p.d.data.take 1600)) := by unfold Hid; rw [(take1600 hnd).1]; exact rd.take (by omega)
  have HM : Hid (Rd .u8 w0 (.slice am nm cm) (p.m.data.take 1600)) := by unfold Hid; rw [(take1600 hnm).1]; exact rm.take (by omega)
  have C1 := Lib.hid (cut9_any ah _ ch nh hnh hh1)
  have C2 := Lib.hid (cut9_any ag _ cg ng hng hg1)
  have C3 := Lib.hid (cut9_any ad _ cd nd hnd hd1)
  have C4 := Lib.hid (cut9_any am _ cm nm hnm hm1)
  obtain ⟨m, hm⟩ : ∃ m : Nat, m = min p.g.os.length 20 := ⟨_, rfl⟩
  have hml : m ≤ p.g.os.length := by omega
  have hm20 : m ≤ 20 := by omega
  have hmc : (m : Int) ≤ (cap : Int) := by omega
  have hv1 := rdo_take9 ro hml
  have hmin : (if (20 : Int) < (p.g.os.length : Int) then (20 : Int) else (p.g.os.length : Int)) = (m : Int) := by split <;> omega
  have hLl : (p.g.os.take m).length = m := by rw [List.length_take]; omega
  have hfew : Hid (fxO p.g.os = cutX (p.g.os.take m) m) := by
    unfold Hid fxO cutX
    rw [List.take_take, Nat.min_self, List.drop_eq_nil_of_le (by rw [hLl]; exact Nat.le_refl _), List.append_nil]
    congr 1
    rw [hm]
    rcases Nat.lt_or_ge 20 p.g.os.length with h | h
    · rw [Nat.min_eq_right (by omega)]
    · rw [Nat.min_eq_left h, List.take_of_length_le h, List.take_of_length_le (Nat.le_refl _)]
  generalize p.g.os.take m = L at *
  have HV1 := Lib.hid hv1
  clear rh ro rg rd rm hm hv1 hnh hng hnd hnm hh1 hh2 hg1 hg2 hd1 hd2 hm1 hm2
  go_enter Tryz.func4, Tryz.ntmps4
  go_upto_region 1 with (fail)
  generalize hW : World.alloc (World.alloc w _) _ = W
  have hxW : Ext w W := by rw [← hW]; exact (Ext.new w _).al _
  have k0 : W.heap[w.heap.size]? = some (.cells (p.cells (.slice ah p.h.op.length ch) (.slice a p.g.os.length cap) (.slice ag p.g.data.length cg) (.slice ad p.d.data.length cd) (.slice am p.m.data.length cm)) 35) := by rw [← hW]; exact new9a w _ _
  have j0 : W.heap[w.heap.size + 1]? = some (.cells (pno.cells nos9 nos9 nos9 nos9 nos9) 35) := by rw [← hW]; exact new9b w _ _
  clear hW
  have e7 := cell_blk k0 7
  have e16 := cell_blk k0 16
  have e19 := cell_blk k0 19
  have e23 := cell_blk k0 23
  simp at e7 e16 e19 e23
  have HK0 := Lib.hid k0
  have HJ0 := Lib.hid j0
  clear k0 j0
  go_upto_region 2 with (fail)
  refine wp_region_tail 22 [(4, Loose.is (.slice ah nh ch)), (9, Loose.is (.slice ag ng cg)), (14, Loose.is (.slice ad nd cd)), (19, Loose.is (.slice am nm cm))] (lasts_is (lasts_is (lasts_is (lasts_is lasts_nil)))) (by kernel_rfl) (by kernel_rfl) (by kernel_rfl) ?_
  simp only [List.take, List.drop]
  iterate 3
    apply wpL_none rfl rfl
    · intro w' hw' hn'; go_simp; exact rfl
    intro K hK; go_simp; refine hK _ _ ?_; clear hK K
  iterate 1
    apply wpL_none rfl rfl
    · intro w' hw' hn'; have e7 := Ext.cell hw' e7; go_simp; exact rfl
    intro K hK; go_simp; refine hK _ _ ?_; clear hK K
  apply wpL_some rfl rfl
  · intro w' hw' hn'
    go_simp
    refine ⟨Ext.rfl' _, ?_⟩
    refine ((C1.out w')).mono ?_
    rintro e w2 ⟨rfl, hx⟩
    exact ⟨_, rfl, hx, rfl⟩
  intro v w' hw' hD' hv
  obtain rfl : v = _ := hv
  clear hw' hD' w'
  intro K hK; go_simp; refine hK _ _ ?_; clear hK K
  iterate 3
    apply wpL_none rfl rfl
    · intro w' hw' hn'; go_simp; exact rfl
    intro K hK; go_simp; refine hK _ _ ?_; clear hK K
  iterate 1
    apply wpL_none rfl rfl
    · intro w' hw' hn'; have e16 := Ext.cell hw' e16; go_simp; exact rfl
    intro K hK; go_simp; refine hK _ _ ?_; clear hK K
  apply wpL_some rfl rfl
  · intro w' hw' hn'
    go_simp
    refine ⟨Ext.rfl' _, ?_⟩
    refine ((C2.out w')).mono ?_
    rintro e w2 ⟨rfl, hx⟩
    exact ⟨_, rfl, hx, rfl⟩
  intro v w' hw' hD' hv
  obtain rfl : v = _ := hv
  clear hw' hD' w'
  intro K hK; go_simp; refine hK _ _ ?_; clear hK K
  iterate 3
    apply wpL_none rfl rfl
    · intro w' hw' hn'; go_simp; exact rfl
    intro K hK; go_simp; refine hK _ _ ?_; clear hK K
  iterate 1
    apply wpL_none rfl rfl
    · intro w' hw' hn'; have e19 := Ext.cell hw' e19; go_simp; exact rfl
    intro K hK; go_simp; refine hK _ _ ?_; clear hK K
  apply wpL_some rfl rfl
  · intro w' hw' hn'
    go_simp
    refine ⟨Ext.rfl' _, ?_⟩
    refine ((C3.out w')).mono ?_
    rintro e w2 ⟨rfl, hx⟩
    exact ⟨_, rfl, hx, rfl⟩
  intro v w' hw' hD' hv
  obtain rfl : v = _ := hv
  clear hw' hD' w'
  intro K hK; go_simp; refine hK _ _ ?_; clear hK K
  iterate 3
    apply wpL_none rfl rfl
    · intro w' hw' hn'; go_simp; exact rfl
    intro K hK; go_simp; refine hK _ _ ?_; clear hK K
  iterate 1
    apply wpL_none rfl rfl
    · intro w' hw' hn'; have e23 := Ext.cell hw' e23; go_simp; exact rfl
    intro K hK; go_simp; refine hK _ _ ?_; clear hK K
  apply wpL_some rfl rfl
  · intro w' hw' hn'
    go_simp
    refine ⟨Ext.rfl' _, ?_⟩
    refine ((C4.out w')).mono ?_
    rintro e w2 ⟨rfl, hx⟩
    exact ⟨_, rfl, hx, rfl⟩
  intro v w' hw' hD' hv
  obtain rfl : v = _ := hv
  clear hw' hD' w'
  intro K hK; go_simp; refine hK _ _ ?_; clear hK K
  iterate 2
    apply wpL_none rfl rfl
    · intro w' hw' hn'; go_simp; exact rfl
    intro K hK; go_simp; refine hK _ _ ?_; clear hK K
  refine wpL_nil ?_
  intro w' hw' hD'
  have hw' : Ext W w' := hw'
  have k0 := hw'.block HK0.out
  have j0 := hw'.block HJ0.out
  have hx1 := hxW.tr hw'
  clear hD' hw' e7 e16 e19 e23 HK0 HJ0 hxW C1 C2 C3 C4
  refine wpVL_put_cell 24 w.heap.size 7 _ _ (.slice ah nh ch) rfl rfl k0 (by kernel_rfl) (by show 7 < 24; decide) rfl rfl ?_
  intro V1 k1 m1
  rw [set9_7] at k1
  iterate 2
    apply wpVL_step rfl
    intro K hK
    go_simp
    refine hK _ _ ?_
    clear hK K
  refine wpVL_put_cell 24 w.heap.size 16 _ _ (.slice ag ng cg) rfl rfl k1 (by kernel_rfl) (by show 16 < 24; decide) rfl rfl ?_
  intro V2 k2 m2
  rw [set9_16] at k2
  iterate 2
    apply wpVL_step rfl
    intro K hK
    go_simp
    refine hK _ _ ?_
    clear hK K
  refine wpVL_put_cell 24 w.heap.size 19 _ _ (.slice ad nd cd) rfl rfl k2 (by kernel_rfl) (by show 19 < 24; decide) rfl rfl ?_
  intro V3 k3 m3
  rw [set9_19] at k3
  iterate 2
    apply wpVL_step rfl
    intro K hK
    go_simp
    refine hK _ _ ?_
    clear hK K
  refine wpVL_put_cell 24 w.heap.size 23 _ _ (.slice am nm cm) rfl rfl k3 (by kernel_rfl) (by show 23 < 24; decide) rfl rfl ?_
  intro W2 k2' m4
  rw [set9_23] at k2'
  refine wpVL_nil ?_
  have hmm : Mvs (fun k => k = w.heap.size) w' W2 := ((m1.tr m2).tr m3).tr m4
  have hx2 : Ext w W2 := hmm.ext hx1 (fun k hk => by omega)
  have j2 := hmm.keep j0 (by omega)
  have hN2 := lt_of_block j2
  clear m1 m2 m3 m4 hmm k0 k1 k2 k3 j0 hx1
  have k2 := k2'
  clear k2'
  simp only [Act.put]
  have e15 := cell_blk k2 15
  simp at e15
  have k15 := e15
  have e15 := fun (o : Obj) => (Ext.new W2 o).cell e15
  go_wp2_with (at_builtin; go_must (refine wpList_appX rfl (.tmp 33) (.tmp 42) rfl w0 _ (by simp) rfl _ L rfl HV1.out (hx0.tr (hx2.al _)) (by omega) ?_); intro v1 w1 hmi1 hx1; obtain ⟨a1, c1, hv1, hc1', hc2'⟩ := hmi1.shape; rw [hLl] at hv1; subst hv1; have hx1b : Ext W2 w1 := Ext.tr (Ext.new _ _) hx1; clear hx1; have e15 := hx1b.cell k15; have z15 := fz_blk (hx1b.block k2) 15)
  have k3 := hx1b.block k2
  have hx1 := hx2.tr hx1b
  have hmi1 := hmi1.lowS (base' := w.heap.size + 2) (by simp [World.size_alloc]; omega)
  generalize hW3 : World.setCell w1 _ _ = W3
  have hm3 : Mvs (fun k => k = w.heap.size) w1 W3 := by rw [← hW3]; exact Mvs.set _ _ _ rfl
  have k4 : W3.heap[w.heap.size]? = some (.cells (p.cells (.slice ah nh ch) (.slice a1 m c1) (.slice ag ng cg) (.slice ad nd cd) (.slice am nm cm)) 35) := by
    rw [← hW3]
    exact set_blk k3 15 (.slice a1 m c1)
  have hx3 : Ext w W3 := hm3.ext hx1 (fun k hk => by omega)
  have j3 := hm3.keep (hx1b.block j2) (by omega)
  have hmi3 := hmi1.keep (Keep.ofMvs hm3 (fun k hk => by omega))
  clear hW3 hm3 hx1 hx1b hmi1 k3 e15 hN2 hx2 hmin hmc j2
  have hclen : ∀ k, (cutX L k).length = m := fun k => by rw [cutX_len, hLl]
  have HCl := Lib.hid hclen
  have HLl := Lib.hid hLl
  have hmi0 : RoX w0 W3 (w.heap.size + 2) (.slice a1 m c1) (cutX L 0) := by unfold cutX; simpa using hmi3
  have hN0 := hx3.size
  clear hmi3 hclen hLl
  have e15 := cell_blk k4 15
  simp at e15
  go_wp2_with fail
  go_loopw [50] (fun i wr => ∃ k : Nat, k ≤ m ∧ i = .int .i64 k ∧ RoX w0 wr (w.heap.size + 2) (.slice a1 m c1) (cutX L k) ∧ wr.heap[w.heap.size]? = some (.cells (p.cells (.slice ah nh ch) (.slice a1 m c1) (.slice ag ng cg) (.slice ad nd cd) (.slice am nm cm)) 35) ∧ wr.heap[w.heap.size + 1]? = some (.cells (pno.cells nos9 nos9 nos9 nos9 nos9) 35) ∧ Ext w wr) (fun i _ => m - (intOf i).toNat)
  case atStart => exact ⟨0, Nat.zero_le _, rfl, hmi0, k4, j3, hx3⟩
  case round =>
    obtain ⟨k, hk, rfl, hmi, k5, j5, hx⟩ := hrel
    have hcl := HCl.out k
    by_cases hlt : k < m
    · have hLk : k < L.length := by rw [HLl.out]; omega
      obtain ⟨b, c', he, hg1, hg2, hg3, hg4, hel⟩ := hmi.form (by omega)
      rw [hcl] at he
      cases he
      obtain ⟨u, e0, e1, hu⟩ := hel k (by omega)
      clear hel
      rw [cutX_at hLk] at e0 hu
      have hset := Lib.hid (cutX_set hLk)
      have hgk := Lib.hid (cutX_at hLk)
      generalize L.getD k (0, []) = x at *
      obtain ⟨kd, D⟩ := x
      dsimp only at e0 hu hset
      obtain ⟨au, cu, rfl, hcu1, hcu2, -⟩ := id hu
      unfold maxLen at hcu2
      obtain ⟨q, hq⟩ : ∃ q : Nat, q = min D.length 60 := ⟨_, rfl⟩
      have hqm : (if (60 : Int) < (D.length : Int) then (60 : Int) else (D.length : Int)) = (q : Int) := by split <;> omega
      have hqc : q ≤ cu := by omega
      have hqt : D.take 60 = D.take q := by
        rcases Nat.lt_or_ge 60 D.length with h | h
        · rw [hq, Nat.min_eq_right (by omega)]
        · rw [hq, Nat.min_eq_left h, List.take_of_length_le h, List.take_of_length_le (Nat.le_refl _)]
      have hcut : Rd .u8 w0 (.slice au q cu) (D.take 60) := by
        rw [hqt]
        exact hu.take (by omega)
      have hkm : (k : Int) < (m : Int) := by omega
      have hN := hx.size
      clear hu hqt hq hcl hg2 e15
      have e15 := cell_blk k5 15
      simp at e15
      go_upto_region 7 with (fail)
      refine wp_region_tail 21 [] lasts_nil (by kernel_rfl) (by kernel_rfl) (by kernel_rfl) ?_
      simp only [List.take, List.drop]
      iterate 21
        apply wpL_none rfl rfl
        · intro w' hw' hn'; have e1 := Ext.cell hw' e1; have e15 := Ext.cell hw' e15; go_simp; exact rfl
        intro K hK; go_simp; refine hK _ _ ?_; clear hK K
      refine wpL_nil ?_
      intro w' hw' hD'
      obtain ⟨s1, s2, s3⟩ := (hmi.keep (Keep.ofExt hw')).stored k (by rw [HCl.out]; exact hlt) (.slice au q cu) (D.take 60) hcut
      have k6 := Ext.block hw' k5
      have e1 := Ext.cell hw' e1
      have j6 := Ext.block hw' j5
      have hx6 := hx.tr hw'
      rw [hgk.out] at s1
      dsimp only at s1
      rw [hset.out] at s1
      clear hD' e0 hset hgk hcut hmi hw' hx e15 k5 j5
      iterate 2
        apply wpVL_step rfl
        intro K hK
        go_simp
        refine hK _ _ ?_
        clear hK K
      apply wpVL_step rfl
      intro K hK
      go_simp
      refine hK _ _ ?_
      clear hK K
      refine wpVL_nil ?_
      try simp only [Act.put]
      have hm7 : Mvs (fun j => j = b) w' (w'.setCell ⟨b, k * 2 + 1, none⟩ (.slice au q cu)) := Mvs.set _ _ _ rfl
      have k7 := hm7.keep k6 (by omega)
      have hx7 := hm7.ext hx6 (fun k hk => by omega)
      have j7 := hm7.keep j6 (by omega)
      clear e1 s2 s3 hm7 k6 hx6 j6
      generalize World.setCell w' _ _ = w7 at *
      go_wp2_with fail
      go_roundw
      case rel => exact ⟨k + 1, by omega, by go_num, s1, k7, j7, hx7⟩
      case measure => simp [intOf]; omega
    · obtain rfl : k = m := by omega
      clear e15
      go_wp2_with (first | (refine wpList_load_bigG 35 w.heap.size _ _ _ rfl k5 rfl Tryz.underlying35 rfl (by kernel_rfl) ?_; simp only [Act.put, List.setIfInBounds_toArray, List.set_cons_succ, List.set_cons_zero]) | (refine wpList_put_row 35 (w.heap.size + 1) _ (p.cells (.slice ah nh ch) (.slice a1 k c1) (.slice ag ng cg) (.slice ad nd cd) (.slice am nm cm)) _ rfl rfl j5 (by kernel_rfl) rfl (pk_one9 _ _ _ _ _ _ _ _ _ _ _ _ _ _ _ _) ?_; intro W8 j8 hm8))
      refine bodyPost_ret (results_cell Tryz.results4 _ rfl (load_blk j8 35 _ Tryz.underlying35 rfl (show _ = some 24 by kernel_rfl))) rfl ?_
      have hx8 := hm8.ext hx (fun k hk => by omega)
      have hmi8 := (hmi.keep (Keep.ofMvs hm8 (fun k hk => by omega))).lowS (base' := w.heap.size) (by omega)
      rw [hfew.out]
      exact ⟨_, _, _, _, _, rfl, hmi8, HH.out, HG.out, HD.out, HM.out, hx8⟩
end Go.Proofs.YtbaidlkjbdeceaaGreat
namespace Go.Proofs.YtbaidlkjbdeceaaGreat
set_option maxRecDepth 200000
open Go.Cul
set_option linter.unusedVariables false

theorem fold_neg9 {W : Int} (h : 0 ≤ W) : 0 < W + (65535 - fold16 W) ∧ (W + (65535 - fold16 W)) % 65535 = 0 := by unfold fold16; split <;> omega
theorem fold_full9 {W : Int} (h : 0 < W) (hm : W % 65535 = 0) : fold16 W = 65535 := by unfold fold16; rw [if_neg (by omega)]; omega
/-- A field laid at an even place. -/
theorem csum_at9 {A B : List Int} (hA : Byt A) (hB : Byt B) (h2 : A.length % 2 = 0) : csum (A ++ by2 (65535 - csum (A ++ by2 0 ++ B)) ++ B) = 65535 := by
  have hw : ∀ x : Int, weigh 0 (A ++ by2 x ++ B) = weigh 0 A + x + weigh 0 B := fun x => by
    rw [List.append_assoc, weigh_app, weigh_app]
    have e1 : weigh (0 + A.length) (by2 x) = x := by
      simp only [by2, weigh, wt]
      rw [if_pos (by omega), if_neg (by omega)]
      omega
    have e2 : weigh (0 + A.length + (by2 x).length) B = weigh 0 B := weigh_par _ _ _ (by simp [by2]; omega)
    rw [e1, e2]
    omega
  have hA0 := (weigh_bd 0 A hA).1
  have hB0 := (weigh_bd 0 B hB).1
  unfold csum
  rw [hw, hw]
  obtain ⟨h3, h4⟩ := fold_neg9 (W := weigh 0 A + 0 + weigh 0 B) (by omega)
  exact fold_full9 (by omega) (by omega)
/-- The payload's sum. -/
theorem plput_right (p : Pk) (ok : p.ok) (h : (plput p).2 = 0) (hh : hasP p.h.proto = true) : Byt (plput p).1 ∧ (p.h.proto = 1 → csum (plput p).1 = 65535) ∧ (p.h.proto ≠ 1 → csum (pseu p.h.src p.h.dst p.h.proto ((plput p).1.length : Nat) ++ (plput p).1) = 65535) := by
  by_cases h6 : p.h.proto = 6
  · have hpl : plput p = tput p.h.src p.h.dst p.g := by unfold plput; rw [if_pos h6]
    rw [hpl] at h ⊢
    rcases tput_cases (g := p.g) ok.g ok.h.src ok.h.dst with ⟨E, hE, he, -⟩ | ⟨O, ho, hO, h4, h5, hl, he, hf, -⟩
    · rw [he] at h; exact absurd h hE
    · rw [he]
      refine ⟨lay_byt ok.g hO h4 hf, fun h1 => by omega, fun _ => ?_⟩
      dsimp only
      rw [h6, lay_len]
      exact csum_lay ok.g ok.h.src ok.h.dst hO h4 hl
  by_cases h17 : p.h.proto = 17
  · have hpl : plput p = uput p.h.src p.h.dst p.d.sp p.d.dp p.d.data := by unfold plput; rw [if_neg h6, if_pos h17]
    rw [hpl] at h ⊢
    by_cases hl : 1480 < 8 + p.d.data.length
    · unfold uput at h; rw [if_pos hl] at h; exact absurd h (by decide)
    have he : uput p.h.src p.h.dst p.d.sp p.d.dp p.d.data = (udpl p.d.sp p.d.dp (8 + p.d.data.length) (udpf p.h.src p.h.dst p.d.sp p.d.dp p.d.data) p.d.data, 0) := by unfold uput; rw [if_neg hl]
    rw [he]
    have hfb := udpf_bd ok.h.src ok.h.dst ok.d.sp ok.d.dp (l := p.d.data) (by omega) ok.d.data
    refine ⟨udpl_byt ok.d.sp ok.d.dp (by omega) (by omega) ok.d.data, fun h1 => by omega, fun _ => ?_⟩
    dsimp only
    have hw : 0 ≤ weigh 0 p.d.data := (weigh_bd 0 _ ok.d.data).1
    have hc := udpf_right ok.h.src ok.h.dst ok.d.sp ok.d.dp ok.d.data
    have h2 := weigh_udp p.h.src p.h.dst p.d.sp p.d.dp (8 + p.d.data.length) (8 + p.d.data.length) (udpf p.h.src p.h.dst p.d.sp p.d.dp p.d.data) p.d.data
    have h3 := weigh_pseu_val p.h.src p.h.dst 17 (8 + p.d.data.length)
    have b1 := ok.h.src
    have b2 := ok.h.dst
    have b3 := ok.d.sp
    have b4 := ok.d.dp
    have hcs := (csum_ones (l := pseu p.h.src p.h.dst 17 (8 + (p.d.data.length : Int)) ++ udpl p.d.sp p.d.dp (8 + p.d.data.length) (udpf p.h.src p.h.dst p.d.sp p.d.dp p.d.data) p.d.data) (by omega)).2 hc
    rw [h17, udpl_len, show ((8 + p.d.data.length : Nat) : Int) = 8 + (p.d.data.length : Int) by omega]
    exact hcs
  · have h1 : p.h.proto = 1 := by
      unfold hasP at hh
      simpa [h6, h17] using hh
    have hpl : plput p = mput p.m := by unfold plput; rw [if_neg h6, if_neg h17]
    rw [hpl] at h ⊢
    by_cases hl : 1472 < p.m.data.length
    · unfold mput at h; rw [if_pos hl] at h; exact absurd h (by decide)
    have he : mput p.m = (p.m.lay p.m.field, 0) := by unfold mput; rw [if_neg hl]
    rw [he]
    have hb0 := Ms.lay_byt ok.m (f := 0) (by omega)
    have hcb := csum_bd hb0
    refine ⟨Ms.lay_byt ok.m (by unfold Ms.field; omega), fun _ => ?_, fun h => absurd h1 h⟩
    have := csum_at9 (A := [p.m.ty, p.m.cd]) (B := by4 p.m.rest ++ p.m.data) (fun x hx => by
      simp only [List.mem_cons, List.not_mem_nil, or_false] at hx
      rcases hx with rfl | rfl
      · exact ok.m.ty
      · exact ok.m.cd) ((by4_byt _ ok.m.rest).app ok.m.data) (by simp)
    dsimp only
    unfold Ms.field Ms.lay
    simpa only [List.append_assoc] using this
/-- What Put tells: an error and nothing, or a head and a payload whose sums are right. -/
theorem pput_right (p : Pk) (ok : p.ok) : (∃ E, E ≠ 0 ∧ pput p = ([], E)) ∨ ∃ H Pl : List Int, pput p = (H ++ Pl, 0) ∧ H.length = 20 + p.h.op.length ∧ p.h.op.length ≤ 40 ∧ p.h.op.length % 4 = 0 ∧ H.length + Pl.length ≤ 1500 ∧ csum H = 65535 ∧ Byt H ∧ Byt Pl ∧
    H.getD 0 0 = 64 + (((20 + p.h.op.length) / 4 : Nat) : Int) ∧ H.getD 2 0 * 256 + H.getD 3 0 = ((H.length + Pl.length : Nat) : Int) ∧ (p.h.proto = 1 → csum Pl = 65535) ∧ (p.h.proto ≠ 1 → csum (pseu p.h.src p.h.dst p.h.proto (Pl.length : Nat) ++ Pl) = 65535) := by
  by_cases hm : p.may = true
  · have hh : hasP p.h.proto = true ∧ p.h.may = true := by
      unfold Pk.may at hm
      rw [Bool.and_eq_true, Bool.and_eq_true] at hm
      exact hm.1
    by_cases hE : (plput p).2 = 0
    · obtain ⟨hb, c1, c2⟩ := plput_right p ok hE hh.1
      have hp : pput p = hput p.h (plput p).1 := by unfold pput; rw [if_neg (by rw [hm]; decide), if_neg (by rw [hE]; decide)]
      rw [hp]
      generalize (plput p).1 = Pl at *
      have hmay := hh.2
      unfold Hd.may at hmay
      simp only [Bool.and_eq_true, decide_eq_true_eq] at hmay
      obtain ⟨-, ho1, ho2⟩ := hmay
      unfold hput
      rw [if_neg (by rw [hh.2]; decide)]
      by_cases hl : 1500 - (20 + p.h.op.length) < Pl.length
      · rw [if_pos hl]; exact .inl ⟨3, by decide, rfl⟩
      rw [if_neg hl]
      have hlen := p.h.lay_len Pl.length (p.h.field Pl.length)
      have hpl : 20 + p.h.op.length + Pl.length ≤ 1500 := by omega
      have hpb := Hd.pre_byt ok.h ho1 hpl
      have hbb : Byt (p.h.lay Pl.length (p.h.field Pl.length)) := Hd.lay_byt ok.h ho1 hpl (Hd.field_bd ok.h ho1 hpl)
      have hc := csum_at9 (A := p.h.pre Pl.length) (B := by4 p.h.src ++ by4 p.h.dst ++ p.h.op) hpb (((by4_byt _ ok.h.src).app (by4_byt _ ok.h.dst)).app ok.h.op) (by simp [Hd.pre, by2])
      refine .inr ⟨_, Pl, rfl, hlen, ho1, ho2, by omega, ?_, hbb, hb, ?_, ?_, c1, c2⟩
      · unfold Hd.field Hd.lay
        simpa only [List.append_assoc] using hc
      · simp [Hd.lay, Hd.pre, by2]
      · rw [hlen]
        simp only [Hd.lay, Hd.pre, by2, List.cons_append, List.nil_append, List.append_assoc, List.getD_cons_zero, List.getD_cons_succ]
        omega
    · exact .inl ⟨(plput p).2, hE, by unfold pput; rw [if_neg (by rw [hm]; decide), if_pos hE]⟩
  · exact .inl ⟨1, by decide, by unfold pput; rw [if_pos (by simpa using hm)]⟩
end Go.Proofs.YtbaidlkjbdeceaaGreat
namespace Go.Proofs.YtbaidlkjbdeceaaGreat
set_option maxRecDepth 200000
open Go.ChangeShapes Go.WideShapes Go.ChangeAt Go.RowKit Go.Cul Go.Loose
set_option linter.unusedVariables false

abbrev hdSh : Sh := .agg 8 (.more 1 (.int .u8) (.more 1 (.int .u16) (.more 1 .bool (.more 1 (.int .u8) (.more 1 (.int .u8) (.more 1 (.int .u32) (.more 1 (.int .u32) (.more 1 (.ints .u8 1) .done))))))))
abbrev dgSh : Sh := .agg 3 (.more 1 (.int .u16) (.more 1 (.int .u16) (.more 1 (.ints .u8 1) .done)))
abbrev msSh : Sh := .agg 4 (.more 1 (.int .u8) (.more 1 (.int .u8) (.more 1 (.int .u32) (.more 1 (.ints .u8 1) .done))))
abbrev pkSh : Sh := .agg 24 (.more 8 hdSh (.more 9 segSh (.more 3 dgSh (.more 4 msSh .done))))
theorem open_hd9 {w : World} {cs : List Value} (h : Reads w hdSh cs) : ∃ (g : Hd) (v : Value), cs = (g.cells v).toList ∧ g.ok ∧ Byt g.op ∧ Rd .u8 w v g.op := by
  simp only [Reads] at h
  obtain ⟨_, _, e0, ⟨s0, rfl, w0⟩, _, _, rfl, ⟨s1, rfl, w1⟩, _, _, rfl, ⟨s2, rfl⟩, _, _, rfl, ⟨s3, rfl, w3⟩, _, _, rfl, ⟨s4, rfl, w4⟩, _, _, rfl, ⟨s5, rfl, w5⟩, _, _, rfl, ⟨s6, rfl, w6⟩, _, _, rfl, ⟨v, l, rfl, hr, hb, -⟩, rfl⟩ := h
  exact ⟨⟨s0, s1, s2, s3, s4, s5, s6, l⟩, v, by simpa using e0, ⟨wf_u8 w0, wf_u16 w1, wf_u8 w3, wf_u8 w4, wf_u32 w5, wf_u32 w6, byt_of_wf hb⟩, byt_of_wf hb, hr⟩
theorem open_dg9 {w : World} {cs : List Value} (h : Reads w dgSh cs) : ∃ (g : Dg) (v : Value), cs = (g.cells v).toList ∧ g.ok ∧ Rd .u8 w v g.data := by
  simp only [Reads] at h
  obtain ⟨_, _, e0, ⟨s0, rfl, w0⟩, _, _, rfl, ⟨s1, rfl, w1⟩, _, _, rfl, ⟨v, l, rfl, hr, hb, -⟩, rfl⟩ := h
  exact ⟨⟨s0, s1, l⟩, v, by simpa using e0, ⟨wf_u16 w0, wf_u16 w1, byt_of_wf hb⟩, hr⟩
theorem open_ms9 {w : World} {cs : List Value} (h : Reads w msSh cs) : ∃ (g : Ms) (v : Value), cs = (g.cells v).toList ∧ g.ok ∧ Rd .u8 w v g.data := by
  simp only [Reads] at h
  obtain ⟨_, _, e0, ⟨s0, rfl, w0⟩, _, _, rfl, ⟨s1, rfl, w1⟩, _, _, rfl, ⟨s2, rfl, w2⟩, _, _, rfl, ⟨v, l, rfl, hr, hb, -⟩, rfl⟩ := h
  exact ⟨⟨s0, s1, s2, l⟩, v, by simpa using e0, ⟨wf_u8 w0, wf_u8 w1, wf_u32 w2, byt_of_wf hb⟩, hr⟩
theorem open_pk9 {w : World} {cs : Array Value} (h : Reads w pkSh cs.toList) : ∃ (p : Pk) (vh vo vg vd vm : Value), cs = p.cells vh vo vg vd vm ∧ p.ok ∧ PkR w p vh vo vg vd vm := by
  obtain ⟨c1, c2, h1, hh, d1, d2, rfl, hs, e1, e2, rfl, hd, f1, f2, rfl, hm, rfl⟩ := h
  obtain ⟨hd', vh, rfl, ok1, bo, r1⟩ := open_hd9 hh
  obtain ⟨g, vo, vg, hg, ok2, r2, r3, -⟩ := open_segment (cs := d1.toArray) (by simpa using hs)
  obtain rfl : d1 = (g.cells vo vg).toList := by rw [← hg]
  obtain ⟨d, vd, rfl, ok3, r4⟩ := open_dg9 hd
  obtain ⟨m, vm, rfl, ok4, r5⟩ := open_ms9 hm
  exact ⟨⟨hd', g, d, m⟩, vh, vo, vg, vd, vm, by rw [← Array.toList_inj]; simpa using h1, ⟨ok1, bo, ok2, ok3, ok4⟩, ⟨r1, r2, r3, r4, r5⟩⟩
theorem fxP_len (p : Pk) : (fxP p).len := by
  have h : ∀ l : List Int, (l.take 1600).length ≤ 140737488351232 := fun l => by rw [List.length_take]; omega
  exact ⟨h _, h _, h _, h _⟩
/-- A packet whose parts read as they did at w0; its options lie in new memory. -/
structure FxR (w0 w : World) (base : Nat) (p : Pk) (vh vo vg vd vm : Value) : Prop where
  h : Rd .u8 w0 vh p.h.op
  o : RoX w0 w base vo p.g.os
  g : Rd .u8 w0 vg p.g.data
  d : Rd .u8 w0 vd p.d.data
  m : Rd .u8 w0 vm p.m.data
theorem FxR.keep {w0 w w' : World} {base : Nat} {p : Pk} {vh vo vg vd vm : Value} (h : FxR w0 w base p vh vo vg vd vm) (hk : Keep base w w') : FxR w0 w' base p vh vo vg vd vm := ⟨h.h, h.o.keep hk, h.g, h.d, h.m⟩
theorem FxR.ext {w0 w w' : World} {base : Nat} {p : Pk} {vh vo vg vd vm : Value} (h : FxR w0 w base p vh vo vg vd vm) (hx : Ext w w') : FxR w0 w' base p vh vo vg vd vm := h.keep (Keep.ofExt hx)
theorem FxR.pk {w0 w : World} {base : Nat} {p : Pk} {vh vo vg vd vm : Value} (h : FxR w0 w base p vh vo vg vd vm) (hb : w0.heap.size ≤ base) (hx : Ext w0 w) : PkR w p vh vo vg vd vm := ⟨h.h.ext hx, (h.o.mio hb hx).rdo, h.g.ext hx, h.d.ext hx, h.m.ext hx⟩
/-- few of a packet. -/
theorem few9_of (p : Pk) (vh vo vg vd vm : Value) (w0 w : World) (hx0 : Ext w0 w) (r : PkR w0 p vh vo vg vd vm) :
    Calls Tryz.prog 4 #[.agg (p.cells vh vo vg vd vm)] w fun e w' => ∃ a1 n1 c1 a2 n2 c2 a3 n3 c3 a4 n4 c4 a5 n5 c5, e = .returned (.agg ((fxP p).cells (.slice a1 n1 c1) (.slice a2 n2 c2) (.slice a3 n3 c3) (.slice a4 n4 c4) (.slice a5 n5 c5))) ∧ FxR w0 w' w.heap.size (fxP p) (.slice a1 n1 c1) (.slice a2 n2 c2) (.slice a3 n3 c3) (.slice a4 n4 c4) (.slice a5 n5 c5) ∧ Ext w w' := by
  refine (few9_any p vh vo vg vd vm w0 w hx0 r).mono ?_
  rintro e w' ⟨uh, uo, ug, ud, um, rfl, h1, h2, h3, h4, h5, hx⟩
  obtain ⟨a2, c2, rfl, -, -⟩ := h1.shape
  obtain ⟨a1, n1, c1, rfl⟩ := h2.shape
  obtain ⟨a3, n3, c3, rfl⟩ := h3.shape
  obtain ⟨a4, n4, c4, rfl⟩ := h4.shape
  obtain ⟨a5, n5, c5, rfl⟩ := h5.shape
  exact ⟨_, _, _, _, _, _, _, _, _, _, _, _, _, _, _, rfl, ⟨h2, h1, h3, h4, h5⟩, hx⟩
end Go.Proofs.YtbaidlkjbdeceaaGreat
