/-
  Proved here: what shift's options compute. Condition: numbers within their kinds, at most 50000 options.
-/
import Derived.Test.YtgbbpibcmpeneaaShP
import Derived.Test.YtgbbpibcmpeneaaRef5
namespace Go.Proofs.Ytgbbpibcmpeneaa
set_option maxRecDepth 200000
open Go.ChangeShapes Go.WideShapes Go.ChangeAt Go.RowKit Go.Cul Go.Loose
set_option linter.unusedVariables false
attribute [local go_sem] Loose.Still Loose.Upon Loose.vUpon

theorem wpList_appO {w : World} {ops : Array Oper} {rest : List Oper} {o : Oper} {a : Act} {Q : Exit → Act → World → Prop} (hgd : o.guard = none) (s x : Operand)
    (ho : o.op = .call { callee := .builtin .append, args := #[s, x], argTypes := #[49, 49] }) (base : Nat) (v : Value) (os : List Op1) (hs : a.eval s = v) (h : FrO w base v os) (bs : Nat) (hx : a.eval x = .slice (some ⟨bs, 0, none⟩) 1 1)
    (k : Int) (u : Value) (l : List Int) (hu : Fr w base 5 .u8 u l) (hbs : w.heap[bs]? = some (.cells #[.int .u8 k, u] 98)) (hn : os.length ≤ 100000) (hbase : base ≤ w.heap.size)
    (hc : ∀ v' w', FrO w' base v' (os ++ [(k, l)]) → w.grownBy w' v.ownBlock → (∀ j, v.ownBlock = some j → base ≤ j) → wpList Try.prog ops Q rest (a.put o.dst v') w') : wpList Try.prog ops Q (o :: rest) a w := by
  obtain ⟨v', w', hrun, h2, h3, -, h5⟩ := run_appO w base o.type v os h bs k u l hu hbs hn hbase
  refine wpList_plain hgd fun _ hK => ?_
  unfold Oper.wp execOp
  simp only [ho, resolve, invoke, builtin, Sem.run_bind, Sem.run_pure, Result.andThen_ok, List.map_toArray, List.map_cons, List.map_nil, hs, hx, hrun]
  exact hK _ _ (hc v' w' h2 h3 h5)

theorem FrB.stored {t : TypeId} {w : World} {base g n cap : Nat} {bs : List Bk} (h : FrB t w base (.slice (some ⟨g, 0, none⟩) n cap) bs) {i : Nat} (hi : i < bs.length) (x y : Int) :
    FrB t ((w.setCell ⟨g, i * 2, none⟩ (.int .u32 x)).setCell ⟨g, i * 2 + 1, none⟩ (.int .u32 y)) base (.slice (some ⟨g, 0, none⟩) n cap) (bs.set i (x, y)) ∧ base ≤ g ∧ g < w.heap.size ∧ (∀ j, w.frozen? ⟨g, j, none⟩ = false) := by
  rcases h.2 with ⟨he, h0⟩ | ⟨g', cap', cur, he, hb, hh, hn, hm, hsz, htk⟩
  · cases he
  · cases he
    refine ⟨⟨?_, .inr ⟨g, cap, (cur.setIfInBounds (i * 2) (.int .u32 x)).setIfInBounds (i * 2 + 1) (.int .u32 y), ?_, hb, ?_, ?_, hm, ?_, ?_⟩⟩, hb, lt_of_block hh, fun j => by simp [World.frozen?, hh]⟩
    · rw [rowsB_len]
    · simp
    · simp [World.setCell, Array.getElem?_modify, hh]
    · simpa using hn
    · simpa using hsz
    · rw [Array.toList_setIfInBounds, Array.toList_setIfInBounds, List.take_set, List.take_set, List.length_set, htk]
      clear htk hsz hh hb hm h hn
      induction bs generalizing i with
      | nil => simp at hi
      | cons b r ih =>
        cases i with
        | zero => simp [rowsB]
        | succ i =>
          have := ih (i := i) (by simpa using hi)
          simp only [rowsB, List.flatMap_cons, List.set_cons_succ] at this ⊢
          rw [show (i + 1) * 2 = i * 2 + 1 + 1 from by omega]
          simp only [List.cons_append, List.nil_append, List.set_cons_succ]
          rw [this]
theorem keep_of {base : Nat} {w w' : World} {v : Value} {os : List Op1} (h : FrO w base v os) (hk : ∀ g o, base ≤ g → w.heap[g]? = some o → w'.heap[g]? = some o) : FrO w' base v os := h.keep hk
theorem sone_other {x : Shf} {t : Bool} {k : Int} {D : List Int} (hk : keepK (k, D) = true) (h5 : k ≠ 5) : sone x t (k, D) = ([(k, D)], t) := by
  unfold sone; rw [if_pos hk, if_neg h5]
theorem sone_skip {x : Shf} {t : Bool} {D : List Int} (h : (t || !x.sack || decide ((osacks [(5, D)]).length = 0)) = true) : sone x t (5, D) = ([], t) := by
  unfold sone
  rw [if_pos (show keepK (5, D) = true from rfl), if_pos (show ((5 : Int), D).1 = 5 from rfl), if_pos h]
theorem sone_sack {x : Shf} {t : Bool} {D : List Int} (h : (t || !x.sack || decide ((osacks [(5, D)]).length = 0)) = false) : sone x t (5, D) = ([(owith (mvB x (osacks [(5, D)]))).1], true) := by
  unfold sone
  rw [if_pos (show keepK (5, D) = true from rfl), if_pos (show ((5 : Int), D).1 = 5 from rfl), if_neg (by rw [h]; simp)]

/-- What the closure of options keeps. -/
def SO (base B5 B6 : Nat) (acc : List Op1) (t : Bool) (w : World) : Prop :=
  ∃ v, w.heap[B5]? = some (.cells #[v] 49) ∧ FrO w base v acc ∧ w.heap[B6]? = some (.cells #[.bool t] 4)

set_option maxHeartbeats 2000000 in
set_option maxRecDepth 100000 in
theorem sopt_other (x : Shf) (k : Int) (D : List Int) (u : Value) (acc : List Op1) (t : Bool) (base B5 B6 B2 : Nat) (w : World) (hk : 0 ≤ k ∧ k ≤ 255) (h5 : k ≠ 5) (hDl : D.length ≤ 140737488351232) (hu : Rd .u8 w u D)
    (hs : SO base B5 B6 acc t w) (hb : B5 < base ∧ B6 < base ∧ B5 ≠ B6) (hacc : acc.length ≤ 50000) (hbase : base ≤ w.heap.size) :
    Calls Try.prog 50 #[.agg #[.int .u8 k, u], .pointer (some ⟨B5, 0, none⟩), .pointer (some ⟨B6, 0, none⟩), .pointer (some ⟨B2, 0, none⟩)] w fun e w' => e = .returned (.tuple #[]) ∧ SO base B5 B6 (acc ++ [(k, D)]) t w' ∧ Mvs (fun j => j = B5 ∨ base ≤ j) w w' := by
  obtain ⟨v, k5, hf, k6⟩ := hs
  obtain ⟨av, cv, rfl⟩ := hf.rdo.shape
  obtain ⟨au, nu, cu, rfl⟩ := hu.shape
  have hx0 := Ext.new w (.cells #[.int .u8 k, .slice au nu cu] 98)
  have k4 := heap_alloc_new w (.cells #[.int .u8 k, .slice au nu cu] 98)
  have h5' : (k != 5) = true := by simpa using h5
  have HF := Lib.hid hf
  have HU := Lib.hid hu
  clear hf hu
  go_enter Try.func50, Try.ntmps50
  go_upto_region 2 with (fail)
  generalize hW : World.alloc w _ = W at *
  clear hW
  have k5 := hx0.block k5
  have k6 := hx0.block k6
  have hsW := hx0.size
  have e0 := cell_blk k4 0
  have e1 := cell_blk k4 1
  simp at e0 e1
  have y0 := cell_blk k5 0
  simp at y0
  refine wp_region_tail 8 [(5, fun v w' => Fr w' base 5 .u8 v D), (6, AggO base k D), (7, NewO base k D)] ?_ (by kernel_rfl) (by kernel_rfl) (by kernel_rfl) ?_
  · exact lasts_cons (fun _ _ _ hx h => Fr.kept h hx) (lasts_cons (fun _ _ _ hx h => AggO.ext h hx) (lasts_cons (fun _ _ _ hx h => NewO.ext h hx) lasts_nil))
  simp only [List.take, List.drop]
  iterate 1
    apply wpL_none rfl rfl
    · intro w' hw' hn'; have y0 := Ext.cell hw' y0; go_simp; exact rfl
    intro K hK; go_simp; refine hK _ _ ?_; clear hK K
  iterate 1
    apply wpL_none rfl rfl
    · intro w' hw' hn'; go_simp; exact rfl
    intro K hK; go_simp; refine hK _ _ ?_; clear hK K
  iterate 1
    apply wpL_none rfl rfl
    · intro w' hw' hn'; have e0 := Ext.cell hw' e0; go_simp; exact rfl
    intro K hK; go_simp; refine hK _ _ ?_; clear hK K
  iterate 1
    apply wpL_none rfl rfl
    · intro w' hw' hn'; go_simp; exact rfl
    intro K hK; go_simp; refine hK _ _ ?_; clear hK K
  iterate 1
    apply wpL_none rfl rfl
    · intro w' hw' hn'; have e1 := Ext.cell hw' e1; go_simp; exact rfl
    intro K hK; go_simp; refine hK _ _ ?_; clear hK K
  apply wpL_some rfl rfl
  · intro w' hw' hn'
    go_simp
    refine ⟨Ext.rfl' _, ?_⟩
    refine (bclone_any _ D w' ((HU.out.ext hx0).ext hw') (by omega)).mono ?_
    rintro e w2 ⟨u, rfl, hu, hx2⟩
    exact ⟨_, rfl, hx2, hu.low (Nat.le_trans hbase (Nat.le_trans hsW hw'.size))⟩
  intro v5 w5 hw5 hD5 hv5
  obtain ⟨a5, n5, c5, rfl⟩ := hv5.rd.shape
  clear hw5 hD5 hv5 w5
  intro K hK; go_simp; refine hK _ _ ?_; clear hK K
  apply wpL_some rfl rfl
  · intro w' hw' hn'
    have q : Fr w' base 5 .u8 _ D := hn' ⟨5, .data⟩ (by simp) rfl
    go_simp
    exact ⟨Ext.rfl' _, _, rfl, q⟩
  intro v6 w6 hw6 hD6 hv6
  obtain ⟨u6, rfl, hv6⟩ := hv6
  obtain ⟨a6, n6, c6, rfl⟩ := hv6.rd.shape
  clear hw6 hD6 hv6 w6
  intro K hK; go_simp; refine hK _ _ ?_; clear hK K
  apply wpL_some rfl rfl
  · intro w' hw' hn'
    obtain ⟨u, q1, q2⟩ : AggO base k D _ w' := hn' ⟨6, .data⟩ (by simp) rfl
    cases q1
    go_simp
    exact ⟨Ext.new _ _, _, _, rfl, heap_alloc_new _ _, q2.kept (Ext.new _ _)⟩
  intro v7 w7 hw7 hD7 hv7
  obtain ⟨g7, u7, rfl, -, -⟩ := hv7
  clear hw7 hD7 w7
  intro K hK; go_simp; refine hK _ _ ?_; clear hK K
  refine wpL_nil ?_
  intro w' hw' hD'
  have hv7 := hD' 7
  simp [Loose.upd] at hv7
  obtain ⟨g7', u7', he7, hg7, hu7⟩ := hv7
  cases he7
  have k5' := Ext.block hw' k5
  have k6' := Ext.block hw' k6
  apply wpVL_step rfl
  intro K hK
  refine vupon_appO (.tmp 12) (.tmp 19) (by rfl) base _ acc (by rfl) (HF.out.keep (Keep.ofExt (hx0.tr hw'))) g7 (by rfl) k u7' D hu7 hg7 (by omega) (Nat.le_trans hbase (Nat.le_trans hsW hw'.size)) (fun v' w'' q1 q2 q3 => ?_)
  have k5 := (q2.block B5 (lt_of_block k5') (fun e => by have := q3 _ e.symm; omega)).trans k5'
  have k6 := (q2.block B6 (lt_of_block k6') (fun e => by have := q3 _ e.symm; omega)).trans k6'
  have hmw : Mvs (fun j => j = B5 ∨ base ≤ j) w w'' := (Mvs.ofExt (hx0.tr hw')).tr (Mvs.mono (mvs_of_grown q2) (fun j _ hj => .inr (q3 j hj)))
  refine hK _ _ ?_
  clear hK K k5' k6' hD' hg7 hu7 q2 q3 y0 e0 e1
  obtain ⟨a8, c8, he8⟩ := q1.rdo.shape
  rw [show (acc ++ [(k, D)]).length = acc.length + 1 from by simp] at he8
  subst he8
  have y0 := cell_blk k5 0
  simp at y0
  have fz := fz_blk k5 0
  apply wpVL_step rfl
  intro K hK
  go_simp
  refine hK _ _ ?_
  clear hK K
  refine wpVL_nil ?_
  try simp only [Act.put]
  have hms : Mvs (fun j => j = B5) w'' (w''.setCell ⟨B5, 0, none⟩ (.slice a8 (acc.length + 1) c8)) := Mvs.set _ _ _ rfl
  have k5 := set_blk k5 0 (.slice a8 (acc.length + 1) c8)
  simp only [List.setIfInBounds_toArray, List.set_cons_zero] at k5
  have k6 := hms.keep k6 (by omega)
  have hf := q1.keep (Keep.ofMvs hms (fun j hj => by omega))
  have hmw := hmw.tr (hms.mono (fun j _ hj => .inl hj))
  clear hms q1 y0 fz
  generalize w''.setCell ⟨B5, 0, none⟩ (.slice a8 (acc.length + 1) c8) = w9 at *
  go_wp2_with fail
  exact bodyPost_ret (v := .tuple #[]) (by simp [results, Try.results50, go_sem]) rfl ⟨rfl, ⟨_, k5, hf, k6⟩, hmw⟩

theorem FrB.at {t : TypeId} {w : World} {base g n cap : Nat} {bs : List Bk} (h : FrB t w base (.slice (some ⟨g, 0, none⟩) n cap) bs) {i : Nat} (hi : i < bs.length) :
    w.cell? ⟨g, i * 2, none⟩ = some (.int .u32 (bs.getD i (0, 0)).1) ∧ w.cell? ⟨g, i * 2 + 1, none⟩ = some (.int .u32 (bs.getD i (0, 0)).2) := by
  obtain ⟨a, c, he, q1, q2, q3⟩ := h.rdb
  simp only [Value.slice.injEq] at he
  obtain ⟨rfl, -, -⟩ := he
  rcases q3 with q3 | ⟨b, o, he, q3⟩
  · rw [q3] at hi; simp at hi
  · cases he
    have := q3 i hi
    simpa using this

theorem mvB_take {x : Shf} {bs : List Bk} {i : Nat} (h : i < bs.length) : (mvB x (bs.take i) ++ bs.drop i).set i (((bs.getD i (0, 0)).1 + x.ak) % 4294967296, ((bs.getD i (0, 0)).2 + x.ak) % 4294967296) = mvB x (bs.take (i + 1)) ++ bs.drop (i + 1) := by
  have hl : (mvB x (bs.take i)).length = i := by unfold mvB; rw [List.length_map, List.length_take]; omega
  rw [List.set_append_right _ _ (by omega), hl, Nat.sub_self, List.drop_eq_getElem_cons h, List.set_cons_zero, take_succ_getD' (0, 0) bs i h]
  simp [mvB]
theorem mvB_at {x : Shf} {bs : List Bk} {i : Nat} (h : i < bs.length) : (mvB x (bs.take i) ++ bs.drop i).getD i (0, 0) = bs.getD i (0, 0) := by
  have hl : (mvB x (bs.take i)).length = i := by unfold mvB; rw [List.length_map, List.length_take]; omega
  simp only [List.getD, List.getElem?_append_right (show (mvB x (bs.take i)).length ≤ i by omega), hl, Nat.sub_self, List.getElem?_drop, Nat.add_zero]
theorem mvB_len (x : Shf) (bs : List Bk) (i : Nat) : (mvB x (bs.take i) ++ bs.drop i).length = bs.length := by
  unfold mvB; simp only [List.length_append, List.length_map, List.length_take, List.length_drop]; omega
theorem mvB_ok {x : Shf} {bs : List Bk} : okB (mvB x bs) := by
  intro b hb
  obtain ⟨c, _, rfl⟩ := List.mem_map.1 hb
  dsimp only
  omega

set_option maxHeartbeats 2000000 in
set_option maxRecDepth 100000 in
theorem sopt_sack (x : Shf) (hx : x.ok) (D : List Int) (u : Value) (acc : List Op1) (t : Bool) (base B5 B6 B2 : Nat) (w : World) (hD : Byt D) (hDl : D.length ≤ 140737488351232) (hu : Rd .u8 w u D)
    (hs : SO base B5 B6 acc t w) (k2 : w.heap[B2]? = some (.cells x.cells 40)) (hb : B5 < base ∧ B6 < base ∧ B2 < base ∧ B5 ≠ B6 ∧ B2 ≠ B5 ∧ B2 ≠ B6) (hacc : acc.length ≤ 50000) (hbase : base ≤ w.heap.size) :
    Calls Try.prog 50 #[.agg #[.int .u8 5, u], .pointer (some ⟨B5, 0, none⟩), .pointer (some ⟨B6, 0, none⟩), .pointer (some ⟨B2, 0, none⟩)] w fun e w' => e = .returned (.tuple #[]) ∧ SO base B5 B6 (acc ++ (sone x t (5, D)).1) (sone x t (5, D)).2 w' ∧ Mvs (fun j => j = B5 ∨ j = B6 ∨ base ≤ j) w w' := by
  obtain ⟨v, k5, hf, k6⟩ := hs
  have K20 := Lib.hid k2
  have K50 := Lib.hid k5
  obtain ⟨av, cv, rfl⟩ := hf.rdo.shape
  obtain ⟨au, nu, cu, rfl⟩ := hu.shape
  have hx0 := (Ext.new w (.cells #[.int .u8 5, .slice au nu cu] 98)).al (.cells #[.int .u8 5, .slice au nu cu] 98)
  have k4 : ((w.alloc (.cells #[.int .u8 5, .slice au nu cu] 98)).alloc (.cells #[.int .u8 5, .slice au nu cu] 98)).heap[w.heap.size + 1]? = some (.cells #[.int .u8 5, .slice au nu cu] 98) := by simp only [heap_alloc_at, World.size_alloc]; simp
  have hS1 := fun h => sone_skip (x := x) (t := t) (D := D) h
  have hS2 := fun h => sone_sack (x := x) (t := t) (D := D) h
  have HX := Lib.hid hx
  have HF := Lib.hid hf
  have HU := Lib.hid hu
  have HD := Lib.hid hD
  have HBL := fnd_okS [(5, D)]
  clear hf hu hx hD
  have hbl4 : (osacks [(5, D)]).length ≤ 4 := by unfold osacks bks; rw [List.length_map, List.length_range]; omega
  generalize sone x t (5, D) = SN at *
  go_enter Try.func50, Try.ntmps50
  go_wp2_with fail
  generalize hW : (w.alloc _).alloc _ = W at *
  clear hW
  refine (osacks_any _ [(5, D)] W (rdo_1 k4 (HU.out.ext hx0)) (byto_1 (by decide) HD.out)).mono ?_
  rintro e w1 ⟨ub, rfl, hfb, hx1⟩
  obtain ⟨ab, cb, rfl⟩ := hfb.rdb.shape
  have hx01 := hx0.tr hx1
  have hsW := hx0.size
  have k5 := hx01.block k5
  have k6 := hx01.block k6
  have k2 := hx01.block k2
  have hfa := HF.out.keep (Keep.ofExt hx01)
  clear k4 hx0 hx1 HU HD HBL
  generalize osacks [(5, D)] = bs at *
  have hxak := HX.out.ak
  obtain ⟨sq, ak, sack, fr, to, mss⟩ := x
  dsimp only [Shf.cells] at *
  have c6 := cell_blk k6 0
  simp at c6
  have c1 := cell_blk k2 1
  have c2 := cell_blk k2 2
  simp at c1 c2
  rcases t with _ | _
  rotate_left
  · have HS := Lib.hid (hS1 (by simp))
    clear hS1 hS2
    go_wp2_with fail
    exact bodyPost_ret (v := .tuple #[]) (by simp [results, Try.results50, go_sem]) rfl ⟨rfl, by rw [HS.out]; exact ⟨_, k5, by simpa using hfa, k6⟩, Mvs.ofExt hx01⟩
  rcases sack with _ | _
  · have HS := Lib.hid (hS1 (by simp))
    clear hS1 hS2
    go_wp2_with fail
    exact bodyPost_ret (v := .tuple #[]) (by simp [results, Try.results50, go_sem]) rfl ⟨rfl, by rw [HS.out]; exact ⟨_, k5, by simpa using hfa, k6⟩, Mvs.ofExt hx01⟩
  by_cases hl0 : bs.length = 0
  · have HS := Lib.hid (hS1 (by simp [hl0]))
    have hl0' : ((bs.length : Int) == 0) = true := by simp [hl0]
    clear hS1 hS2 hl0
    go_wp2_with fail
    exact bodyPost_ret (v := .tuple #[]) (by simp [results, Try.results50, go_sem]) rfl ⟨rfl, by rw [HS.out]; exact ⟨_, k5, by simpa using hfa, k6⟩, Mvs.ofExt hx01⟩
  have HS := Lib.hid (hS2 (by simp [hl0]))
  have hl0' : ((bs.length : Int) == 0) = false := by simp [hl0]
  have hl1 : 0 < bs.length := by omega
  clear hS1 hS2 hl0
  have hfbl := hfb.low (base' := w.heap.size) hsW
  have hm1 : Mvs (fun j => j = B6 ∨ w.heap.size ≤ j) w w1 := Mvs.ofExt hx01
  have hlt6 := lt_of_block k6
  have hlo6 : B6 < w.heap.size := by omega
  have hms : Mvs (fun j => j = B6) w1 (w1.setCell ⟨B6, 0, none⟩ (.bool true)) := Mvs.set _ _ _ rfl
  have k6' := set_blk k6 0 (.bool true)
  simp at k6'
  have hfbl := hfbl.keep (Keep.ofMvs hms (fun j hj => by omega))
  have hm2 := hm1.tr (hms.mono (fun j _ hj => .inl hj))
  have f6 := fz_blk k6 0
  obtain ⟨g, hge⟩ : ∃ g, ab = some ⟨g, 0, none⟩ := by
    rcases hfb.2 with ⟨he, h0⟩ | ⟨g, cap, cur, he, -⟩
    · simp only [Value.slice.injEq] at he; omega
    · simp only [Value.slice.injEq] at he; exact ⟨g, he.1⟩
  subst hge
  have HFB := Lib.hid hfbl
  have HM2 := Lib.hid hm2
  have HK6 := Lib.hid k6'
  have HFA := Lib.hid HF.out
  clear hfb hfbl hm1 hm2 hms k6' hfa hx01 HF
  go_wp2_with fail
  clear c6 f6 k6 c1 c2
  have hbl63 : (bs.length : Int) ≤ 4 := by omega
  go_loopw [37] (fun iv wr => ∃ i : Nat, i ≤ bs.length ∧ iv = .int .i64 i ∧ FrB 112 wr w.heap.size (.slice (some ⟨g, 0, none⟩) bs.length cb) (mvB ⟨sq, ak, true, fr, to, mss⟩ (bs.take i) ++ bs.drop i) ∧ Mvs (fun j => j = B6 ∨ w.heap.size ≤ j) w wr ∧ wr.heap[B6]? = some (.cells #[.bool true] 4)) (fun iv _ => bs.length - (intOf iv).toNat)
  case atStart => exact ⟨0, Nat.zero_le _, rfl, by simpa [mvB] using HFB.out, HM2.out, HK6.out⟩
  case round =>
    obtain ⟨i, hi, rfl, hfb, hm, k6⟩ := hrel
    by_cases hlt : i < bs.length
    · have hseti := Lib.hid (mvB_take (x := ⟨sq, ak, true, fr, to, mss⟩) hlt)
      have hati := Lib.hid (mvB_at (x := ⟨sq, ak, true, fr, to, mss⟩) hlt)
      have hlni := Lib.hid (mvB_len ⟨sq, ak, true, fr, to, mss⟩ bs i)
      have HFBi := Lib.hid hfb
      have hat := hfb.at (i := i) (by rw [hlni.out]; exact hlt)
      rw [hati.out] at hat
      have k2' := hm.keep K20.out (by omega)
      have c1 := cell_blk k2' 1
      simp at c1
      obtain ⟨q0, q1⟩ := hat
      obtain ⟨p1, hp1⟩ : ∃ z, z = (bs.getD i (0, 0)).1 := ⟨_, rfl⟩
      obtain ⟨p2, hp2⟩ : ∃ z, z = (bs.getD i (0, 0)).2 := ⟨_, rfl⟩
      rw [← hp1] at q0
      rw [← hp2] at q1
      have HP1 := Lib.hid hp1
      have HP2 := Lib.hid hp2
      have hhi : (i : Int) < 4 := by omega
      have HMr := Lib.hid hm
      have HK6r := Lib.hid k6
      clear hfb hp1 hp2 hm k6
      go_upto_region 9 with (fail)
      refine wp_region_tail 19 [] lasts_nil (by kernel_rfl) (by kernel_rfl) (by kernel_rfl) ?_
      simp only [List.take, List.drop]
      iterate 6
        apply wpL_none rfl rfl
        · intro w' hw' hn'; go_simp; exact rfl
        intro K hK; go_simp; refine hK _ _ ?_; clear hK K
      iterate 1
        apply wpL_none rfl rfl
        · intro w' hw' hn'; have q0 := Ext.cell hw' q0; go_simp; exact rfl
        intro K hK; go_simp; refine hK _ _ ?_; clear hK K
      iterate 1
        apply wpL_none rfl rfl
        · intro w' hw' hn'; go_simp; exact rfl
        intro K hK; go_simp; refine hK _ _ ?_; clear hK K
      iterate 1
        apply wpL_none rfl rfl
        · intro w' hw' hn'; have c1 := Ext.cell hw' c1; go_simp; exact rfl
        intro K hK; go_simp; refine hK _ _ ?_; clear hK K
      iterate 5
        apply wpL_none rfl rfl
        · intro w' hw' hn'; go_simp; exact rfl
        intro K hK; go_simp; refine hK _ _ ?_; clear hK K
      iterate 1
        apply wpL_none rfl rfl
        · intro w' hw' hn'; have q1 := Ext.cell hw' q1; go_simp; exact rfl
        intro K hK; go_simp; refine hK _ _ ?_; clear hK K
      iterate 1
        apply wpL_none rfl rfl
        · intro w' hw' hn'; go_simp; exact rfl
        intro K hK; go_simp; refine hK _ _ ?_; clear hK K
      iterate 1
        apply wpL_none rfl rfl
        · intro w' hw' hn'; have c1 := Ext.cell hw' c1; go_simp; exact rfl
        intro K hK; go_simp; refine hK _ _ ?_; clear hK K
      iterate 2
        apply wpL_none rfl rfl
        · intro w' hw' hn'; go_simp; exact rfl
        intro K hK; go_simp; refine hK _ _ ?_; clear hK K
      refine wpL_nil ?_
      intro w' hw' hD'
      have hfb := HFBi.out.keep (Keep.ofExt hw')
      obtain ⟨hst1, hg1, hg2, hfz⟩ := hfb.stored (i := i) (by rw [hlni.out]; exact hlt) ((p1 + ak) % 4294967296) ((p2 + ak) % 4294967296)
      have q0 := Ext.cell hw' q0
      have q1 := Ext.cell hw' q1
      rw [HP1.out, HP2.out, hseti.out, ← HP1.out, ← HP2.out] at hst1
      have hmw : Mvs (fun j => j = g) w' ((w'.setCell ⟨g, i * 2, none⟩ (.int .u32 ((p1 + ak) % 4294967296))).setCell ⟨g, i * 2 + 1, none⟩ (.int .u32 ((p2 + ak) % 4294967296))) := Mvs.tr (Mvs.set _ _ _ rfl) (Mvs.set _ _ _ rfl)
      have hmf := HMr.out.tr ((Mvs.ofExt hw').tr (hmw.mono (fun j _ hj => .inr (by omega))))
      have hk6f := hmw.keep (Ext.block hw' HK6r.out) (by omega)
      have HST := Lib.hid hst1
      have HMF := Lib.hid hmf
      have HKF := Lib.hid hk6f
      clear hD' hfb hst1 hmw hmf hk6f c1 k2' hw'
      iterate 1
        apply wpVL_step rfl
        intro K hK
        go_simp
        refine hK _ _ ?_
        clear hK K
      apply wpVL_step rfl
      intro K hK
      go_simp
      refine hK _ _ ?_
      clear hK K
      refine wpVL_nil ?_
      try simp only [Act.put]
      clear q0 q1 hfz
      go_wp2_with fail
      go_roundw
      case rel => exact ⟨i + 1, by omega, by go_num, HST.out, HMF.out, HKF.out⟩
      case measure => simp [intOf]; omega
    · obtain rfl : i = bs.length := by omega
      rw [List.take_length, List.drop_length, List.append_nil] at hfb
      have hml : (mvB ⟨sq, ak, true, fr, to, mss⟩ bs).length = bs.length := by unfold mvB; rw [List.length_map]
      have hw0 : (owith (mvB ⟨sq, ak, true, fr, to, mss⟩ bs)).1 = (5, flatB (mvB ⟨sq, ak, true, fr, to, mss⟩ bs)) := by
        unfold owith; rw [hml, if_neg (by omega), if_neg (by omega)]
      have hok := mvB_ok (x := ⟨sq, ak, true, fr, to, mss⟩) (bs := bs)
      have hrb := hfb.rdb
      have hM := Lib.hid hm
      have HW := Lib.hid (withsacks_any _ _ wr hrb hok)
      rw [hw0] at HS HW
      generalize (owith (mvB ⟨sq, ak, true, fr, to, mss⟩ bs)).2 = EW at *
      generalize flatB (mvB ⟨sq, ak, true, fr, to, mss⟩ bs) = FD at *
      generalize mvB ⟨sq, ak, true, fr, to, mss⟩ bs = MB at *
      clear hw0 hok hrb hm hfb hml
      dsimp only at HW
      go_wp2_with fail
      refine HW.out.mono ?_
      rintro e w2 ⟨uw, rfl, huw, hxw⟩
      obtain ⟨aw, nw, cw, rfl⟩ := huw.rd.shape
      go_upto_region 12 with (fail)
      generalize hW2 : World.alloc w2 _ = W2
      have hxW2 : Ext wr W2 := by rw [← hW2]; exact hxw.tr (Ext.new _ _)
      have k7 : W2.heap[w2.heap.size]? = some (.cells #[.int .u8 5, .slice aw nw cw] 98) := by rw [← hW2]; exact heap_alloc_new _ _
      have huw2 : Fr W2 wr.heap.size 5 .u8 (.slice aw nw cw) FD := by rw [← hW2]; exact huw.kept (Ext.new _ _)
      clear hW2 huw hxw
      have hmW := hM.out.tr (Mvs.ofExt hxW2)
      have k5 := hmW.keep K50.out (by omega)
      have k6 := hxW2.block k6
      have hszr := hM.out.size
      have hfa := HFA.out.keep (fun g o hg hh => hmW.keep hh (by have := lt_of_block hh; omega))
      generalize w2.heap.size = B7 at *
      have y0 := cell_blk k5 0
      simp at y0
      have z0 := cell_blk k7 0
      have z1 := cell_blk k7 1
      simp at z0 z1
      have hszW2 := hxW2.size
      have hm5 := hmW
      go_wp2_with (at_builtin; go_must (refine wpList_appO rfl (.tmp 66) (.tmp 68) rfl base _ acc rfl (hfa.keep (Keep.ofExt (Ext.new _ _))) _ rfl 5 _ FD ((huw2.low (by omega)).kept (Ext.new _ _)) (heap_alloc_new _ _) (by omega) (by simp; omega) ?_); intro v3 w3 hf3 hg3 hb3; have hxr := Ext.new W2 (.cells #[.int .u8 5, .slice aw nw cw] 98); have k5r := hxr.block k5; have k6r := hxr.block k6; have k5w := (hg3.block B5 (lt_of_block k5r) (fun e => by have := hb3 _ e.symm; omega)).trans k5r; have k6w := (hg3.block B6 (lt_of_block k6r) (fun e => by have := hb3 _ e.symm; omega)).trans k6r; have hm3 := Mvs.tr (Mvs.ofExt hxr) (Mvs.mono (mvs_of_grown hg3) (fun j _ hj => hb3 j hj)); obtain ⟨a3, c3, he3⟩ := hf3.rdo.shape; rw [show (acc ++ [((5 : Int), FD)]).length = acc.length + 1 from by simp] at he3; subst he3; have y0 := cell_blk k5w 0; have f5 := fz_blk k5w 0; have HF3 := Lib.hid hf3; clear hf3 hg3 k5r k6r; simp at y0)
      have hms : Mvs (fun j => j = B5) w3 (w3.setCell ⟨B5, 0, none⟩ (.slice a3 (acc.length + 1) c3)) := Mvs.set _ _ _ rfl
      have k5z := set_blk k5w 0 (.slice a3 (acc.length + 1) c3)
      simp only [List.setIfInBounds_toArray, List.set_cons_zero] at k5z
      have k6z := hms.keep k6w (by omega)
      have hfz := HF3.out.keep (Keep.ofMvs hms (fun j hj => by omega))
      rotate_left
      exact bodyPost_end (results_none rfl _ _ _) rfl ⟨rfl, by rw [HS.out]; exact ⟨_, k5z, hfz, k6z⟩, (hm5.mono (fun j _ hj => by omega)).tr ((hm3.mono (fun j _ hj => .inr (.inr hj))).tr (hms.mono (fun j _ hj => .inl hj)))⟩
      all_goals exact .tuple #[]
end Go.Proofs.Ytgbbpibcmpeneaa
