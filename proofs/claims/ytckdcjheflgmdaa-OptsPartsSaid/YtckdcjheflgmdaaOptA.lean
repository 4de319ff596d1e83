/-
  Proved here: what the laws' few and awake compute.
-/
import Derived.Test.YtckdcjheflgmdaaOptK
namespace Go.Proofs.Ytckdcjheflgmdaa
set_option maxRecDepth 16000
open Go.ChangeShapes Go.WideShapes Go.ChangeAt Go.RowKit Go.Cul Go.Loose
set_option linter.unusedVariables false
attribute [local go_sem] Loose.Still Loose.Upon Loose.vUpon

def few1 (o : Op1) : Op1 := (o.1, o.2.take 300)
def fewM (os : List Op1) : List Op1 := (os.take 20).map few1
theorem fewM_len (os : List Op1) : (fewM os).length ≤ 20 := by unfold fewM; rw [List.length_map, List.length_take]; omega
theorem fewM_byt {os : List Op1} (h : BytO os) : BytO (fewM os) := by
  intro o ho
  obtain ⟨x, hx, rfl⟩ := List.mem_map.1 ho
  have h1 := h x (List.mem_of_mem_take hx)
  exact ⟨h1.1, h1.2.take _⟩
theorem RdO.take {w : World} {a : Option Addr} {n cap : Nat} {os : List Op1} (h : RdO w (.slice a n cap) os) {m : Nat} (hm : m ≤ os.length) : RdO w (.slice a m cap) (os.take m) := by
  obtain ⟨a', cap', he, h1, h2, h3⟩ := h
  cases he
  have hl : (os.take m).length = m := by rw [List.length_take]; omega
  refine ⟨a, cap, by rw [hl], by omega, h2, ?_⟩
  rcases h3 with h3 | ⟨b, o, rfl, h3⟩
  · left; rw [h3]; simp
  · refine .inr ⟨b, o, rfl, fun i hi => ?_⟩
    rw [hl] at hi
    have hg : (os.take m).getD i (0, []) = os.getD i (0, []) := by simp [List.getD, hi]
    rw [hg]
    exact h3 i (by omega)

theorem wpList_appM {w : World} {ops : Array Oper} {rest : List Oper} {o : Oper} {a : Act} {Q : Exit → Act → World → Prop} (hgd : o.guard = none) (s x : Operand)
    (ho : o.op = .call { callee := .builtin .append, args := #[s, x], argTypes := #[23, 23] }) (base : Nat) (v : Value) (os : List Op1) (hs : a.eval s = v) (hv : MiO w base v os) (u : Value) (rs : List Op1) (hx : a.eval x = u) (hr : SrcO base w u rs)
    (hn : os.length + rs.length ≤ 100000) (hbase : base ≤ w.heap.size)
    (h : ∀ v' w', MiO w' base v' (os ++ rs) → (∀ w0 : World, w0.heap.size ≤ base → Ext w0 w → Ext w0 w') → wpList Try.prog ops Q rest (a.put o.dst v') w') : wpList Try.prog ops Q (o :: rest) a w :=
  wpList_plain hgd fun _ hK => by
    obtain ⟨v', w', hrun, h2, h3⟩ := run_appM w base o.type v os hv u rs hr hn hbase
    unfold Oper.wp execOp
    simp only [ho, resolve, invoke, builtin, Sem.run_bind, Sem.run_pure, Result.andThen_ok, List.map_toArray, List.map_cons, List.map_nil, hs, hx, hrun]
    exact hK _ _ (h v' w' h2 h3)

theorem fr_take {w : World} {base : Nat} {e : TypeId} {k : IntKind} {a : Option Addr} {n cap : Nat} {l : List Int} (h : Fr w base e k (.slice a n cap) l) {q : Nat} (hq : q ≤ l.length) : Fr w base e k (.slice a q cap) (l.take q) := by
  have hl : (l.take q).length = q := by rw [List.length_take]; omega
  rcases h with h | ⟨a', h1, rfl⟩
  · rcases h.2 with ⟨h1, h0⟩ | ⟨g, cap', cur, h1, hb, hh, hn, hm, hsz, htk⟩
    · cases h1
      obtain rfl : q = 0 := by omega
      exact .inr ⟨none, rfl, by simp⟩
    · cases h1
      refine .inl ⟨by simp, .inr ⟨g, cap, cur, by rw [hl], hb, hh, by rw [hl]; omega, hm, hsz, ?_⟩⟩
      rw [hl, List.map_take, ← htk, List.take_take, Nat.mul_one, Nat.mul_one, Nat.min_eq_left hq]
  · cases h1
    obtain rfl : q = 0 := by simpa using hq
    exact .inr ⟨a, rfl, by simp⟩

/-- The first i are cut. -/
def cutTo (os : List Op1) (i : Nat) : List Op1 := (os.take i).map few1 ++ os.drop i
theorem cutTo_len (os : List Op1) (i : Nat) : (cutTo os i).length = os.length := by unfold cutTo; simp only [List.length_append, List.length_map, List.length_take, List.length_drop]; omega
theorem cutTo_at {os : List Op1} {i : Nat} (h : i < os.length) : (cutTo os i).getD i (0, []) = os.getD i (0, []) := by
  unfold cutTo
  have hl : ((os.take i).map few1).length = i := by rw [List.length_map, List.length_take]; omega
  simp only [List.getD, List.getElem?_append_right (show ((os.take i).map few1).length ≤ i by omega), hl, Nat.sub_self, List.getElem?_drop, Nat.add_zero]
theorem cutTo_set {os : List Op1} {i : Nat} (h : i < os.length) : (cutTo os i).set i ((os.getD i (0, [])).1, (os.getD i (0, [])).2.take 300) = cutTo os (i + 1) := by
  unfold cutTo
  have hl : ((os.take i).map few1).length = i := by rw [List.length_map, List.length_take]; omega
  rw [List.set_append_right _ _ (by omega), hl, Nat.sub_self, List.drop_eq_getElem_cons h, List.set_cons_zero, take_succ_getD' (0, []) os i h, List.map_append]
  simp only [List.map_cons, List.map_nil, few1, List.append_assoc, List.singleton_append]

set_option maxHeartbeats 1000000 in
theorem few_any (v : Value) (os : List Op1) (w : World) (hv : RdO w v os) :
    Calls Try.prog 15 #[v] w fun e w' => ∃ u, e = .returned u ∧ MiO w' w.heap.size u (fewM os) ∧ Ext w w' := by
  obtain ⟨a, cap, rfl, hc1, hc2, -⟩ := id hv
  unfold maxLen at hc2
  obtain ⟨m, hm⟩ : ∃ m : Nat, m = min os.length 20 := ⟨_, rfl⟩
  have hml : m ≤ os.length := by omega
  have hm20 : m ≤ 20 := by omega
  have hv1 := hv.take hml
  have hmin : (if (20 : Int) < (os.length : Int) then (20 : Int) else (os.length : Int)) = (m : Int) := by split <;> omega
  have hLl : (os.take m).length = m := by rw [List.length_take]; omega
  have hfew : Hid (fewM os = cutTo (os.take m) m) := by
    unfold Hid fewM cutTo
    rw [List.take_take, Nat.min_self, List.drop_eq_nil_of_le (by rw [hLl]; exact Nat.le_refl _), List.append_nil]
    congr 1
    rw [hm]
    rcases Nat.lt_or_ge 20 os.length with h | h
    · rw [Nat.min_eq_right (by omega)]
    · rw [Nat.min_eq_left h, List.take_of_length_le h, List.take_of_length_le (Nat.le_refl _)]
  generalize os.take m = L at *
  clear hv hm
  go_enter Try.func15, Try.ntmps15
  go_wp2_with (at_builtin; go_must (refine wpList_appM rfl (.tmp 5) (.tmp 10) rfl w.heap.size _ [] rfl (MiO.empty _ _ _) _ L rfl (SrcO.of hv1 (Nat.le_refl _) (Ext.new _ _)) (by simp; omega) (by simp) ?_); intro v1 w1 hmi1 hx1)
  have hx1b := hx1 w (Nat.le_refl _) (Ext.new _ _)
  clear hx1
  have hx1 := hx1b
  clear hx1b
  rw [List.nil_append] at hmi1
  obtain ⟨a1, c1, rfl⟩ := hmi1.rdo.shape
  rw [hLl] at hmi1 ⊢
  have HLl := Lib.hid hLl
  have hclen : ∀ k, (cutTo L k).length = m := fun k => by rw [cutTo_len, hLl]
  have HCl := Lib.hid hclen
  clear hmin hc1 hc2
  have hmi0 : MiO w1 w.heap.size (.slice a1 m c1) (cutTo L 0) := by unfold cutTo; simpa using hmi1
  clear hmi1 hv1 hLl hclen
  go_wp2_with fail
  go_simp
  go_wp2_with fail
  go_loopw [14] (fun i wr => ∃ k : Nat, k ≤ m ∧ i = .int .i64 k ∧ MiO wr w.heap.size (.slice a1 m c1) (cutTo L k) ∧ Ext w wr) (fun i _ => m - (intOf i).toNat)
  case atStart => exact ⟨0, Nat.zero_le _, rfl, hmi0, hx1⟩
  case round =>
    obtain ⟨k, hk, rfl, hmi, hx⟩ := hrel
    have hcl := HCl.out k
    by_cases hlt : k < m
    · have hLk : k < L.length := by rw [HLl.out]; omega
      obtain ⟨g, c', he, hg1, hg2⟩ := hmi.form (by omega)
      rw [hcl] at he
      cases he
      obtain ⟨a', cap', he, h1, h2, h3⟩ := hmi.src
      rw [hcl] at he h1
      cases he
      rcases h3 with h3 | ⟨b', o', he, h3⟩
      · have h0 := congrArg List.length h3; rw [List.length_nil] at h0; omega
      cases he
      obtain ⟨u, e0, e1, hu⟩ := h3 k (by omega)
      clear h3
      rw [cutTo_at hLk] at e0 hu
      have hset := Lib.hid (cutTo_set hLk)
      have hgk := Lib.hid (cutTo_at hLk)
      generalize L.getD k (0, []) = x at *
      obtain ⟨kd, D⟩ := x
      dsimp only at e0 hu hset
      obtain ⟨au, cu, rfl, hcu1, hcu2, -⟩ := hu.rd
      unfold maxLen at hcu2
      obtain ⟨q, hq⟩ : ∃ q : Nat, q = min D.length 300 := ⟨_, rfl⟩
      have hqm : (if (300 : Int) < (D.length : Int) then (300 : Int) else (D.length : Int)) = (q : Int) := by split <;> omega
      have hqc : q ≤ cu := by omega
      have hqt : D.take 300 = D.take q := by
        rcases Nat.lt_or_ge 300 D.length with h | h
        · rw [hq, Nat.min_eq_right (by omega)]
        · rw [hq, Nat.min_eq_left h, List.take_of_length_le h, List.take_of_length_le (Nat.le_refl _)]
      have hcut : DatO w.heap.size wr (.slice au q cu) (D.take 300) := by
        rw [hqt]
        rcases hu with hu | ⟨w0, q1, q2, q3⟩
        · exact .inl (fr_take hu (by omega))
        · exact .inr ⟨w0, q1, q2, q3.take (by omega)⟩
      rw [Nat.zero_add] at e0 e1
      have hkm : (k : Int) < (m : Int) := by omega
      clear hu hqt hq h2 hcl hg2
      go_upto_region 5 with (fail)
      refine wp_region_tail 15 [] lasts_nil (by kernel_rfl) (by kernel_rfl) (by kernel_rfl) ?_
      simp only [List.take, List.drop]
      iterate 15
        apply wpL_none rfl rfl
        · intro w' hw' hn'; have e1 := Ext.cell hw' e1; go_simp; exact rfl
        intro K hK; go_simp; refine hK _ _ ?_; clear hK K
      refine wpL_nil ?_
      intro w' hw' hD'
      obtain ⟨s1, s2, s3⟩ := (hmi.ext hw').stored k (by rw [HCl.out]; exact hlt) (.slice au q cu) (D.take 300) (hcut.ext hw')
      have hsx := s2 w (Nat.le_refl _) (hx.tr hw')
      have e1 := Ext.cell hw' e1
      rw [hgk.out] at s1
      dsimp only at s1
      rw [hset.out] at s1
      iterate 2
        apply wpVL_step rfl
        intro K hK
        go_simp
        refine hK _ _ ?_
        clear hK K
      apply wpVL_step rfl
      intro K hK
      go_simp
      refine hK _ _ ?_
      clear hK K
      refine wpVL_nil ?_
      try simp only [Act.put]
      clear e1 s3 s2 hw' hD' e0 hset hgk hcut hmi
      generalize World.setCell w' _ _ = w7 at *
      go_wp2_with fail
      go_roundw
      case rel => exact ⟨k + 1, by omega, by go_num, s1, hsx⟩
      case measure => simp [intOf]; omega
    · obtain rfl : k = m := by omega
      go_wp2_with fail
      go_ret
      exact ⟨_, rfl, by rw [hfew.out]; exact hmi, hx⟩

theorem oparse_lit (L : List Int) (os : List Op1) (E : Int) (he : opar L = (os, E)) (v : Value) (w : World) (hv : Rd .u8 w v L) (hb : Byt L) (hl : L.length ≤ 140737488351232) :
    Calls Try.prog 10 #[v] w fun e w' => ∃ u, e = .returned (.tuple #[u, .int .i64 E]) ∧ FrO w' w.heap.size u os ∧ Ext w w' := by
  have h := oparse_any v L w hv hb hl
  rw [he] at h
  exact h
theorem oput_lit (os : List Op1) (L : List Int) (E : Int) (he : oput os = (L, E)) (v : Value) (w : World) (hv : RdO w v os) (hb : BytO os) :
    Calls Try.prog 16 #[v] w fun e w' => ∃ u, e = .returned (.tuple #[u, .int .i64 E]) ∧ Own w' w.heap.size 5 .u8 u L ∧ Ext w w' := by
  have h := oput_any v os w hv hb
  rw [he] at h
  exact h
theorem rdo_1 {w : World} {b : Nat} {k : Int} {u : Value} {l : List Int} {t : TypeId} (hb : w.heap[b]? = some (.cells #[.int .u8 k, u] t)) (hu : Rd .u8 w u l) : RdO w (.slice (some ⟨b, 0, none⟩) 1 1) [(k, l)] := by
  refine ⟨_, 1, rfl, by simp, by decide, .inr ⟨b, 0, rfl, fun i hi => ?_⟩⟩
  obtain rfl : i = 0 := by simpa using hi
  refine ⟨u, ?_, ?_, ?_⟩
  · rw [cell_blk hb]; rfl
  · rw [cell_blk hb]; rfl
  · exact hu
theorem byto_1 {k : Int} {l : List Int} (hk : 0 ≤ k ∧ k ≤ 255) (hl : Byt l) : BytO [(k, l)] := fun o ho => by
  obtain rfl : o = (k, l) := by simpa using ho
  exact ⟨hk, hl⟩

set_option maxHeartbeats 1000000 in
theorem awake5_any (w : World) : Calls Try.prog 13 #[] w fun e w' => e = .returned (.bool true) ∧ Ext w w' := by
  go_enter Try.func13, Try.ntmps13
  go_wp2_with fail
  refine (oparse_lit [2, 4, 5, 180, 1, 1, 4, 2] [(2, [5, 180]), (4, [])] 0 (by decide +kernel) _ _ (rd_new .u8 _ _ _ [2, 4, 5, 180, 1, 1, 4, 2] (by simp) rfl rfl rfl (by decide)) (byt_of rfl) (by decide)).mono ?_
  rintro e w1 ⟨v1, rfl, hf1, hx1⟩
  have hx1 : Ext w w1 := Ext.tr (Ext.new _ _) hx1
  have ho1 := hf1.rdo
  obtain ⟨a1, c1, rfl⟩ := ho1.shape
  clear hf1
  have hb1 : BytO [(2, [5, 180]), (4, [])] := by
    intro o ho
    simp only [List.mem_cons, List.not_mem_nil, or_false] at ho
    rcases ho with rfl | rfl
    · exact ⟨by decide, byt_of rfl⟩
    · exact ⟨by decide, byt_of rfl⟩
  go_wp2_with fail
  refine (omss_any _ _ _ ho1 hb1).mono ?_
  rw [show omss [(2, [5, 180]), (4, [])] = 1460 from by decide +kernel, show ([(2, [5, 180]), (4, [])] : List Op1).any (kl 2 (fun n => decide (n = 2))) = true from by decide +kernel]
  rintro e w2 ⟨rfl, hx2⟩
  have hx02 := hx1.tr hx2
  go_wp2_with fail
  refine (oparse_lit [2, 4, 5] [] 4 (by decide +kernel) _ _ (rd_new .u8 _ _ _ [2, 4, 5] (by simp) rfl rfl rfl (by decide)) (byt_of rfl) (by decide)).mono ?_
  rintro e w3 ⟨v3, rfl, hf3, hx3⟩
  obtain ⟨a3, c3, rfl⟩ := hf3.rdo.shape
  clear hf3
  go_wp2_with fail
  refine (oparse_lit [0, 2] [] 5 (by decide +kernel) _ _ (rd_new .u8 _ _ _ [0, 2] (by simp) rfl rfl rfl (by decide)) (byt_of rfl) (by decide)).mono ?_
  rintro e w4 ⟨v4, rfl, hf4, hx4⟩
  obtain ⟨a4, c4, rfl⟩ := hf4.rdo.shape
  clear hf4
  have hx14 : Ext w2 w4 := Ext.tr (Ext.tr (Ext.new _ _) hx3) (Ext.tr (Ext.new _ _) hx4)
  clear hx3 hx4
  go_wp2_with fail
  refine (withscale_any 7 7 _ (by decide) (by decide)).mono ?_
  rintro e w5 ⟨u5, rfl, hu5, hx5⟩
  obtain ⟨a5, n5, c5, rfl⟩ := hu5.rd.shape
  go_wp2_with fail
  refine (oput_lit [(3, [7])] [3, 3, 7, 0] 0 (by decide +kernel) _ _ (rdo_1 (heap_alloc_new _ _) (hu5.rd.ext (Ext.new _ _))) (byto_1 (by decide) (byt_of rfl))).mono ?_
  rintro e w6 ⟨u6, rfl, hu6, hx6⟩
  obtain ⟨a6, n6, c6, rfl⟩ := hu6.rd.shape
  have hx26 := hx14.tr (hx5.tr (Ext.tr (Ext.new _ _) hx6))
  clear hx6 hx5 hu5 hx14
  go_wp2_with fail
  refine (oparse_lit [5, 10, 0, 0, 0, 1, 0, 0, 0, 5] [(5, [0, 0, 0, 1, 0, 0, 0, 5])] 0 (by decide +kernel) _ _ (rd_new .u8 _ _ _ [5, 10, 0, 0, 0, 1, 0, 0, 0, 5] (by simp) rfl rfl rfl (by decide)) (byt_of rfl) (by decide)).mono ?_
  rintro e w7 ⟨v7, rfl, hf7, hx7⟩
  obtain ⟨a7, c7, hve⟩ := hf7.rdo.shape
  subst hve
  go_wp2_with fail
  refine (osacks_any _ _ _ hf7.rdo (byto_1 (by decide) (byt_of rfl))).mono ?_
  rw [show osacks [(5, [0, 0, 0, 1, 0, 0, 0, 5])] = [(1, 5)] from by decide +kernel]
  rintro e w8 ⟨v8, rfl, hf8, hx8⟩
  obtain ⟨a8, c8, rfl, h81, h82, h83⟩ := hf8.rdb
  rcases h83 with h83 | ⟨b8, o8, rfl, h83⟩
  · cases h83
  obtain ⟨y0, y1⟩ := h83 0 (by decide)
  simp at y0 y1
  clear h83 hf7 hf8
  have hx68 : Ext w6 w8 := Ext.tr (Ext.new _ _) (Ext.tr hx7 hx8)
  clear hx7 hx8
  have ho8 := ho1.ext (hx2.tr (hx26.tr hx68))
  have hu8 := hu6.kept hx68
  have hx08 := hx02.tr (hx26.tr hx68)
  clear hx1 hx2 hx02 hx26 hx68 ho1 hu6
  go_wp2_with fail
  refine (osackok_any _ _ _ ho8).mono ?_
  rw [show ([(2, [5, 180]), (4, [])] : List Op1).any (kl 4 (fun n => decide (n = 0))) = true from by decide +kernel]
  rintro e w9 ⟨rfl, hx9⟩
  have y0 := hx9.cell y0
  have y1 := hx9.cell y1
  go_wp2_with fail
  refine (beq_any _ _ [3, 3, 7, 0] [3, 3, 7, 0] _ ((hu8.rd.ext hx9).ext (Ext.new _ _)) (rd_new .u8 _ _ _ [3, 3, 7, 0] (by simp) rfl rfl rfl (by decide)) (byt_of rfl) (byt_of rfl)).mono ?_
  rw [show decide (([3, 3, 7, 0] : List Int) = [3, 3, 7, 0]) = true from rfl]
  rintro e w10 ⟨rfl, hx10⟩
  have y0 := (Ext.tr (Ext.new _ _) hx10).cell y0
  have y1 := (Ext.tr (Ext.new _ _) hx10).cell y1
  go_wp2_with fail
  go_ret
  exact ⟨rfl, hx08.tr (hx9.tr (Ext.tr (Ext.new _ _) hx10))⟩
end Go.Proofs.Ytckdcjheflgmdaa
