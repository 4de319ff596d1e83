/-
  Proved here: the law SpliceStream returns true. (first part; CUT BY tools/cutstr.py)
-/
import Derived.Test.YtgbbpibcmpeneaaStrL
import Derived.Deep.Cut
import Derived.Deep.CutRange
namespace Go.Proofs.Ytgbbpibcmpeneaa.spliceStream
set_option maxRecDepth 200000
open Go.ChangeShapes Go.WideShapes Go.ChangeAt Go.RowKit Go.Cul Go.Loose
set_option linter.unusedVariables false
attribute [local go_sem] Loose.Still Loose.Upon Loose.vUpon

theorem new2a (w : World) (o1 o2 : Obj) : ((w.alloc o1).alloc o2).heap[w.heap.size]? = some o1 := by simp only [heap_alloc_at, World.size_alloc]; simp
theorem new2b (w : World) (o1 o2 : Obj) : ((w.alloc o1).alloc o2).heap[w.heap.size + 1]? = some o2 := by simp only [heap_alloc_at, World.size_alloc]; simp
theorem new3a (w : World) (o1 o2 o3 : Obj) : (((w.alloc o1).alloc o2).alloc o3).heap[w.heap.size]? = some o1 := by simp only [heap_alloc_at, World.size_alloc]; repeat (first | rfl | rw [if_pos (by first | trivial | omega)] | rw [if_neg (by omega)])
theorem new3b (w : World) (o1 o2 o3 : Obj) : (((w.alloc o1).alloc o2).alloc o3).heap[w.heap.size + 1]? = some o2 := by simp only [heap_alloc_at, World.size_alloc]; repeat (first | rfl | rw [if_pos (by first | trivial | omega)] | rw [if_neg (by omega)])
theorem new3c (w : World) (o1 o2 o3 : Obj) : (((w.alloc o1).alloc o2).alloc o3).heap[w.heap.size + 1 + 1]? = some o3 := by simp only [heap_alloc_at, World.size_alloc]; repeat (first | rfl | rw [if_pos (by first | trivial | omega)] | rw [if_neg (by omega)])

/-- A store of one value into a known block, in a chain: the world behind it has a name. -/
theorem wpI_put_cell {P : Program} {ops : Array Oper} {J : World → Prop} {z : Nat} {Q : Exit → Act → World → Prop} {E : List PanicEntry → World → Prop} (ty : TypeId) {dst : Option Tmp} {x y : Operand} {tt : TypeId} {pos : String} {after : Array Edge} {t : Nat} {ts : List Nat} {a : Act} {w : World} (ho : ops[t]? = some { dst := dst, op := .store ty x y, type := tt, pos := pos, after := after, guard := none })
    (b i : Nat) (c : Array Value) (te : TypeId) (v : Value) (hx : a.eval x = .pointer (some ⟨b, i, none⟩)) (hy : a.eval y = v) (hk : w.heap[b]? = some (.cells c te))
    (hi : (P.info? ty).map (·.size) = some 1) (hs : i < c.size) (h1 : v.oneCell' = true) (hv : v.cells = #[v])
    (h : ∀ W : World, W.heap[b]? = some (.cells (c.setIfInBounds i v) te) → Mvs (fun k => k = b) w W → ∀ K : Act → World → Prop, (∀ a w, (t ≠ z → J w) → Order.wpI P ops J z Q E ts a w → K a w) → K (a.put dst undef) W) : Order.wpI P ops J z Q E (t :: ts) a w :=
  Order.wpI_set_cell ty ho b i c te v hx hy hk hi hs h1 hv fun K hK => h _ (set_blk hk i v) (Mvs.set _ _ _ rfl) K hK

theorem kfacts (k : Bool) : kN k < 2 ∧ kN (!k) < 2 ∧ ((1 : Int) - ((kN k : Nat) : Int) = ((kN (!k) : Nat) : Int)) ∧ ((((kN k : Nat) : Int) == 1) = k) := by cases k <;> decide

abbrev pcSh : Sh := .rows 6 12 (.agg 6 (.more 1 .bool (.more 1 (.int .u16) (.more 1 (.int .u16) (.more 1 (.int .u16) (.more 1 (.int .u16) (.more 1 (.int .u8) .done)))))))
abbrev pcC (sv : Bool) (fr lo ak wn od : Int) : Array Value := #[.bool sv, .int .u16 fr, .int .u16 lo, .int .u16 ak, .int .u16 wn, .int .u8 od]
theorem open_pieces {w : World} {v : Value} (h : Reads w pcSh [v]) : ∃ a m cap, v = .slice a m cap ∧ m ≤ cap ∧ cap ≤ maxLen ∧ (m = 0 ∨ ∃ b o, a = some ⟨b, o, none⟩ ∧ ∀ i, i < m → ∃ sv fr lo ak wn od, w.rangeAt b (o + i * 6) (pcC sv fr lo ak wn od).toList ∧ (0 ≤ fr ∧ fr ≤ 65535) ∧ (0 ≤ lo ∧ lo ≤ 65535) ∧ (0 ≤ ak ∧ ak ≤ 65535) ∧ (0 ≤ wn ∧ wn ≤ 65535) ∧ (0 ≤ od ∧ od ≤ 255)) := by
  obtain ⟨v', a, m, cap, hv, rfl, hmc, hc, hb, hel⟩ := h
  obtain rfl : v = .slice a m cap := by simpa using hv
  refine ⟨a, m, cap, rfl, hmc, hc, ?_⟩
  rcases hel with h0 | ⟨b, o, rfl, hel⟩
  · exact .inl h0
  refine .inr ⟨b, o, rfl, fun i hi => ?_⟩
  obtain ⟨es, hl, hcell, hr⟩ := hel i hi
  simp only [Reads] at hr
  obtain ⟨_, _, rfl, ⟨sv, rfl⟩, _, _, rfl, ⟨fr, rfl, w1⟩, _, _, rfl, ⟨lo, rfl, w2⟩, _, _, rfl, ⟨ak, rfl, w3⟩, _, _, rfl, ⟨wn, rfl, w4⟩, _, _, rfl, ⟨od, rfl, w5⟩, rfl⟩ := hr
  refine ⟨sv, fr, lo, ak, wn, od, fun j x hx => ?_, wf_u16 w1, wf_u16 w2, wf_u16 w3, wf_u16 w4, wf_u8 w5⟩
  have hj : j < 6 := (List.getElem?_eq_some_iff.1 hx).1
  rw [hcell j hj, ← hx]
  rfl
theorem open_streams {w : World} {cs : Array Value} (h : Reads w (.arr 2 1 (.ints .u8 1)) cs.toList) : ∃ v0 v1 l0 l1, cs = #[v0, v1] ∧ Rd .u8 w v0 l0 ∧ Rd .u8 w v1 l1 ∧ Byt l0 ∧ Byt l1 := by
  obtain ⟨es, hl, hcs, he⟩ := h
  match es, hl with
  | [e0, e1], _ =>
    obtain ⟨v0, l0, rfl, r0, b0, -⟩ := he e0 (by simp)
    obtain ⟨v1, l1, rfl, r1, b1, -⟩ := he e1 (by simp)
    exact ⟨v0, v1, l0, l1, by rw [← Array.toList_inj]; simpa using hcs, r0, r1, byt_of_wf b0, byt_of_wf b1⟩
/-- A stream's beginning. -/
theorem rd_clip {w : World} {v : Value} {l : List Int} (h : Rd .u8 w v l) : ∃ a m cap, v = .slice a l.length cap ∧ m = min l.length 300 ∧ (if (300 : Int) < (l.length : Int) then (300 : Int) else (l.length : Int)) = (m : Int) ∧ l.length ≤ cap ∧ m ≤ l.length ∧ cap ≤ maxLen ∧ Rd .u8 w (.slice a m cap) (l.take 300) := by
  obtain ⟨a, cap, rfl, h1, h2, h3⟩ := id h
  refine ⟨a, min l.length 300, cap, rfl, rfl, by split <;> omega, h1, by omega, h2, ?_⟩
  have := h.take (m := min l.length 300) (by omega)
  rwa [show l.take (min l.length 300) = l.take 300 from by rcases Nat.le_total l.length 300 with q | q; (· rw [Nat.min_eq_left q, List.take_of_length_le (Nat.le_refl _), List.take_of_length_le q]); (· rw [Nat.min_eq_right q])] at this

theorem piece_from (x : Int) (n : Nat) (hx : 0 ≤ x) (hn : n ≤ 300) : ∃ (L : Int) (fr : Nat), wrap64 ((n : Int) + 1) = L ∧ ¬ L = 0 ∧ (L == 0) = false ∧ x.tmod L = (fr : Int) ∧ fr ≤ n := by
  refine ⟨(n : Int) + 1, (x % ((n : Int) + 1)).toNat, by unfold wrap64; omega, by omega, by simp; omega, ?_, ?_⟩
  · rw [Int.tmod_eq_emod_of_nonneg hx, Int.toNat_of_nonneg (Int.emod_nonneg _ (by omega))]
  · have h1 := Int.emod_lt_of_pos x (by omega : (0 : Int) < (n : Int) + 1)
    omega
theorem piece_to (y : Int) (fr n : Nat) (hy : 0 ≤ y) (hf : fr ≤ n) (hn : n ≤ 300) : ∃ lo X te : Nat, y.tmod 60 = (lo : Int) ∧ wrap64 ((fr : Int) + (lo : Int)) = (X : Int) ∧ (if X < n then (X : Int) else (n : Int)) = (te : Int) ∧ fr ≤ te ∧ te ≤ n := by
  have h1 : y.tmod 60 = y % 60 := Int.tmod_eq_emod_of_nonneg hy
  refine ⟨(y % 60).toNat, fr + (y % 60).toNat, min (fr + (y % 60).toNat) n, by rw [h1]; omega, by unfold wrap64; omega, by split <;> omega, by omega, by omega⟩
theorem piece_ak (y : Int) (h : Nat) (hy : 0 ≤ y) : ∃ a ak : Nat, y.tmod 400 = (a : Int) ∧ (if h < a then (h : Int) else (a : Int)) = (ak : Int) ∧ ak ≤ h := by
  have h1 : y.tmod 400 = y % 400 := Int.tmod_eq_emod_of_nonneg hy
  exact ⟨(y % 400).toNat, min h (y % 400).toNat, by rw [h1]; omega, by split <;> omega, by omega⟩
theorem pair_cell {w : World} {b : Nat} {f : Bool → Value} {t : TypeId} (h : w.heap[b]? = some (.cells #[f false, f true] t)) (k : Bool) : w.cell? ⟨b, kN k, none⟩ = some (f k) := by
  rw [cell_blk h]; cases k <;> rfl
theorem pair_put (f : Bool → Value) (k : Bool) (v : Value) : (#[f false, f true] : Array Value).setIfInBounds (kN k) v = #[upd f k v false, upd f k v true] := by cases k <;> rfl

set_option maxHeartbeats 20000000
set_option maxRecDepth 200000
def partA : (G : Prop) ×' ((Unit → G) → ∀ (w : World) (cs0 : Array Value) (g0 : Reads w legSh cs0.toList) (cs1 : Array Value) (g1 : Reads w (.arr 2 1 (.ints .u8 1)) cs1.toList) (v : Value) (g2 : Reads w pcSh [v]), Calls Try.prog 3 #[.agg cs0, .agg cs1, v] w fun e w' => e = .returned (.bool true) ∧ Ext w w') := by
  apply PSigma.mk
  case snd =>
    intro hG
    intro w cs0 g0 cs1 g1 v g2
    obtain ⟨l, rfl, hl⟩ := open_legs g0
    obtain ⟨s0, s1, l0, l1, rfl, r0, r1, by0, by1⟩ := open_streams g1
    obtain ⟨ax, n, cap, rfl, hnc, hcm, hel⟩ := open_pieces g2
    clear g0 g1 g2
    obtain ⟨a0, m0, c0, rfl, hm0, hq0, hc0, hml0, hcx0, R0⟩ := rd_clip r0
    obtain ⟨a1, m1, c1, rfl, hm1, hq1, hc1, hml1, hcx1, R1⟩ := rd_clip r1
    have HEL := Lib.hid hel
    have HN := Lib.hid (And.intro hnc hcm)
    have HC0 := Lib.hid (And.intro hm0 (And.intro hc0 (And.intro hml0 hcx0)))
    have HC1 := Lib.hid (And.intro hm1 (And.intro hc1 (And.intro hml1 hcx1)))
    have HR0 := Lib.hid R0
    have HR1 := Lib.hid R1
    have BY0 := Lib.hid by0
    have BY1 := Lib.hid by1
    have hj := Lib.hid (fun (W : World) => joined_any l W hl)
    have HL := Lib.hid hl
    have hmc0 : m0 ≤ c0 := by omega
    have hmc1 : m1 ≤ c1 := by omega
    have hm30 : m0 ≤ 300 := by omega
    have hm31 : m1 ≤ 300 := by omega
    have hlm0 : (l0.take 300).length = m0 := by rw [List.length_take]; omega
    have hlm1 : (l1.take 300).length = m1 := by rw [List.length_take]; omega
    clear hel hnc hcm hl hm0 hm1 hcx0 hcx1 R0 R1 by0 by1 r0 r1
    go_enter Try.func3, Try.ntmps3
    go_upto_region 1 with (fail)
    generalize hW : (w.alloc _).alloc _ = W
    have hxW : Ext w W := by rw [← hW]; exact (Ext.new _ _).al _
    have kLg : W.heap[w.heap.size]? = some (.cells l.cells 30) := by rw [← hW]; exact new2a w _ _
    have kS : W.heap[w.heap.size + 1]? = some (.cells #[.slice a0 l0.length c0, .slice a1 l1.length c1] 32) := by rw [← hW]; exact new2b w _ _
    clear hW
    obtain ⟨bS, hbS⟩ : ∃ b, w.heap.size + 1 = b := ⟨_, rfl⟩
    rw [hbS] at kS ⊢
    have hwbS : w.heap.size ≤ bS := by omega
    go_wp2_with (refine wpList_load_bigG 30 w.heap.size _ _ _ rfl kLg rfl Try.underlying30 rfl (by kernel_rfl) ?_)
    refine (hj.out W).mono ?_
    clear hj
    rintro e v1 ⟨hx1, h | h⟩
    · obtain ⟨-, rfl⟩ := h
      have hx := Lib.hid (hxW.tr hx1)
      clear kLg kS hxW hx1
      go_wp2_with fail
      refine (wakes26_any v1).mono ?_
      rintro e v2 ⟨rfl, hx2⟩
      go_wp2_with fail
      go_ret
      exact ⟨rfl, hx.out.tr hx2⟩
    obtain ⟨herr, bb, rfl, hwbb, hB⟩ := h
    have hbbS : bS < bb := by have := lt_of_block kS; omega
    have hwb : w.heap.size ≤ bb := by omega
    have hok := Lib.hid (Lg.sp_ok HL.out herr)
    have HERR := Lib.hid herr
    have hn := (err_sc HL.out herr).2.2
    have kLg := hx1.block kLg
    have kS := hx1.block kS
    have hx := hxW.tr hx1
    clear hx1 hxW herr hwbb
    have hwn : IntKind.u32.wrap l.n = l.n := by rw [IntKind.wrap_u32]; omega
    have p1 : IntKind.u32.wrap (l.c.irs + 1) = (l.c.irs + 1) % 4294967296 := rfl
    have p2 : IntKind.u32.wrap ((l.c.irs + 1) % 4294967296 + l.n) = (l.c.irs + 1 + l.n) % 4294967296 := by rw [IntKind.wrap_u32]; omega
    have p3 : IntKind.u32.wrap (l.s.irs + 1) = (l.s.irs + 1) % 4294967296 := rfl
    clear hn
    go_wp2_with fail
    refine (shifts_any bb l.sp v1 hB hok.out).mono ?_
    rintro e v2 ⟨rfl, hx2⟩
    have kLg := hx2.block kLg
    have kS := hx2.block kS
    have hB := hx2.block hB
    have hx := hx.tr hx2
    clear hx2
    have hbx : ∀ (y : Shf), y.cells.all (·.oneCell') = true := fun y => by simp [Value.oneCell']
    have HBX := Lib.hid hbx
    clear hbx
    generalize hT : l.sp.c.ov = T at *
    generalize hK : l.sp.s.ov = K at *
    have HT := Lib.hid hT
    have HK := Lib.hid hK
    clear hT hK
    go_upto_region 5 with (first | (refine wpList_put_row 40 v2.heap.size _ T.cells _ rfl rfl (new2a _ _ _) (by kernel_rfl) rfl (HBX.out _) ?_; intro V3 k9 m3) | (refine wpList_put_row 40 (v2.heap.size + 1) _ K.cells _ rfl rfl (m3.keep (new2b _ _ _) (by omega)) (by kernel_rfl) rfl (HBX.out _) ?_; intro V4 k10 m4))
    have hlN := lt_of_block kLg
    have hlB := lt_of_block hB
    have k9 := m4.keep k9 (by omega)
    have hxx := (Ext.new v2 (.cells (Shf.cells ⟨0, 0, false, 0, 0, 0⟩) 40)).al (.cells (Shf.cells ⟨0, 0, false, 0, 0, 0⟩) 40)
    have hx4 : Ext v2 V4 := m4.ext (m3.ext hxx (fun k hk => by omega)) (fun k hk => by omega)
    have kLg := hx4.block kLg
    have kS := hx4.block kS
    have hB := hx4.block hB
    have hx := hx.tr hx4
    generalize v2.heap.size = b9 at *
    clear m3 m4 hxx hx4
    obtain ⟨v4, rfl⟩ : ∃ v4 : World, v4 = V4 := ⟨_, rfl⟩
    have n1 := cell_blk kLg 1
    have n7 := cell_blk kLg 7
    have n30 := cell_blk kLg 30
    simp at n1 n7 n30
    go_upto_region 6 with (refine wpList_store_big 43 #[.int .u32 ((l.c.irs + 1 + l.n) % 4294967296), .int .u32 ((l.s.irs + 1) % 4294967296)] rfl rfl (by kernel_rfl) rfl (by simp [Value.oneCell']) ?_)
    generalize hV : v4.alloc _ = V5
    have hxV : Ext v4 V5 := by rw [← hV]; exact Ext.new _ _
    have k11 : V5.heap[v4.heap.size]? = some (.cells #[.int .u32 ((l.c.irs + 1 + l.n) % 4294967296), .int .u32 ((l.s.irs + 1) % 4294967296)] 43) := by rw [← hV]; exact heap_alloc_new v4 _
    clear hV
    have hlS := lt_of_block kS
    have hl10 := lt_of_block k10
    have k9 := hxV.block k9
    have k10 := hxV.block k10
    have kS := hxV.block kS
    have hB := hxV.block hB
    have hx := hx.tr hxV
    generalize v4.heap.size = b11 at *
    clear hxV p1 p2 p3 n1 n7 n30 hwn
    go_upto_region 7 with (first | (refine wpList_put_row 44 V5.heap.size _ #[.int .i64 0, .int .i64 0] _ rfl rfl (new3a _ _ _ _) (by kernel_rfl) rfl (by simp [Value.oneCell']) ?_; intro Va k12 ma) | (refine wpList_put_row 44 (V5.heap.size + 1) _ #[.int .i64 0, .int .i64 0] _ rfl rfl (ma.keep (new3b _ _ _ _) (by omega)) (by kernel_rfl) rfl (by simp [Value.oneCell']) ?_; intro Vb k13 mb) | (refine wpList_put_row 45 (V5.heap.size + 1 + 1) _ #[.bool false, .bool false] _ rfl rfl (mb.keep (ma.keep (new3c _ _ _ _) (by omega)) (by omega)) (by kernel_rfl) rfl (by simp [Value.oneCell']) ?_; intro Vc k14 mc))
    have hl11 := lt_of_block k11
    have k12 := mc.keep (mb.keep k12 (by omega)) (by omega)
    have k13 := mc.keep k13 (by omega)
    have hxx := ((Ext.new V5 (.cells #[.int .i64 0, .int .i64 0] 44)).al (.cells #[.int .i64 0, .int .i64 0] 44)).al (.cells #[.bool false, .bool false] 45)
    have hx6 : Ext V5 Vc := mc.ext (mb.ext (ma.ext hxx (fun k hk => by omega)) (fun k hk => by omega)) (fun k hk => by omega)
    have k9 := hx6.block k9
    have k10 := hx6.block k10
    have k11 := hx6.block k11
    have kS := hx6.block kS
    have hB := hx6.block hB
    have hx := hx.tr hx6
    generalize V5.heap.size = b12 at *
    clear ma mb mc hxx hx6
    obtain ⟨v6, rfl⟩ : ∃ v : World, v = Vc := ⟨_, rfl⟩
    have HK9 := Lib.hid k9
    have HK10 := Lib.hid k10
    have HK11 := Lib.hid k11
    have HK12 := Lib.hid k12
    have HK13 := Lib.hid k13
    have HK14 := Lib.hid k14
    have HB := Lib.hid hB
    have HX := Lib.hid hx
    have HSS := Lib.hid kS
    clear k9 k10 k11 k12 k13 k14 hB hx kLg kS
    go_wp2_with fail
    go_loopw [15] (fun iv wr => ∃ i : Nat, i ≤ 2 ∧ iv = .int .i64 i ∧ wr.heap[bS]? = some (.cells #[if 0 < i then .slice a0 m0 c0 else .slice a0 l0.length c0, if 1 < i then .slice a1 m1 c1 else .slice a1 l1.length c1] 32) ∧ Mvs (fun j => j = bS) v6 wr) (fun iv _ => 2 - (intOf iv).toNat)
    case atStart => exact ⟨0, by omega, rfl, HSS.out, Mvs.refl _ _⟩
    case round =>
      obtain ⟨i, hi, rfl, kS, hm⟩ := hrel
      rcases (by omega : i = 0 ∨ i = 1 ∨ i = 2) with rfl | rfl | rfl
      · simp only [Nat.lt_irrefl, if_false, Nat.not_lt_zero] at kS
        have HMM := Lib.hid hm
        have c0' := cell_blk kS 0
        simp at c0'
        clear hm
        go_upto_region 10 with (fail)
        refine Order.wp_region_order [0, 1, 2, 3, 4, 5, 6, 7, 8, 9, 10] [11] 11 (fun w' => Ext wr w') (fun _ _ => False) (fun _ _ _ _ h => h.elim) (fun _ h => h) (by kernel_rfl) (by kernel_rfl) (by kernel_rfl) rfl (by kernel_rfl) ?_
        intro wd hwd
        have hwd : Ext wr wd := hwd
        iterate 3
          apply Order.wpH_some rfl rfl
          · intro w' hw'; go_simp; exact rfl
          intro K hK; go_simp; refine hK _ ?_; clear hK K
        iterate 1
          apply Order.wpH_some rfl rfl
          · intro w' hw'; have c0' := Ext.cell hw' c0'; go_simp; exact rfl
          intro K hK; go_simp; refine hK _ ?_; clear hK K
        iterate 2
          apply Order.wpH_some rfl rfl
          · intro w' hw'; go_simp; exact rfl
          intro K hK; go_simp; refine hK _ ?_; clear hK K
        iterate 1
          apply Order.wpH_some rfl rfl
          · intro w' hw'; have c0' := Ext.cell hw' c0'; go_simp; exact rfl
          intro K hK; go_simp; refine hK _ ?_; clear hK K
        iterate 4
          apply Order.wpH_some rfl rfl
          · intro w' hw'; go_simp; exact rfl
          intro K hK; go_simp; refine hK _ ?_; clear hK K
        refine Order.wpH_nil ?_
        refine wpI_put_cell 31 rfl bS 0 _ _ (.slice a0 m0 c0) rfl rfl (hwd.block kS) (by kernel_rfl) (by show 0 < 2; decide) rfl rfl ?_
        intro W2 k2 m2 K1 hK1
        refine hK1 _ _ (fun h => absurd rfl h) ?_
        clear hK1 K1
        refine Order.wpI_nil ?_
        have hm2 := Lib.hid ((HMM.out.tr (Mvs.ofExt hwd)).tr m2)
        clear m2 hwd c0'
        simp only [Act.put]
        go_wp2_with fail
        go_roundw
        case rel => exact ⟨1, by omega, by go_num, k2, hm2.out⟩
        case measure => decide
      · simp only [Nat.lt_irrefl, if_false, Nat.zero_lt_one, if_true] at kS
        have HMM := Lib.hid hm
        have c1' := cell_blk kS 1
        simp at c1'
        clear hm
        go_upto_region 10 with (fail)
        refine Order.wp_region_order [0, 1, 2, 3, 4, 5, 6, 7, 8, 9, 10] [11] 11 (fun w' => Ext wr w') (fun _ _ => False) (fun _ _ _ _ h => h.elim) (fun _ h => h) (by kernel_rfl) (by kernel_rfl) (by kernel_rfl) rfl (by kernel_rfl) ?_
        intro wd hwd
        have hwd : Ext wr wd := hwd
        iterate 3
          apply Order.wpH_some rfl rfl
          · intro w' hw'; go_simp; exact rfl
          intro K hK; go_simp; refine hK _ ?_; clear hK K
        iterate 1
          apply Order.wpH_some rfl rfl
          · intro w' hw'; have c1' := Ext.cell hw' c1'; go_simp; exact rfl
          intro K hK; go_simp; refine hK _ ?_; clear hK K
        iterate 2
          apply Order.wpH_some rfl rfl
          · intro w' hw'; go_simp; exact rfl
          intro K hK; go_simp; refine hK _ ?_; clear hK K
        iterate 1
          apply Order.wpH_some rfl rfl
          · intro w' hw'; have c1' := Ext.cell hw' c1'; go_simp; exact rfl
          intro K hK; go_simp; refine hK _ ?_; clear hK K
        iterate 4
          apply Order.wpH_some rfl rfl
          · intro w' hw'; go_simp; exact rfl
          intro K hK; go_simp; refine hK _ ?_; clear hK K
        refine Order.wpH_nil ?_
        refine wpI_put_cell 31 rfl bS 1 _ _ (.slice a1 m1 c1) rfl rfl (hwd.block kS) (by kernel_rfl) (by show 1 < 2; decide) rfl rfl ?_
        intro W2 k2 m2 K1 hK1
        refine hK1 _ _ (fun h => absurd rfl h) ?_
        clear hK1 K1
        refine Order.wpI_nil ?_
        have hm2 := Lib.hid ((HMM.out.tr (Mvs.ofExt hwd)).tr m2)
        clear m2 hwd c1'
        simp only [Act.put]
        go_wp2_with fail
        go_roundw
        case rel => exact ⟨2, by omega, by go_num, k2, hm2.out⟩
        case measure => decide
      · simp only [Nat.zero_lt_succ, if_true, Nat.one_lt_two] at kS
        have HMM := Lib.hid hm
        clear hm
        have HX7 := Lib.hid (HMM.out.ext HX.out (fun k hk => by omega))
        have k9 := HMM.out.keep HK9.out (by omega)
        have k10 := HMM.out.keep HK10.out (by omega)
        have k11 := HMM.out.keep HK11.out (by omega)
        have k12 := HMM.out.keep HK12.out (by omega)
        have k13 := HMM.out.keep HK13.out (by omega)
        have k14 := HMM.out.keep HK14.out (by omega)
        have hB := HMM.out.keep HB.out (by omega)
        have e0 := cell_blk kS 0
        have e1 := cell_blk kS 1
        simp at e0 e1
        obtain ⟨M0, hM0⟩ : ∃ M0 : Int, M0 = (m0 : Int) + 1 := ⟨_, rfl⟩
        obtain ⟨M1, hM1⟩ : ∃ M1 : Int, M1 = (m1 : Int) + 1 := ⟨_, rfl⟩
        have hw0 : wrap64 ((m0 : Int) + 1) = M0 := by unfold wrap64; omega
        have hw1 : wrap64 ((m1 : Int) + 1) = M1 := by unfold wrap64; omega
        have HM := Lib.hid (And.intro hM0 hM1)
        have HMB := Lib.hid (And.intro hm30 (And.intro hm31 (And.intro hmc0 (And.intro hmc1 (And.intro hlm0 hlm1)))))
        clear hM0 hM1 hm30 hm31 hlm0 hlm1 hml0 hml1 hmc0 hmc1 hc0 hc1
        clear HMM HK9 HK10 HK11 HK12 HK13 HK14 HB HX HSS hq0 hq1
        go_upto_region 12 with (fail)
        generalize hV : wr.alloc _ = V8
        have hxV : Ext wr V8 := by rw [← hV]; exact Ext.new _ _
        have k16 : V8.heap[wr.heap.size]? = some (.cells #[.int .i64 M0, .int .i64 M1] 44) := by rw [← hV]; exact heap_alloc_new wr _
        clear hV
        have hl12 := lt_of_block k14
        have HK9 := Lib.hid (hxV.block k9)
        have HK10 := Lib.hid (hxV.block k10)
        have HK11 := Lib.hid (hxV.block k11)
        have HK16 := Lib.hid k16
        have HKS := Lib.hid (hxV.block kS)
        have k12 := hxV.block k12
        have k13 := hxV.block k13
        have k14 := hxV.block k14
        have hB := hxV.block hB
        have HX8 := Lib.hid (HX7.out.tr hxV)
        generalize wr.heap.size = b16 at *
        clear hxV k9 k10 k11 k16 kS e0 e1 hw0 hw1 HX7
        obtain ⟨v8, rfl⟩ : ∃ v : World, v = V8 := ⟨_, rfl⟩
        obtain ⟨S, hS⟩ : ∃ S : Bool → List Int, S = fun k => if k then l1.take 300 else l0.take 300 := ⟨_, rfl⟩
        obtain ⟨aS, haS⟩ : ∃ S : Bool → Option Addr, S = fun k => if k then a1 else a0 := ⟨_, rfl⟩
        obtain ⟨cS, hcS⟩ : ∃ S : Bool → Nat, S = fun k => if k then c1 else c0 := ⟨_, rfl⟩
        have HSL : Hid (∀ k, (S k).length ≤ 300 ∧ (S k).length ≤ cS k) := fun k => by
          have h := HMB.out
          rw [hS, hcS]
          cases k
          · show (l0.take 300).length ≤ 300 ∧ (l0.take 300).length ≤ c0; omega
          · show (l1.take 300).length ≤ 300 ∧ (l1.take 300).length ≤ c1; omega
        have HSB : Hid (∀ k, Byt (S k)) := fun k => by
          rw [hS]
          cases k
          · exact fun y hy => BY0.out y (List.mem_of_mem_take hy)
          · exact fun y hy => BY1.out y (List.mem_of_mem_take hy)
        have HSR : Hid (∀ k, Rd .u8 w (.slice (aS k) (S k).length (cS k)) (S k)) := fun k => by
          have h := HMB.out
          rw [hS, haS, hcS]
          cases k
          · show Rd .u8 w (.slice a0 (l0.take 300).length c0) (l0.take 300); rw [h.2.2.2.2.1]; exact HR0.out
          · show Rd .u8 w (.slice a1 (l1.take 300).length c1) (l1.take 300); rw [h.2.2.2.2.2]; exact HR1.out
        have HSC : Hid (∀ k, v8.cell? ⟨bS, kN k, none⟩ = some (.slice (aS k) (S k).length (cS k))) := fun k => by
          have h := HMB.out
          rw [cell_blk HKS.out, hS, haS, hcS]
          cases k
          · show some (Value.slice a0 m0 c0) = some (.slice a0 (l0.take 300).length c0); rw [h.2.2.2.2.1]
          · show some (Value.slice a1 m1 c1) = some (.slice a1 (l1.take 300).length c1); rw [h.2.2.2.2.2]
        have HFC : Hid (∀ k, v8.cell? ⟨b11, kN k, none⟩ = some (.int .u32 (l.nx k % 4294967296))) := fun k => by
          rw [cell_blk HK11.out]
          cases k <;> rfl
        have HWC : Hid (∀ k, v8.cell? ⟨b16, kN k, none⟩ = some (.int .i64 (((S k).length : Int) + 1))) := fun k => by
          have h := HMB.out
          rw [cell_blk HK16.out, hS]
          cases k
          · show some (Value.int .i64 M0) = some (.int .i64 (((l0.take 300).length : Int) + 1)); rw [h.2.2.2.2.1, HM.out.1]
          · show some (Value.int .i64 M1) = some (.int .i64 (((l1.take 300).length : Int) + 1)); rw [h.2.2.2.2.2, HM.out.2]
        have HK9' : Hid (v8.heap[b9]? = some (.cells (l.sp.at false).ov.cells 40)) := by have := HK9.out; rw [← HT.out] at this; exact this
        have HK10' : Hid (v8.heap[b9 + 1]? = some (.cells (l.sp.at true).ov.cells 40)) := by have := HK10.out; rw [← HK.out] at this; exact this
        have HSTM := Lib.hid (stm_new HL.out HERR.out (S := S) (fun k => (HSL.out k).1))
        clear hS haS hcS HMB HM HR0 HR1 BY0 BY1 HC0 HC1 HK9 HK10 HK11 HK16 HKS HT HK
        have h14 : b12 + 1 + 1 < b16 := hl12
        have hX0 := HX8.out.size
        have hnum : b9 + 1 < b11 ∧ b11 < b12 ∧ bb < b9 ∧ bS < bb ∧ w.heap.size ≤ bS ∧ b12 + 1 + 1 < b16 := by omega
        have hv16 := lt_of_cell (HWC.out false)
        go_wp2_with fail
        go_loopw [17] (fun iv wr => ∃ (i : Nat) (x : Sp) (go hi : Bool → Nat) (fi : Bool → Bool), i ≤ n ∧ i ≤ 60 ∧ iv = .int .i64 i ∧ Stm l S go hi fi x ∧ SpAt wr bb x ∧ wr.heap[b12]? = some (.cells #[.int .i64 (go false), .int .i64 (go true)] 44) ∧ wr.heap[b12 + 1]? = some (.cells #[.int .i64 (hi false), .int .i64 (hi true)] 44) ∧ wr.heap[b12 + 1 + 1]? = some (.cells #[.bool (fi false), .bool (fi true)] 45) ∧ Mvs (fun j => j = bb ∨ j = b12 ∨ j = b12 + 1 ∨ j = b12 + 1 + 1) v8 wr) (fun iv _ => 60 - (intOf iv).toNat)
        case atStart => exact ⟨0, l.sp, fun _ => 0, fun _ => 0, fun _ => false, Nat.zero_le _, Nat.zero_le _, rfl, HSTM.out, hB, k12, k13, k14, Mvs.refl _ _⟩
        case round =>
          obtain ⟨i, x, go, hi, fi, hin, hi60, rfl, hstm, hB, k12, k13, k14, hm⟩ := hrel
          by_cases hlt : i < n ∧ i < 60
          · obtain ⟨hln, hl6⟩ := hlt
            rcases HEL.out with h0 | ⟨ba, oa, rfl, hel⟩
            · omega
            obtain ⟨sv, fr0, lo0, ak0, wn, od, hrg, b1, b2, b3, b4, b5⟩ := hel i hln
            clear hel
            have HXR := Lib.hid (hm.ext HX8.out (fun k hk => by omega))
            have q0 := HXR.out.cell (hrg 0 _ rfl)
            simp only [Nat.add_zero] at q0
            have HRG := Lib.hid (range_ext hrg HXR.out)
            have hk9 := hm.keep HK9'.out (by omega)
            have hk10 := hm.keep HK10'.out (by omega)
            have r9 : wr.rangeAt b9 0 (l.sp.at false).ov.cells.toList := fun j v hv => by rw [Nat.zero_add, cell_blk hk9]; simpa using hv
            have hi6 : (i : Int) < 60 := by omega
            have hin' : (i : Int) < (n : Int) := by omega
            have hlr : v8.heap.size ≤ wr.heap.size := hm.size
            have HSTR := Lib.hid hstm
            have HBR := Lib.hid hB
            have HK12 := Lib.hid k12
            have HK13 := Lib.hid k13
            have HK14 := Lib.hid k14
            have HMR := Lib.hid hm
            have HBD := Lib.hid (And.intro b1 (And.intro b2 (And.intro b3 (And.intro b4 b5))))
            clear hstm hB k12 k13 k14 hm hrg b1 b2 b3 b4 b5
            rename_i zz0 zz1 zz2 zz3 zz4 zz5 zz6 zz7 zz8 zz9 zz10 zz11 zz12 zz13 zz14 zz15 zz16 zz17 zz18 zz19 zz20 zz21 zz22 zz23 zz24 zz25 zz26 zz27 zz28 zz29 zz30
            revert w l l0 l1 n cap a0 m0 c0 a1 m1 c1 HN HL zz0 W zz1 bS zz2 hbS hwbS v1 bb zz3 hbbS hwb hok HERR zz4 zz5 zz6 v2 kLg zz7 zz8 zz9 HBX T K V3 b9 zz10 hlN hlB v4 zz11 zz12 zz13 zz14 zz15 V5 k9 k10 kS zz16 hx b11 k11 hlS hl10 Va Vb zz17 b12 zz18 zz19 hl11 v6 zz20 u63 u64 u65 u66 u67 u68 u69 u70 u71 u72 u73 u74 u75 u76 u77 zz21 zz22 zz23 zz24 zz25 M0 M1 zz26 zz27 zz28 b16 hl12 v8 k12 k13 k14 hB HX8 S aS cS HSL HSB HSR HSC HFC HWC HK9' HK10' HSTM h14 hX0 hnum hv16 wr u6 u18 u19 u20 u21 u22 u23 u24 u25 u26 u27 u28 u29 u30 u31 u32 u33 u87 u88 u89 u90 u91 u92 u93 u94 u95 u96 u97 u98 u99 u100 u101 u102 u103 u104 u105 u106 u107 u108 u109 u110 u111 u112 u113 u114 u115 u116 u117 u118 u119 u120 u121 u122 u123 u124 u125 u126 u127 u128 u129 u130 u131 u132 u133 u134 u135 u136 u137 u138 u139 u140 u141 u142 u143 u144 u145 u146 u147 u148 u149 u150 u151 u152 u153 u154 u155 u156 u157 u158 u159 u160 u161 u162 u163 u164 u165 u166 u167 u168 u169 u170 u171 u172 u173 u174 u175 u176 u177 u178 u179 u180 u181 u182 u183 u184 u185 u186 u187 u188 u189 u190 u191 u192 u193 u194 u195 u196 u197 u198 u199 u200 u201 u202 u203 u204 u205 u206 u207 u208 u209 u210 u211 u212 u213 u214 u215 u216 u217 u218 u219 u220 u221 u222 u223 u224 u225 u226 u227 u228 u229 u230 u231 u232 u233 u234 u235 u236 u237 u238 u239 u240 u241 u242 u243 u244 u245 u246 u247 u248 u249 u250 u251 u252 u253 u254 u255 u256 u257 u258 u259 u260 u261 u262 u263 u264 u265 u266 u267 u268 u269 u270 u271 u272 u273 u274 u275 u276 u277 u278 u279 u280 u281 u282 u283 u284 u285 u286 u287 u288 u289 u290 u291 u292 u293 u294 u295 u296 u297 u298 u299 u300 u301 u302 u303 u304 u305 u306 u307 u308 u309 u310 u311 u312 u313 u314 u315 u316 u317 u318 u319 u320 u321 u322 u323 u324 u325 u326 u327 u328 u329 u330 u331 u332 u333 u334 u335 u336 u337 u338 u339 u340 u341 u342 u343 u344 u345 u346 u347 u348 u349 u350 u351 u352 u353 u354 u355 u356 u357 u358 u359 u360 u361 u362 u363 u364 u365 u366 u367 u368 u369 u370 u371 u372 u373 u374 u375 u376 u377 u378 u379 u380 u381 u382 u383 u384 u385 u386 u387 u388 u389 u390 u391 u392 u393 u394 u395 u396 u397 u398 u399 u400 u401 u402 u403 u404 u405 u406 u407 u408 i x go hi fi hin hi60 hln hl6 ba oa HEL zz29 zz30 sv fr0 lo0 ak0 wn od HXR q0 HRG hk9 hk10 r9 hi6 hin' hlr HSTR HBR HK12 HK13 HK14 HMR HBD
            exact hG ()
          · clear hG
            have HX1 := Lib.hid (hm.ext HX8.out (fun k hk => by omega) : Ext w wr)
            clear hm hstm hB k12 k13 k14
            have hc2 : (i < n ∧ i = 60) ∨ ¬ i < n := by omega
            rcases hc2 with ⟨h1, rfl⟩ | h1
            all_goals
              go_wp2_with fail
              refine (wakes26_any wr).mono ?_
              rintro e v2 ⟨rfl, hx2⟩
              go_wp2_with fail
              go_ret
              exact ⟨rfl, HX1.out.tr hx2⟩
end Go.Proofs.Ytgbbpibcmpeneaa.spliceStream
