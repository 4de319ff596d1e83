/-
  Proved here: what tcp.Put tells at given numbers; that chapter 6 is awake; how a segment that is handed in reads.
-/
import Derived.Test.YtjaffcbadgpolaaTcp
import Derived.Test.YtjaffcbadgpolaaShape
namespace Go.Proofs.Ytjaffcbadgpolaa
open Go.ChangeShapes Go.WideShapes Go.ChangeAt Go.RowKit Go.Cul Go.Loose
set_option linter.unusedVariables false
attribute [local go_sem] Loose.Still Loose.Upon Loose.vUpon

abbrev segSh : Sh := .agg 9 (.more 1 (.int .u16) (.more 1 (.int .u16) (.more 1 (.int .u32) (.more 1 (.int .u32) (.more 1 (.int .u8) (.more 1 (.int .u16) (.more 1 (.int .u16) (.more 1 (.rows 2 32 (.agg 2 (.more 1 (.int .u8) (.more 1 (.ints .u8 1) .done)))) (.more 1 (.ints .u8 1) .done)))))))))

theorem open_segment {w : World} {cs : Array Value} (h : Reads w segSh cs.toList) : ∃ (g : Sg) (vo vd : Value), cs = g.cells vo vd ∧ g.ok ∧ RdO w vo g.os ∧ Rd .u8 w vd g.data ∧ g.data.length ≤ 140737488351232 ∧ ∀ o ∈ g.os, o.2.length ≤ 140737488351232 := by
  simp only [Reads] at h
  obtain ⟨_, _, e0, ⟨s0, rfl, ws0⟩, _, _, rfl, ⟨s1, rfl, ws1⟩, _, _, rfl, ⟨s2, rfl, ws2⟩, _, _, rfl, ⟨s3, rfl, ws3⟩, _, _, rfl, ⟨s4, rfl, ws4⟩, _, _, rfl, ⟨s5, rfl, ws5⟩, _, _, rfl, ⟨s6, rfl, ws6⟩, _, _, rfl, h7, _, _, rfl, ⟨v, l, rfl, hr, hb, hn⟩, rfl⟩ := h
  obtain ⟨vo, a, m, cap, rfl, h7'⟩ := id h7
  obtain ⟨os, ho, hbo, hlo, hdo⟩ := rdo_of_rows (v := vo) (by simp only [Reads]; exact h7)
  refine ⟨⟨s0, s1, s2, s3, s4, s5, s6, os, l⟩, vo, v, by rw [← Array.toList_inj]; simpa using e0, ⟨wf_u16 ws0, wf_u16 ws1, wf_u32 ws2, wf_u32 ws3, wf_u8 ws4, wf_u16 ws5, wf_u16 ws6, hbo, byt_of_wf hb⟩, ho, hr, by show l.length ≤ _; omega, hdo⟩

theorem field_bd {g : Sg} (hg : g.ok) {s d : Int} (hs : 0 ≤ s ∧ s ≤ 4294967295) (hd : 0 ≤ d ∧ d ≤ 4294967295) {O : List Int} (hO : Byt O) (hl : O.length ≤ 40) : 0 ≤ g.field s d O ∧ g.field s d O ≤ 65535 := by
  have h := csum_bd ((pseu_byt (20 + (O.length : Int) + (g.data.length : Int)) hs hd (p := 6) (by omega)).app (lay_byt hg hO hl (f := 0) (by omega)))
  unfold Sg.field
  omega
theorem oput_split (os : List Op1) : ∃ O E, oput os = (O, E) ∧ O.length ≤ 40 ∧ O.length % 4 = 0 := ⟨_, _, rfl, oput_len os⟩
/-- What Put tells of a segment: an error and nothing, or its bytes. -/
theorem tput_cases {s d : Int} {g : Sg} (hg : g.ok) (hs : 0 ≤ s ∧ s ≤ 4294967295) (hd : 0 ≤ d ∧ d ≤ 4294967295) : (∃ E, E ≠ 0 ∧ tput s d g = ([], E) ∧ ∀ s' d' (g' : Sg), g'.os = g.os → g'.data = g.data → tput s' d' g' = ([], E)) ∨
    (∃ O, oput g.os = (O, 0) ∧ Byt O ∧ O.length ≤ 40 ∧ O.length % 4 = 0 ∧ 20 + O.length + g.data.length ≤ 1480 ∧ tput s d g = (g.lay O (g.field s d O), 0) ∧ (0 ≤ g.field s d O ∧ g.field s d O ≤ 65535) ∧
      ∀ s' d' (g' : Sg), g'.os = g.os → g'.data = g.data → tput s' d' g' = (g'.lay O (g'.field s' d' O), 0)) := by
  obtain ⟨O, E, ho, h4, h5⟩ := oput_split g.os
  have hb : Byt O := by have := oput_byt hg.os; rw [ho] at this; exact this
  by_cases he : E = 0
  · subst he
    by_cases hl : 1480 < 20 + O.length + g.data.length
    · left
      refine ⟨3, by decide, tput_long ho hl, fun s' d' g' h1 h2 => tput_long (h1 ▸ ho) (by rw [h2]; exact hl)⟩
    · right
      refine ⟨O, ho, hb, h4, h5, by omega, tput_fit ho hl, field_bd hg hs hd hb h4, fun s' d' g' h1 h2 => tput_fit (h1 ▸ ho) (by rw [h2]; exact hl)⟩
  · left
    exact ⟨E, he, tput_err ho he, fun s' d' g' h1 h2 => tput_err (h1 ▸ ho) he⟩

theorem by2_inj {x y : Int} (hx : 0 ≤ x ∧ x ≤ 65535) (hy : 0 ≤ y ∧ y ≤ 65535) : decide (by2 x = by2 y) = (x == y) := by
  rw [Bool.eq_iff_iff, decide_eq_true_iff, beq_iff_eq]
  simp only [by2, List.cons.injEq, and_true]
  constructor
  · rintro ⟨h1, h2⟩; omega
  · rintro rfl; exact ⟨rfl, rfl⟩
theorem by4_inj {x y : Int} (hx : 0 ≤ x ∧ x ≤ 4294967295) (hy : 0 ≤ y ∧ y ≤ 4294967295) : decide (by4 x = by4 y) = (x == y) := by
  rw [Bool.eq_iff_iff, decide_eq_true_iff, beq_iff_eq]
  simp only [by4, List.cons.injEq, and_true]
  constructor
  · rintro ⟨h1, h2, h3, h4⟩; omega
  · rintro rfl; exact ⟨rfl, rfl, rfl, rfl⟩
theorem one_inj {x y : Int} : decide ([x] = [y]) = (x == y) := by
  rw [Bool.eq_iff_iff, decide_eq_true_iff, beq_iff_eq]
  simp

theorem sameAt_any (i j : Nat) (B1 B2 : Nat) (v1 v2 : Value) (l1 l2 : List Int) (w : World) (k1 : w.heap[B1]? = some (.cells #[v1] 25)) (k2 : w.heap[B2]? = some (.cells #[v2] 25)) (h1 : Rd .u8 w v1 l1) (h2 : Rd .u8 w v2 l2)
    (b1 : Byt l1) (b2 : Byt l2) (hij : i ≤ j) (hj1 : j ≤ l1.length) (hj2 : j ≤ l2.length) :
    Calls Try.prog 11 #[.int .i64 i, .int .i64 j, .pointer (some ⟨B1, 0, none⟩), .pointer (some ⟨B2, 0, none⟩)] w fun e w' => e = .returned (.bool (decide ((l1.drop i).take (j - i) = (l2.drop i).take (j - i)))) ∧ Ext w w' := by
  have q1 := fun (a cap) (e : v1 = .slice a l1.length cap) => (e ▸ h1 : Rd .u8 w (.slice a l1.length cap) l1).cut i (j - i) j (by omega) hj1
  have q2 := fun (a cap) (e : v2 = .slice a l2.length cap) => (e ▸ h2 : Rd .u8 w (.slice a l2.length cap) l2).cut i (j - i) j (by omega) hj2
  obtain ⟨a1, c1, rfl, r1, r2, -⟩ := h1
  obtain ⟨a2, c2, rfl, r3, r4, -⟩ := h2
  have q1 := q1 _ _ rfl
  have q2 := q2 _ _ rfl
  have e1 := cell_blk k1 0
  simp at e1
  have e2 := cell_blk k2 0
  simp at e2
  go_enter Try.func11, Try.ntmps11
  go_wp2_with fail
  have i1 : (i : Int) ≤ (j : Int) := by omega
  have i2 : (j : Int) ≤ (c1 : Int) := by omega
  have i3 : (j : Int) ≤ (c2 : Int) := by omega
  unfold maxLen at r2 r4
  have hb1 : Byt ((l1.drop i).take (j - i)) := (b1.drop i).take _
  have hb2 : Byt ((l2.drop i).take (j - i)) := (b2.drop i).take _
  have hq : ((strOfNums ((l1.drop i).take (j - i))).toList == (strOfNums ((l2.drop i).take (j - i))).toList) = decide ((l1.drop i).take (j - i) = (l2.drop i).take (j - i)) := by
    rw [ByteArray.toList_eq, ByteArray.toList_eq, Bool.eq_iff_iff, decide_eq_true_iff, beq_iff_eq]
    refine ⟨fun h => ?_, fun h => by rw [h]⟩
    rw [← nums_back _ hb1, ← nums_back _ hb2, h]
  clear hb1 hb2 b1 b2
  generalize hm1 : (l1.drop i).take (j - i) = m1 at *
  generalize hm2 : (l2.drop i).take (j - i) = m2 at *
  have HM1 := Lib.hid hm1
  have HM2 := Lib.hid hm2
  clear hm1 hm2
  have HQ := Lib.hid hq
  clear hq
  refine wp_region_tail 11 [] lasts_nil (by kernel_rfl) (by kernel_rfl) (by kernel_rfl) ?_
  simp only [List.take, List.drop]
  iterate 1
    apply wpL_none rfl rfl
    · intro w' hw' hn'; have e1 := Ext.cell hw' e1; go_simp; exact rfl
    intro K hK; go_simp; refine hK _ _ ?_; clear hK K
  iterate 3
    apply wpL_none rfl rfl
    · intro w' hw' hn'; go_simp; exact rfl
    intro K hK; go_simp; refine hK _ _ ?_; clear hK K
  generalize hs1 : (Value.slice (if c1 = i then a1 else Option.map (fun x => x.add i) a1) (j - i) (c1 - i)) = u1 at *
  apply wpL_none rfl rfl
  · intro w' hw' hn'
    have hc := run_conv_rd (P := Try.prog) (src := 25) (e := 5) (dst := 9) (by kernel_rfl) (by kernel_rfl) (by kernel_rfl) (q1.ext hw')
    go_simp
    exact rfl
  intro K hK; go_simp; refine hK _ _ ?_; clear hK K
  iterate 1
    apply wpL_none rfl rfl
    · intro w' hw' hn'; have e2 := Ext.cell hw' e2; go_simp; exact rfl
    intro K hK; go_simp; refine hK _ _ ?_; clear hK K
  iterate 3
    apply wpL_none rfl rfl
    · intro w' hw' hn'; go_simp; exact rfl
    intro K hK; go_simp; refine hK _ _ ?_; clear hK K
  generalize hs2 : (Value.slice (if c2 = i then a2 else Option.map (fun x => x.add i) a2) (j - i) (c2 - i)) = u2 at *
  apply wpL_none rfl rfl
  · intro w' hw' hn'
    have hc := run_conv_rd (P := Try.prog) (src := 25) (e := 5) (dst := 9) (by kernel_rfl) (by kernel_rfl) (by kernel_rfl) (q2.ext hw')
    go_simp
    exact rfl
  intro K hK; go_simp; refine hK _ _ ?_; clear hK K
  iterate 1
    apply wpL_none rfl rfl
    · intro w' hw' hn'; go_simp; exact rfl
    intro K hK; go_simp; refine hK _ _ ?_; clear hK K
  refine wpL_nil ?_
  intro w' hw' hD'
  iterate 1
    apply wpVL_step rfl
    intro K hK
    go_simp
    refine hK _ _ ?_
    clear hK K
  refine wpVL_nil ?_
  go_wp2_with fail
  go_ret
  exact ⟨by rw [HM1.out, HM2.out, ← HQ.out]; rfl, hw'⟩

theorem tput_lit (L : List Int) (n : Int) (s d : Int) (g : Sg) (vo vd : Value) (w : World) (hvo : RdO w vo g.os) (hvd : Rd .u8 w vd g.data) (hg : g.ok) (hr : (0 ≤ s ∧ s ≤ 4294967295) ∧ (0 ≤ d ∧ d ≤ 4294967295)) (hl : g.data.length ≤ 2000) (he : tput s d g = (L, n)) :
    Calls Try.prog 9 #[.int .u32 s, .int .u32 d, .agg (g.cells vo vd)] w fun e w' => ∃ u, e = .returned (.tuple #[u, .int .i64 n]) ∧ Own w' w.heap.size 5 .u8 u L ∧ Ext w w' := by
  have h := tput_any s d g vo vd w hg hvo hvd hr.1 hr.2 (by omega)
  rw [he] at h
  exact h

/-- A slice of one option. -/
theorem rdo_one {w : World} {b : Nat} {k : Int} {u : Value} {l : List Int} {t : TypeId} (hb : w.heap[b]? = some (.cells #[.int .u8 k, u] t)) (hu : Rd .u8 w u l) : RdO w (.slice (some ⟨b, 0, none⟩) 1 1) [(k, l)] := by
  refine ⟨_, 1, rfl, Nat.le_refl _, by decide, .inr ⟨b, 0, rfl, fun i hi => ?_⟩⟩
  obtain rfl : i = 0 := by simpa using hi
  exact ⟨u, by rw [cell_blk hb]; rfl, by rw [cell_blk hb]; rfl, hu⟩

set_option maxRecDepth 100000 in
theorem wakes6_any (w : World) : Calls Try.prog 10 #[] w fun e w' => e = .returned (.bool true) ∧ Ext w w' := by
  go_enter Try.func10, Try.ntmps10
  go_wp2_with fail
  generalize hW : ((w.alloc _).alloc _).alloc _ = W
  have hxW : Ext w W := by rw [← hW]; exact ((Ext.new w _).al _).al _
  have k0 : W.heap[w.heap.size]? = some (.cells #[.int .u8 5, .int .u8 180] 5) := by rw [← hW]; simp only [heap_alloc_at, World.size_alloc]; repeat (first | rfl | rw [if_pos (by first | trivial | omega)] | rw [if_neg (by omega)])
  have k1 : W.heap[w.heap.size + 1]? = some (.cells #[.int .u8 2, .slice (some ⟨w.heap.size, 0, none⟩) 2 2] 36) := by rw [← hW]; simp only [heap_alloc_at, World.size_alloc]; repeat (first | rfl | rw [if_pos (by first | trivial | omega)] | rw [if_neg (by omega)])
  have k2 : W.heap[w.heap.size + 1 + 1]? = some (.cells #[.int .u16 1, .int .u16 2, .int .u32 3, .int .u32 0, .int .u8 2, .int .u16 0, .int .u16 0, .slice (some ⟨w.heap.size + 1, 0, none⟩) 1 1, .slice none 0 0] 27) := by rw [← hW]; simp only [heap_alloc_at, World.size_alloc]; repeat (first | rfl | rw [if_pos (by first | trivial | omega)] | rw [if_neg (by omega)])
  clear hW
  refine (tput_lit [0, 1, 0, 2, 0, 0, 0, 3, 0, 0, 0, 0, 96, 2, 0, 0, 152, 24, 0, 0, 2, 4, 5, 180] 0 4 5 ⟨1, 2, 3, 0, 2, 0, 0, [(2, [5, 180])], []⟩ _ _ _ (rdo_one k1 (rd_blk2 k0)) (Rd.nil _ _) ⟨by decide, by decide, by decide, by decide, by decide, by decide, by decide, ?_, byt_of rfl⟩ (by decide) (by decide) (by decide +kernel)).mono ?_
  · intro o ho
    obtain rfl : o = (2, [5, 180]) := by simpa using ho
    exact ⟨by decide, byt_of rfl⟩
  rintro e w1 ⟨u, rfl, hu, hx1⟩
  have k2 := hx1.block k2
  have e0 := cell_blk k2 0
  have e1 := cell_blk k2 1
  have e2 := cell_blk k2 2
  have e3 := cell_blk k2 3
  have e4 := cell_blk k2 4
  have e5 := cell_blk k2 5
  have e6 := cell_blk k2 6
  have e7 := cell_blk k2 7
  have e8 := cell_blk k2 8
  simp at e0 e1 e2 e3 e4 e5 e6 e7 e8
  obtain ⟨a, c, rfl, hc1, hc2, -⟩ := id hu.rd
  have hr := hu.rd.take (m := 16) (by decide)
  rw [show ([0, 1, 0, 2, 0, 0, 0, 3, 0, 0, 0, 0, 96, 2, 0, 0, 152, 24, 0, 0, 2, 4, 5, 180] : List Int).take 16 = [0, 1, 0, 2, 0, 0, 0, 3, 0, 0, 0, 0, 96, 2, 0, 0] from rfl] at hr
  have hconv := run_conv_rd (P := Try.prog) (src := 25) (e := 5) (dst := 9) (by kernel_rfl) (by kernel_rfl) (by kernel_rfl) hr
  have hc16 : 16 ≤ c := Nat.le_trans (by decide) hc1
  have hc16' : (16 : Int) ≤ (c : Int) := by omega
  unfold maxLen at hc2
  have hS : strOfNums [0, 1, 0, 2, 0, 0, 0, 3, 0, 0, 0, 0, 96, 2, 0, 0] = ⟨#[0, 1, 0, 2, 0, 0, 0, 3, 0, 0, 0, 0, 96, 2, 0, 0]⟩ := by decide
  rw [hS] at hconv
  clear hc1 hu hr hS
  go_wp2_with fail
  refine (length_any _ _ _ _ _ _ _ 2 _ _ _ _ (by decide)).mono ?_
  rw [show sLen ((0 : Nat) : Int) 2 = 1 from by decide]
  rintro e w2 ⟨rfl, hx2⟩
  go_wp2_with fail
  go_ret
  exact ⟨rfl, hxW.tr (hx1.tr hx2)⟩
end Go.Proofs.Ytjaffcbadgpolaa
