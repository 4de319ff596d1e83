/-
  Proved here: what ipv4.Same, packet.Same and the document's Same of heads, messages and packets compute. (PRINTED BY tools/genpks.py)
-/
import Derived.Test.YtbaidlkjbdeceaaGreatIcmp
import Derived.Test.YtbaidlkjbdeceaaGreatTcpS
import Derived.Test.YtbaidlkjbdeceaaGreatUdpR
import Derived.Test.YtbaidlkjbdeceaaGreatRef6S
import Derived.Test.YtbaidlkjbdeceaaGreatBig
import Derived.Deep.MidRow
namespace Go.Proofs.YtbaidlkjbdeceaaGreat
set_option maxRecDepth 200000
open Go.ChangeShapes Go.WideShapes Go.ChangeAt Go.RowKit Go.Cul Go.Loose
set_option linter.unusedVariables false
attribute [local go_sem] Loose.Still Loose.Upon Loose.vUpon First.pUpon

/-- A struct out of the middle of a row, under a guard that holds. -/
theorem wpList_load_midG {P : Program} {ops : Array Oper} {rest : List Oper} {op : Oper} {a : Act} {w : World} {Q : Exit → Act → World → Prop} (hw : Region.wanted op (yielded ops a.tmps) = true) (ty : TypeId) (x : Operand) (ho : op.op = .load ty x)
    (b o : Nat) (hx : a.eval x = .pointer (some ⟨b, o, none⟩)) (cs : List Value) (d : TypeDesc) (hc : w.rangeAt b o cs) (hu : P.underlying ty = some d) (hd : d.isRow = true) (hi : (P.info? ty).map (·.size) = some cs.length)
    (h : wpList P ops Q rest (a.put op.dst (.agg cs.toArray)) w) : wpList P ops Q (op :: rest) a w :=
  wpList_step fun K hK => by
    rw [if_pos hw]
    exact wp_load_mid ty x ho b o hx cs d hc hu hd hi (hK _ _ h)

/-- Whether two heads are the same. -/
def hsame (g h : Hd) : Bool := (g.tos == h.tos) && (g.id == h.id) && (g.df == h.df) && (g.ttl == h.ttl) && (g.proto == h.proto) && (g.src == h.src) && (g.dst == h.dst) && decide (g.op = h.op)
theorem hsame_iff (g h : Hd) : hsame g h = true ↔ g = h := by
  obtain ⟨a1, a2, a3, a4, a5, a6, a7, a8⟩ := g
  obtain ⟨b1, b2, b3, b4, b5, b6, b7, b8⟩ := h
  simp [hsame, and_assoc]
theorem str_eq9 {l l' : List Int} (hb : Byt l) (hb' : Byt l') : ((strOfNums l).toList == (strOfNums l').toList) = decide (l = l') := by
  rw [ByteArray.toList_eq, ByteArray.toList_eq, Bool.eq_iff_iff, decide_eq_true_iff, beq_iff_eq]
  refine ⟨fun h => ?_, fun h => by rw [h]⟩
  rw [← nums_back l hb, ← nums_back l' hb', h]

theorem new9a (w : World) (o1 o2 : Obj) : ((w.alloc o1).alloc o2).heap[w.heap.size]? = some o1 := by simp only [heap_alloc_at, World.size_alloc]; simp
theorem new9b (w : World) (o1 o2 : Obj) : ((w.alloc o1).alloc o2).heap[w.heap.size + 1]? = some o2 := by simp only [heap_alloc_at, World.size_alloc]; simp

set_option maxHeartbeats 4000000 in
set_option maxRecDepth 100000 in
theorem hsame_any (g h : Hd) (vo vo' : Value) (w : World) (hvo : Rd .u8 w vo g.op) (hvo' : Rd .u8 w vo' h.op) (hb : Byt g.op) (hb' : Byt h.op) :
    Calls Tryz.prog 24 #[.agg (g.cells vo), .agg (h.cells vo')] w fun e w' => e = .returned (.bool (hsame g h)) ∧ Ext w w' := by
  have hU : Hid (hsame g h = ((g.tos == h.tos) && (g.id == h.id) && (g.df == h.df) && (g.ttl == h.ttl) && (g.proto == h.proto) && (g.src == h.src) && (g.dst == h.dst) && decide (g.op = h.op))) := rfl
  generalize hsame g h = HS at *
  obtain ⟨a1, a2, a3, a4, a5, a6, a7, la⟩ := g
  obtain ⟨b1, b2, b3, b4, b5, b6, b7, lb⟩ := h
  dsimp only [Hd.cells] at *
  have hx0 : Ext w ((w.alloc (.cells #[.int .u8 a1, .int .u16 a2, .bool a3, .int .u8 a4, .int .u8 a5, .int .u32 a6, .int .u32 a7, vo] 26)).alloc (.cells #[.int .u8 b1, .int .u16 b2, .bool b3, .int .u8 b4, .int .u8 b5, .int .u32 b6, .int .u32 b7, vo'] 26)) := (Ext.new _ _).al _
  have k1 := (new9a w (.cells #[.int .u8 a1, .int .u16 a2, .bool a3, .int .u8 a4, .int .u8 a5, .int .u32 a6, .int .u32 a7, vo] 26) (.cells #[.int .u8 b1, .int .u16 b2, .bool b3, .int .u8 b4, .int .u8 b5, .int .u32 b6, .int .u32 b7, vo'] 26))
  have k2 := (new9b w (.cells #[.int .u8 a1, .int .u16 a2, .bool a3, .int .u8 a4, .int .u8 a5, .int .u32 a6, .int .u32 a7, vo] 26) (.cells #[.int .u8 b1, .int .u16 b2, .bool b3, .int .u8 b4, .int .u8 b5, .int .u32 b6, .int .u32 b7, vo'] 26))
  have HV := Lib.hid (hvo.ext hx0)
  have HV' := Lib.hid (hvo'.ext hx0)
  have HB := Lib.hid hb
  have HB' := Lib.hid hb'
  obtain ⟨ax, cx, rfl, -, -, -⟩ := hvo
  obtain ⟨ay, cy, rfl, -, -, -⟩ := hvo'
  clear hb hb'
  go_enter Tryz.func24, Tryz.ntmps24
  go_upto_region 1 with (fail)
  generalize hW : World.alloc (World.alloc w _) _ = W at *
  clear hW
  have c7 := cell_blk k1 7
  simp at c7
  have d7 := cell_blk k2 7
  simp at d7
  go_wp2_with fail
  refine (beq_any _ _ la lb _ HV.out HV'.out HB.out HB'.out).mono ?_
  rintro e W2 ⟨rfl, hx2⟩
  have k1 := hx2.block k1
  have k2 := hx2.block k2
  have HX := Lib.hid (hx0.tr hx2)
  clear c7 d7 hx2
  obtain ⟨R, hR⟩ : ∃ R, decide (la = lb) = R := ⟨_, rfl⟩
  rw [hR] at hU ⊢
  clear hx0 hR
  have c0 := cell_blk k1 0
  have c1 := cell_blk k1 1
  have c2 := cell_blk k1 2
  have c3 := cell_blk k1 3
  have c4 := cell_blk k1 4
  have c5 := cell_blk k1 5
  have c6 := cell_blk k1 6
  have c7 := cell_blk k1 7
  simp at c0 c1 c2 c3 c4 c5 c6 c7
  have d0 := cell_blk k2 0
  have d1 := cell_blk k2 1
  have d2 := cell_blk k2 2
  have d3 := cell_blk k2 3
  have d4 := cell_blk k2 4
  have d5 := cell_blk k2 5
  have d6 := cell_blk k2 6
  have d7 := cell_blk k2 7
  simp at d0 d1 d2 d3 d4 d5 d6 d7
  clear k1 k2
  cases R
  · go_wp2_with fail
    go_ret
    exact ⟨by rw [hU.out]; simp, HX.out⟩
  by_cases q1 : a1 = b1
  rotate_left
  · have hne : (a1 == b1) = false := by simpa using q1
    go_wp2_with fail
    go_ret
    exact ⟨by rw [hU.out]; simp [hne], HX.out⟩
  subst q1
  by_cases q2 : a2 = b2
  rotate_left
  · have hne : (a2 == b2) = false := by simpa using q2
    go_wp2_with fail
    go_ret
    exact ⟨by rw [hU.out]; simp [hne], HX.out⟩
  subst q2
  by_cases q3 : a3 = b3
  rotate_left
  · have hne : (a3 == b3) = false := by simpa using q3
    go_wp2_with fail
    go_ret
    exact ⟨by rw [hU.out]; simp [hne], HX.out⟩
  subst q3
  by_cases q4 : a4 = b4
  rotate_left
  · have hne : (a4 == b4) = false := by simpa using q4
    go_wp2_with fail
    go_ret
    exact ⟨by rw [hU.out]; simp [hne], HX.out⟩
  subst q4
  by_cases q5 : a5 = b5
  rotate_left
  · have hne : (a5 == b5) = false := by simpa using q5
    go_wp2_with fail
    go_ret
    exact ⟨by rw [hU.out]; simp [hne], HX.out⟩
  subst q5
  by_cases q6 : a6 = b6
  rotate_left
  · have hne : (a6 == b6) = false := by simpa using q6
    go_wp2_with fail
    go_ret
    exact ⟨by rw [hU.out]; simp [hne], HX.out⟩
  subst q6
  by_cases q7 : a7 = b7
  rotate_left
  · have hne : (a7 == b7) = false := by simpa using q7
    go_wp2_with fail
    go_ret
    exact ⟨by rw [hU.out]; simp [hne], HX.out⟩
  subst q7
  go_wp2_with fail
  go_ret
  exact ⟨by rw [hU.out]; simp, HX.out⟩

set_option maxHeartbeats 4000000 in
set_option maxRecDepth 100000 in
theorem r4same_any (g h : Hd) (vo vo' : Value) (w : World) (hvo : Rd .u8 w vo g.op) (hvo' : Rd .u8 w vo' h.op) (hb : Byt g.op) (hb' : Byt h.op) :
    Calls Tryz.prog 28 #[.agg (g.cells vo), .agg (h.cells vo')] w fun e w' => e = .returned (.bool (hsame g h)) ∧ Ext w w' := by
  have hU : Hid (hsame g h = ((g.tos == h.tos) && (g.id == h.id) && (g.df == h.df) && (g.ttl == h.ttl) && (g.proto == h.proto) && (g.src == h.src) && (g.dst == h.dst) && decide (g.op = h.op))) := rfl
  generalize hsame g h = HS at *
  obtain ⟨a1, a2, a3, a4, a5, a6, a7, la⟩ := g
  obtain ⟨b1, b2, b3, b4, b5, b6, b7, lb⟩ := h
  dsimp only [Hd.cells] at *
  have hx0 : Ext w ((w.alloc (.cells #[.int .u8 a1, .int .u16 a2, .bool a3, .int .u8 a4, .int .u8 a5, .int .u32 a6, .int .u32 a7, vo] 26)).alloc (.cells #[.int .u8 b1, .int .u16 b2, .bool b3, .int .u8 b4, .int .u8 b5, .int .u32 b6, .int .u32 b7, vo'] 26)) := (Ext.new _ _).al _
  have k1 := (new9a w (.cells #[.int .u8 a1, .int .u16 a2, .bool a3, .int .u8 a4, .int .u8 a5, .int .u32 a6, .int .u32 a7, vo] 26) (.cells #[.int .u8 b1, .int .u16 b2, .bool b3, .int .u8 b4, .int .u8 b5, .int .u32 b6, .int .u32 b7, vo'] 26))
  have k2 := (new9b w (.cells #[.int .u8 a1, .int .u16 a2, .bool a3, .int .u8 a4, .int .u8 a5, .int .u32 a6, .int .u32 a7, vo] 26) (.cells #[.int .u8 b1, .int .u16 b2, .bool b3, .int .u8 b4, .int .u8 b5, .int .u32 b6, .int .u32 b7, vo'] 26))
  have HV := Lib.hid (hvo.ext hx0)
  have HV' := Lib.hid (hvo'.ext hx0)
  have HB := Lib.hid hb
  have HB' := Lib.hid hb'
  obtain ⟨ax, cx, rfl, -, -, -⟩ := hvo
  obtain ⟨ay, cy, rfl, -, -, -⟩ := hvo'
  clear hb hb'
  go_enter Tryz.func28, Tryz.ntmps28
  go_upto_region 1 with (fail)
  generalize hW : World.alloc (World.alloc w _) _ = W at *
  clear hW
  have h1 := run_conv_rd (P := Tryz.prog) (src := 24) (e := 5) (dst := 9) (by kernel_rfl) (by kernel_rfl) (by kernel_rfl) HV.out
  have h2 := run_conv_rd (P := Tryz.prog) (src := 24) (e := 5) (dst := 9) (by kernel_rfl) (by kernel_rfl) (by kernel_rfl) HV'.out
  have hq := str_eq9 HB.out HB'.out
  obtain ⟨R, hR⟩ : ∃ R, decide (la = lb) = R := ⟨_, rfl⟩
  rw [hR] at hq hU
  have HX := Lib.hid hx0
  clear hx0 hR
  have c0 := cell_blk k1 0
  have c1 := cell_blk k1 1
  have c2 := cell_blk k1 2
  have c3 := cell_blk k1 3
  have c4 := cell_blk k1 4
  have c5 := cell_blk k1 5
  have c6 := cell_blk k1 6
  have c7 := cell_blk k1 7
  simp at c0 c1 c2 c3 c4 c5 c6 c7
  have d0 := cell_blk k2 0
  have d1 := cell_blk k2 1
  have d2 := cell_blk k2 2
  have d3 := cell_blk k2 3
  have d4 := cell_blk k2 4
  have d5 := cell_blk k2 5
  have d6 := cell_blk k2 6
  have d7 := cell_blk k2 7
  simp at d0 d1 d2 d3 d4 d5 d6 d7
  clear k1 k2
  by_cases q1 : a1 = b1
  rotate_left
  · have hne : (a1 == b1) = false := by simpa using q1
    go_wp2_with fail
    go_ret
    exact ⟨by rw [hU.out]; simp [hne], HX.out⟩
  subst q1
  by_cases q2 : a2 = b2
  rotate_left
  · have hne : (a2 == b2) = false := by simpa using q2
    go_wp2_with fail
    go_ret
    exact ⟨by rw [hU.out]; simp [hne], HX.out⟩
  subst q2
  by_cases q3 : a3 = b3
  rotate_left
  · have hne : (a3 == b3) = false := by simpa using q3
    go_wp2_with fail
    go_ret
    exact ⟨by rw [hU.out]; simp [hne], HX.out⟩
  subst q3
  by_cases q4 : a4 = b4
  rotate_left
  · have hne : (a4 == b4) = false := by simpa using q4
    go_wp2_with fail
    go_ret
    exact ⟨by rw [hU.out]; simp [hne], HX.out⟩
  subst q4
  by_cases q5 : a5 = b5
  rotate_left
  · have hne : (a5 == b5) = false := by simpa using q5
    go_wp2_with fail
    go_ret
    exact ⟨by rw [hU.out]; simp [hne], HX.out⟩
  subst q5
  by_cases q6 : a6 = b6
  rotate_left
  · have hne : (a6 == b6) = false := by simpa using q6
    go_wp2_with fail
    go_ret
    exact ⟨by rw [hU.out]; simp [hne], HX.out⟩
  subst q6
  by_cases q7 : a7 = b7
  rotate_left
  · have hne : (a7 == b7) = false := by simpa using q7
    go_wp2_with fail
    go_ret
    exact ⟨by rw [hU.out]; simp [hne], HX.out⟩
  subst q7
  go_wp2_with fail
  go_ret
  exact ⟨by rw [hU.out]; simp, HX.out⟩


theorem r8same_any (m n : Ms) (vd vd' : Value) (w : World) (hm : m.ok) (hn : n.ok) (hvd : Rd .u8 w vd m.data) (hvd' : Rd .u8 w vd' n.data) :
    Calls Tryz.prog 31 #[.agg (m.cells vd), .agg (n.cells vd')] w fun e w' => e = .returned (.bool (msame m n)) ∧ Ext w w' := by
  have hU : Hid (msame m n = ((m.ty == n.ty) && (m.cd == n.cd) && (m.rest == n.rest) && decide (m.data = n.data))) := rfl
  have hq := str_eq9 hm.data hn.data
  clear hm hn
  generalize msame m n = MS at *
  obtain ⟨ty, cd, rest, data⟩ := m
  obtain ⟨ty', cd2, rest', data'⟩ := n
  dsimp only [Ms.cells] at *
  have hx0 : Ext w ((w.alloc (.cells #[.int .u8 ty, .int .u8 cd, .int .u32 rest, vd] 33)).alloc (.cells #[.int .u8 ty', .int .u8 cd2, .int .u32 rest', vd'] 33)) := (Ext.new _ _).al _
  have h1 := run_conv_rd (P := Tryz.prog) (src := 24) (e := 5) (dst := 9) (by kernel_rfl) (by kernel_rfl) (by kernel_rfl) (hvd.ext hx0)
  have h2 := run_conv_rd (P := Tryz.prog) (src := 24) (e := 5) (dst := 9) (by kernel_rfl) (by kernel_rfl) (by kernel_rfl) (hvd'.ext hx0)
  obtain ⟨a, cap, rfl, -, -, -⟩ := hvd
  obtain ⟨a', cap', rfl, -, -, -⟩ := hvd'
  obtain ⟨R, hR⟩ : ∃ R, decide (data = data') = R := ⟨_, rfl⟩
  rw [hR] at hq hU
  go_enter Tryz.func31, Tryz.ntmps31
  by_cases q1 : ty = ty'
  · subst q1
    by_cases q2 : cd = cd2
    · subst q2
      by_cases q3 : rest = rest'
      · subst q3
        go_wp2_with fail
        go_ret
        exact ⟨by rw [hU.out]; simp, hx0⟩
      · have hne : (rest == rest') = false := by simpa using q3
        go_wp2_with fail
        go_ret
        exact ⟨by rw [hU.out]; simp [hne], hx0⟩
    · have hne : (cd == cd2) = false := by simpa using q2
      go_wp2_with fail
      go_ret
      exact ⟨by rw [hU.out]; simp [hne], hx0⟩
  · have hne : (ty == ty') = false := by simpa using q1
    go_wp2_with fail
    go_ret
    exact ⟨by rw [hU.out]; simp [hne], hx0⟩
end Go.Proofs.YtbaidlkjbdeceaaGreat