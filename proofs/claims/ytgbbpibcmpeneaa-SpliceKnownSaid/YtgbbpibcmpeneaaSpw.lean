/-
  Proved here: culvertlaw26's wakes returns true. Also: what from leaves of a splice is within its kinds.
-/
import Derived.Test.YtgbbpibcmpeneaaSpe
import Derived.Test.YtgbbpibcmpeneaaSpj
namespace Go.Proofs.Ytgbbpibcmpeneaa
set_option maxRecDepth 200000
open Go.ChangeShapes Go.WideShapes Go.ChangeAt Go.RowKit Go.Cul Go.Loose
set_option linter.unusedVariables false

theorem put_ok {x : Sp} (h : x.ok) (k : Bool) {e : En} (he : e.ok) : (x.put k e).ok := by
  cases k
  · exact ⟨he, h.s, h.md⟩
  · exact ⟨h.c, he, h.md⟩
theorem frM_ok {x : Sp} (h : x.ok) (k : Bool) {g : Sg} (hg : g.ok) : (frM x k g).1.ok := by
  unfold frM
  split
  · exact h
  · split
    · exact h
    · split
      · exact h
      · split
        · exact ⟨h.c, h.s, h.md⟩
        · exact put_ok h k (knows_ok (h.at k) hg (by unfold frBh; omega))

def wg (q a f : Int) : Sg := ⟨0, 0, q, a, f, 0, 0, [], []⟩
theorem wg_ok {q a f : Int} (hq : 0 ≤ q ∧ q ≤ 4294967295) (ha : 0 ≤ a ∧ a ≤ 4294967295) (hf : 0 ≤ f ∧ f ≤ 255) : (wg q a f).ok := ⟨(show (0 : Int) ≤ 0 ∧ (0 : Int) ≤ 65535 by decide), (show (0 : Int) ≤ 0 ∧ (0 : Int) ≤ 65535 by decide), hq, ha, hf, (show (0 : Int) ≤ 0 ∧ (0 : Int) ≤ 65535 by decide), (show (0 : Int) ≤ 0 ∧ (0 : Int) ≤ 65535 by decide), (fun o h => by cases h), (fun o h => by cases h)⟩
def wS0 : Sp := lgK.sp
def wS1 : Sp := (frM wS0 false (wg 511 101 16)).1
def wS2 : Sp := (frM wS1 true (wg 701 911 16)).1
def wS3 : Sp := (frM wS2 false (wg 500 0 2)).1
def wS4 : Sp := (frM wS3 false (wg 300 0 4)).1
def wS5 : Sp := (frM wS4 false (wg 511 0 4)).1
theorem w1 : frM wS0 false (wg 511 101 16) = (wS1, [⟨6, 7, 911, 701, 16, 0, 0, [], []⟩], [], 0) := by kernel_rfl
theorem w2 : frM wS1 true (wg 701 911 16) = (wS2, [⟨443, 5, 101, 511, 16, 0, 0, [], []⟩], [], 0) := by kernel_rfl
theorem w3 : frM wS2 false (wg 500 0 2) = (wS3, [], [⟨443, 5, 101, 511, 16, 0, 0, [], []⟩], 0) := by kernel_rfl
theorem w4 : frM wS3 false (wg 300 0 4) = (wS4, [], [], 1) := by kernel_rfl
theorem w5 : frM wS4 false (wg 511 0 4) = (wS5, [⟨6, 7, 911, 0, 4, 0, 0, [], []⟩], [], 0) := by kernel_rfl
theorem wS0_ok : wS0.ok := Lg.sp_ok lgK_ok lgK_err
theorem wS1_ok : wS1.ok := frM_ok wS0_ok _ (wg_ok (by decide) (by decide) (by decide))
theorem wS2_ok : wS2.ok := frM_ok wS1_ok _ (wg_ok (by decide) (by decide) (by decide))
theorem wS3_ok : wS3.ok := frM_ok wS2_ok _ (wg_ok (by decide) (by decide) (by decide))
theorem wS4_ok : wS4.ok := frM_ok wS3_ok _ (wg_ok (by decide) (by decide) (by decide))
theorem wS5_ok : wS5.ok := frM_ok wS4_ok _ (wg_ok (by decide) (by decide) (by decide))
theorem wS5_state : wS5.state = 2 := by kernel_rfl

/-- A call from an end of a segment without options and data. -/
theorem fromc_lit {x y : Sp} {g : Sg} {U V : List Sg} {E : Int} (he : frM x false g = (y, U, V, E)) (b : Nat) (w : World) (hx : x.ok) (hg : g.ok) (h : SpAt w b x) (ho : g.os = []) (hd : g.data = []) :
    Calls Try.prog 11 #[spp b, .agg (g.cells nos nos)] w fun e w' => ∃ a1 c1 a2 c2, e = .returned (.tuple #[.slice a1 U.length c1, .slice a2 V.length c2, .int .i64 E]) ∧ FrS w' w.heap.size (.slice a1 U.length c1) U ∧ FrS w' w.heap.size (.slice a2 V.length c2) V ∧ SpAt w' b y ∧ Mvs (fun j => j = b) w w' := by
  have := fromc_any b x g nos nos w hx hg h (by rw [ho]; exact RdO.nil _) (by rw [hd]; exact Rd.nil _ _) (by rw [ho]; simp) (by rw [ho]; intro o h; cases h) (by rw [hd]; simp)
  rw [he] at this
  refine this.mono ?_
  rintro e w' ⟨u, v, rfl, h1, h2, h3, h4⟩
  obtain ⟨a1, c1, rfl, -⟩ := h1.shape
  obtain ⟨a2, c2, rfl, -⟩ := h2.shape
  exact ⟨a1, c1, a2, c2, rfl, h1, h2, h3, h4⟩
theorem froms_lit {x y : Sp} {g : Sg} {U V : List Sg} {E : Int} (he : frM x true g = (y, U, V, E)) (b : Nat) (w : World) (hx : x.ok) (hg : g.ok) (h : SpAt w b x) (ho : g.os = []) (hd : g.data = []) :
    Calls Try.prog 12 #[spp b, .agg (g.cells nos nos)] w fun e w' => ∃ a1 c1 a2 c2, e = .returned (.tuple #[.slice a1 U.length c1, .slice a2 V.length c2, .int .i64 E]) ∧ FrS w' w.heap.size (.slice a1 U.length c1) U ∧ FrS w' w.heap.size (.slice a2 V.length c2) V ∧ SpAt w' b y ∧ Mvs (fun j => j = b) w w' := by
  have := froms_any b x g nos nos w hx hg h (by rw [ho]; exact RdO.nil _) (by rw [hd]; exact Rd.nil _ _) (by rw [ho]; simp) (by rw [ho]; intro o h; cases h) (by rw [hd]; simp)
  rw [he] at this
  refine this.mono ?_
  rintro e w' ⟨u, v, rfl, h1, h2, h3, h4⟩
  obtain ⟨a1, c1, rfl, -⟩ := h1.shape
  obtain ⟨a2, c2, rfl, -⟩ := h2.shape
  exact ⟨a1, c1, a2, c2, rfl, h1, h2, h3, h4⟩

set_option maxHeartbeats 4000000 in
set_option maxRecDepth 200000 in
theorem wakes26_any (w : World) : Calls Try.prog 9 #[] w fun e w' => e = .returned (.bool true) ∧ Ext w w' := by
  go_enter Try.func9, Try.ntmps9
  go_wp2_with fail
  refine (legs_any _).mono ?_
  rintro e v0 ⟨rfl, hx0⟩
  go_wp2_with fail
  refine (joined_any lgK _ lgK_ok).mono ?_
  rintro e v1 ⟨hx1, h | h⟩
  · exact absurd h.1 (by rw [lgK_err]; decide)
  obtain ⟨-, bb, rfl, hbb, hB⟩ := h
  have hwb : w.heap.size ≤ bb := Nat.le_trans hx0.size hbb
  have hx : Ext w v1 := hx0.tr hx1
  have hB1 : SpAt v1 bb wS0 := hB
  have hlb1 := lt_of_block hB1
  clear hx0 hx1 hbb hB
  go_wp2_with fail
  refine (fromc_lit w1 bb v1 wS0_ok (wg_ok (by decide) (by decide) (by decide)) hB1 rfl rfl).mono ?_
  rintro e v2 ⟨a1, c1, d1, k1, rfl, f1, t1, hB2, m1⟩
  have hx := m1.ext hx (fun k hk => by omega)
  have hlb2 := lt_of_block hB2
  simp only [List.length_cons, List.length_nil, Nat.zero_add] at f1 t1 ⊢
  clear hB1 m1
  go_wp2_with fail
  refine (froms_lit w2 bb v2 wS1_ok (wg_ok (by decide) (by decide) (by decide)) hB2 rfl rfl).mono ?_
  rintro e v3 ⟨a2, c2, d2, k2, rfl, f2, t2, hB3, m2⟩
  have hx := m2.ext hx (fun k hk => by omega)
  have hlb3 := lt_of_block hB3
  simp only [List.length_cons, List.length_nil, Nat.zero_add] at f2 t2 ⊢
  have f1 := f1.keep (Keep.ofMvs m2 (fun k hk => by omega))
  have t1 := t1.keep (Keep.ofMvs m2 (fun k hk => by omega))
  clear hB2 m2
  go_wp2_with fail
  refine (fromc_lit w3 bb v3 wS2_ok (wg_ok (by decide) (by decide) (by decide)) hB3 rfl rfl).mono ?_
  rintro e v4 ⟨a3, c3, d3, k3, rfl, f3, t3, hB4, m3⟩
  have hx := m3.ext hx (fun k hk => by omega)
  have hlb4 := lt_of_block hB4
  simp only [List.length_cons, List.length_nil, Nat.zero_add] at f3 t3 ⊢
  have f1 := f1.keep (Keep.ofMvs m3 (fun k hk => by omega))
  have t1 := t1.keep (Keep.ofMvs m3 (fun k hk => by omega))
  have f2 := f2.keep (Keep.ofMvs m3 (fun k hk => by omega))
  have t2 := t2.keep (Keep.ofMvs m3 (fun k hk => by omega))
  clear hB3 m3
  go_wp2_with fail
  refine (fromc_lit w4 bb v4 wS3_ok (wg_ok (by decide) (by decide) (by decide)) hB4 rfl rfl).mono ?_
  rintro e v5 ⟨a4, c4, d4, k4, rfl, f4, t4, hB5, m4⟩
  have hx := m4.ext hx (fun k hk => by omega)
  have hlb5 := lt_of_block hB5
  simp only [List.length_nil] at f4 t4 ⊢
  have f1 := f1.keep (Keep.ofMvs m4 (fun k hk => by omega))
  have t1 := t1.keep (Keep.ofMvs m4 (fun k hk => by omega))
  have f2 := f2.keep (Keep.ofMvs m4 (fun k hk => by omega))
  have t2 := t2.keep (Keep.ofMvs m4 (fun k hk => by omega))
  have f3 := f3.keep (Keep.ofMvs m4 (fun k hk => by omega))
  have t3 := t3.keep (Keep.ofMvs m4 (fun k hk => by omega))
  clear hB4 m4
  go_wp2_with fail
  refine (fromc_lit w5 bb v5 wS4_ok (wg_ok (by decide) (by decide) (by decide)) hB5 rfl rfl).mono ?_
  rintro e v6 ⟨a5, c5, d5, k5, rfl, f5, t5, hB6, m5⟩
  have hx := m5.ext hx (fun k hk => by omega)
  have hlb6 := lt_of_block hB6
  simp only [List.length_cons, List.length_nil, Nat.zero_add] at f5 t5 ⊢
  have f1 := f1.keep (Keep.ofMvs m5 (fun k hk => by omega))
  have t1 := t1.keep (Keep.ofMvs m5 (fun k hk => by omega))
  have f2 := f2.keep (Keep.ofMvs m5 (fun k hk => by omega))
  have t2 := t2.keep (Keep.ofMvs m5 (fun k hk => by omega))
  have f3 := f3.keep (Keep.ofMvs m5 (fun k hk => by omega))
  have t3 := t3.keep (Keep.ofMvs m5 (fun k hk => by omega))
  have f4 := f4.keep (Keep.ofMvs m5 (fun k hk => by omega))
  have t4 := t4.keep (Keep.ofMvs m5 (fun k hk => by omega))
  clear hB5 m5
  obtain ⟨g1, _, _, _, he1, -, q1, -, -⟩ := f1.at (i := 0) (by decide)
  obtain ⟨g2, _, _, _, he2, -, q2, -, -⟩ := f2.at (i := 0) (by decide)
  obtain ⟨g3, _, _, _, he3, -, q3, -, -⟩ := t3.at (i := 0) (by decide)
  obtain ⟨g5, _, _, _, he5, -, q5, -, -⟩ := f5.at (i := 0) (by decide)
  cases he1
  cases he2
  cases he3
  cases he5
  have y12 := q1 2 (by decide)
  have y13 := q1 3 (by decide)
  have y22 := q2 2 (by decide)
  have y23 := q2 3 (by decide)
  have y32 := q3 2 (by decide)
  have y33 := q3 3 (by decide)
  have y52 := q5 2 (by decide)
  simp at y12 y13 y22 y23 y32 y33 y52
  have hst := Lib.hid (sstate_any bb wS5 v6 hB6 wS5_ok)
  rw [wS5_state] at hst
  have HX := Lib.hid hx
  clear f1 f2 f3 f4 f5 t1 t2 t3 t4 t5 q1 q2 q3 q5 hB6 hx
  go_wp2_with fail
  refine hst.out.mono ?_
  rintro e v7 ⟨rfl, hx7⟩
  go_wp2_with fail
  go_ret
  exact ⟨rfl, HX.out.tr hx7⟩
end Go.Proofs.Ytgbbpibcmpeneaa
