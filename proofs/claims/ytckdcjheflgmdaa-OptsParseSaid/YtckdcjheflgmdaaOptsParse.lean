/-
  Proved here: the law OptsParse returns true. Condition: each slice at most 2^47 - 4096 bytes (the form's own reach).
-/
import Derived.Test.YtckdcjheflgmdaaOptA
import Derived.Test.YtckdcjheflgmdaaRef5
import Derived.Deep.Cut
namespace Go.Proofs.Ytckdcjheflgmdaa.optsParse
set_option maxRecDepth 16000
open Go.ChangeShapes Go.WideShapes Go.ChangeAt Go.RowKit Go.Cul Go.Loose
set_option linter.unusedVariables false
attribute [local go_sem] Loose.Still Loose.Upon Loose.vUpon

/-- A slice of bytes, whatever they are, in memory behind base. -/
def RawD (base : Nat) (w : World) (u : Value) : Prop :=
  (∃ a c, u = .slice a 0 c) ∨ ∃ g n cap cur, u = .slice (some ⟨g, 0, none⟩) n cap ∧ base ≤ g ∧ w.heap[g]? = some (.cells cur 5) ∧ n ≤ cap ∧ cap ≤ maxLen ∧ cur.size = cap ∧ ∀ j, j < n → ∃ x, cur[j]? = some (.int .u8 x)
theorem RawD.of {base : Nat} {w : World} {u : Value} {l : List Int} (h : Fr w base 5 .u8 u l) : RawD base w u := by
  rcases h with h | ⟨a, rfl, rfl⟩
  · rcases h.2 with ⟨rfl, h0⟩ | ⟨g, cap, cur, rfl, hb, hh, hn, hm, hsz, htk⟩
    · exact .inl ⟨_, _, rfl⟩
    · refine .inr ⟨g, _, cap, cur, rfl, hb, hh, hn, hm, by omega, fun j hj => ?_⟩
      have h1 : (l.map (Value.int .u8))[j]? = some (.int .u8 l[j]) := by simp [hj]
      rw [← htk, List.getElem?_take, if_pos (by omega)] at h1
      exact ⟨_, by simpa using h1⟩
  · exact .inl ⟨_, _, rfl⟩
theorem RawD.shape {base : Nat} {w : World} {u : Value} (h : RawD base w u) : ∃ a n c, u = .slice a n c ∧ n ≤ 9223372036854775807 := by
  rcases h with ⟨a, c, rfl⟩ | ⟨g, n, cap, cur, rfl, -, -, hn, hm, -⟩
  · exact ⟨_, _, _, rfl, by omega⟩
  · exact ⟨_, _, _, rfl, by unfold maxLen at hm; omega⟩
theorem RawD.stored {base : Nat} {w : World} {u : Value} (h : RawD base w u) (g j : Nat) (y : Int) : RawD base (w.setCell ⟨g, j, none⟩ (.int .u8 y)) u := by
  rcases h with h | ⟨g', n, cap, cur, rfl, hb, hh, hn, hm, hsz, hx⟩
  · exact .inl h
  · by_cases hg : g' = g
    · subst hg
      refine .inr ⟨g', n, cap, cur.setIfInBounds j (.int .u8 y), rfl, hb, set_blk hh _ _, hn, hm, by simpa using hsz, fun i hi => ?_⟩
      obtain ⟨x, hx⟩ := hx i hi
      rw [Array.getElem?_setIfInBounds]
      split
      · rename_i he
        subst he
        have : j < cur.size := by omega
        exact ⟨y, by simp [this]⟩
      · exact ⟨x, hx⟩
    · exact .inr ⟨g', n, cap, cur, rfl, hb, set_oth hh hg _ _, hn, hm, hsz, hx⟩

theorem types_ne : (5 : TypeId) ≠ 31 := by decide

/-- What the loops keep: the row of options as it was, bytes in its data, and only new memory turned. -/
def Inv (base : Nat) (v : Value) (xs : List (Op1 × Value)) (w0 w : World) : Prop :=
  (∀ x ∈ xs, RawD base w x.2) ∧ w.ownsRow base 31 2 v xs.length (rowsO xs) ∧ Mvs (fun b => base ≤ b) w0 w
theorem Inv.at {base : Nat} {v : Value} {xs : List (Op1 × Value)} {w0 w : World} (h : Inv base v xs w0 w) {i : Nat} (hi : i < xs.length) :
    ∃ g cap, v = .slice (some ⟨g, 0, none⟩) xs.length cap ∧ xs.length ≤ cap ∧ w.cell? ⟨g, i * 2 + 1, none⟩ = some (xs.getD i ((0, []), undef)).2 ∧ RawD base w (xs.getD i ((0, []), undef)).2 := by
  obtain ⟨h1, h2, h3⟩ := h
  rcases h2.2 with ⟨rfl, h0⟩ | ⟨g, cap, cur, rfl, hb, hh, hn, hm, hsz, htk⟩
  · omega
  · obtain ⟨c0, c1⟩ := rowsO_at xs i hi
    have hget : ∀ j, j < xs.length * 2 → w.cell? ⟨g, j, none⟩ = (rowsO xs)[j]? := fun j hj => by
      rw [cell_of_row w g j cur _ (0, 0) hh, ← htk, List.getElem?_take, if_pos hj]
      simp
    exact ⟨g, cap, rfl, hn, by rw [hget _ (by omega), c1], h1 _ (by simp [List.getD, hi])⟩
theorem Inv.stored {base : Nat} {v : Value} {xs : List (Op1 × Value)} {w0 w : World} (h : Inv base v xs w0 w) {g : Nat} {cur : Array Value} (hg : w.heap[g]? = some (.cells cur 5)) (hb : base ≤ g) (j : Nat) (y : Int) :
    Inv base v xs w0 (w.setCell ⟨g, j, none⟩ (.int .u8 y)) := by
  obtain ⟨h1, h2, h3⟩ := h
  refine ⟨fun x hx => (h1 x hx).stored g j y, ⟨h2.1, ?_⟩, h3.tr (Mvs.set _ _ _ hb)⟩
  rcases h2.2 with h0 | ⟨g', cap, cur', rfl, hb', hh, r⟩
  · exact .inl h0
  · refine .inr ⟨g', cap, cur', rfl, hb', set_oth hh (fun he => ?_) _ _, r⟩
    subst he
    rw [hg] at hh
    simp only [Option.some.injEq, Obj.cells.injEq] at hh
    exact types_ne hh.2.1

set_option maxHeartbeats 1000000 in
theorem walk (w : World) (v : Value) (l : List Int) (hv : Rd .u8 w v l) (hb : Byt l) (hn : l.length * 1 ≤ 140737488351232) :
    Calls Try.prog 3 #[v] w fun e w' => e = .returned (.bool true) ∧ Ext w w' := by
  obtain ⟨a, cap, rfl, hc1, hc2, hrr⟩ := hv
  have hv : Rd .u8 w (.slice a l.length cap) l := ⟨a, cap, rfl, hc1, hc2, hrr⟩
  obtain ⟨m, hm⟩ : ∃ m : Nat, m = min l.length 60 := ⟨_, rfl⟩
  have hml : m ≤ l.length := by omega
  have hm16 : m ≤ 60 := by omega
  have hv1 := hv.take hml
  have hmin : (if (60 : Int) < (l.length : Int) then (60 : Int) else (l.length : Int)) = (m : Int) := by split <;> omega
  have hLl : (l.take m).length = m := by rw [List.length_take]; omega
  have HB1 := Lib.hid (hb.take m)
  have hL60 : (l.take m).length ≤ 60 := by omega
  have HL60 := Lib.hid hL60
  have HV := Lib.hid hv1
  have hmc : m ≤ cap := by omega
  unfold maxLen at hc2
  clear hrr hb hv hm hLl hL60
  generalize l.take m = L at *
  go_enter Try.func3, Try.ntmps3
  go_wp2_with (at_builtin; go_must (refine wpList_app_fr isU8 rfl (.tmp 16) (.tmp 17) rfl w.heap.size _ [] rfl (.inr ⟨_, rfl, rfl⟩) _ L rfl (hv1.ext (Ext.new _ _)) (by have := HL60.out; simp; omega) (by have := HL60.out; simp [maxLen]; omega) (by simp) ?_); intro v1 w1 hfr1 hown1 hb1)
  rw [List.nil_append] at hfr1
  have hx1 : Ext w w1 := Below.trans (Ext.new w _) hb1
  have hv2 := hv1.ext hx1
  obtain ⟨a1, n1, c1, rfl⟩ := hfr1.rd.shape
  clear hown1 hb1 hv1
  obtain ⟨os, E, hE⟩ : ∃ os E, opar L = (os, E) := ⟨_, _, rfl⟩
  have hob := opar_byt (l := L) HB1.out
  have HP := Lib.hid (oparse_lit L os E hE _ w1 hfr1.rd HB1.out (by have := HL60.out; omega))
  have hq := fun (w' : World) (hx : Ext w1 w') => r5parse_any _ L w' (hv2.ext hx) HB1.out (by have := HL60.out; omega)
  rw [hE] at hob hq
  have HQ := Lib.hid hq
  have HOB := Lib.hid hob
  have HFR := Lib.hid hfr1
  clear hE hob hq hfr1
  go_wp2_with fail
  refine HP.out.mono ?_
  rintro e w2 ⟨u2, rfl, hf2, hx2⟩
  have ho2 := hf2.rdo
  obtain ⟨a2, c2, rfl, hc3, hc4, -⟩ := id ho2
  unfold maxLen at hc4
  go_wp2_with fail
  refine (HQ.out _ hx2).mono ?_
  rintro e w3 ⟨u3, rfl, hf3, hx3⟩
  obtain ⟨a3, c3, rfl⟩ := hf3.rdo.shape
  have HS := Lib.hid (r5same_any _ _ os os w3 (ho2.ext hx3) hf3.rdo HOB.out HOB.out)
  rw [show decide (os = os) = true from decide_eq_true rfl] at HS
  clear hf3 HQ HP
  go_wp2_with fail
  refine HS.out.mono ?_
  rintro e w4 ⟨rfl, hx4⟩
  have hf4 := hf2.keep (Keep.ofExt (hx3.tr hx4))
  have hx14 := hx2.tr (hx3.tr hx4)
  clear HS ho2 hf2 hx3 hx4 hx2
  obtain ⟨xs, hxs, hrow, hdat⟩ := hf4
  have hn2 : xs.length = os.length := by rw [← hxs, List.length_map]
  have hI : Inv w1.heap.size (.slice a2 os.length c2) xs w4 w4 := ⟨fun x hx => RawD.of (hdat x hx), hrow, Mvs.refl _ _⟩
  clear hrow hdat hxs
  go_wp2_with fail
  go_loopw [39] (fun i wr => ∃ k : Nat, k ≤ os.length ∧ i = .int .i64 k ∧ Inv w1.heap.size (.slice a2 os.length c2) xs w4 wr) (fun i _ => os.length - (intOf i).toNat)
  case atStart => exact ⟨0, Nat.zero_le _, rfl, hI⟩
  case round =>
    obtain ⟨k, hk, rfl, hI⟩ := hrel
    by_cases hlt : k < os.length
    · obtain ⟨g, cap', he, hcp, hcell, hraw⟩ := hI.at (i := k) (by omega)
      rw [hn2] at he hcp
      cases he
      obtain ⟨au, nu, cu, hu, hnum⟩ := hraw.shape
      have HU := Lib.hid hu
      rw [hu] at hcell hraw
      have hII := Lib.hid hI
      clear hI hu hraw
      go_wp2_with fail
      go_loopw [48] (fun i wq => ∃ j : Nat, j ≤ nu ∧ i = .int .i64 j ∧ Inv w1.heap.size (.slice (some ⟨g, 0, none⟩) os.length c2) xs w4 wq) (fun i _ => nu - (intOf i).toNat)
      case atStart => exact ⟨0, Nat.zero_le _, rfl, hII.out⟩
      case round =>
        obtain ⟨j, hj, rfl, hI⟩ := hrel
        by_cases hlt2 : j < nu
        · obtain ⟨g', cap', he, hcp', hcell, hraw⟩ := hI.at (i := k) (by omega)
          rw [hn2] at he hcp'
          cases he
          rw [HU.out] at hcell hraw
          rcases hraw with ⟨a', c', he⟩ | ⟨gd, n', cap', cur, he, hb, hh, hn', hm', hsz, hx⟩
          · cases he; omega
          cases he
          obtain ⟨x, hx⟩ := hx j hlt2
          have cx := cell_blk hh j
          rw [hx] at cx
          have hz := fz_blk hh
          have hI2 := fun y => hI.stored hh hb j y
          have HI2 := Lib.hid hI2
          clear hI2 hI hx hh
          go_wp2_with fail
          go_roundw
          case rel => exact ⟨j + 1, by omega, by go_num, HI2.out _⟩
          case measure => simp [intOf]; omega
        · obtain rfl : j = nu := by omega
          have HI := Lib.hid hI
          clear hI
          go_wp2_with fail
          go_roundw
          case rel => exact ⟨k + 1, by omega, by go_num, HI.out⟩
          case measure => simp [intOf]; omega
    · obtain rfl : k = os.length := by omega
      have hm := hI.2.2
      have hxe : Ext w1 _ := hm.ext hx14 (fun b hb => hb)
      have hx0 := hx1.tr hxe
      have hA := Lib.hid (HFR.out.rd.ext hxe)
      have hB := Lib.hid (HV.out.ext hx0)
      clear hI hm
      go_wp2_with fail
      refine (awake5_any _).mono ?_
      rintro e w5 ⟨rfl, hx5⟩
      have HE := Lib.hid (beq_any _ _ L L w5 (hA.out.ext hx5) (hB.out.ext hx5) HB1.out HB1.out)
      rw [show decide (L = L) = true from decide_eq_true rfl] at HE
      go_wp2_with fail
      refine HE.out.mono ?_
      rintro e w6 ⟨rfl, hx6⟩
      go_wp2_with fail
      go_ret
      exact ⟨rfl, hx0.tr (hx5.tr hx6)⟩
end Go.Proofs.Ytckdcjheflgmdaa.optsParse
