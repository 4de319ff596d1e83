/-
  Proved here: the closed law SumKnown returns true. No condition.
-/
import Derived.Test.YtlobceldlegnlaaSumWakes
import Derived.Test.YtlobceldlegnlaaPseudo
import Derived.Test.YtlobceldlegnlaaStr
import Derived.Test.YtlobceldlegnlaaOwn2
namespace Go.Proofs.Ytlobceldlegnlaa.sumKnown
open Go.ChangeShapes Go.WideShapes Go.ChangeAt Go.RowKit Go.Cul
set_option linter.unusedVariables false

def longRow (n k : Nat) : List Int := List.replicate k 255 ++ List.replicate (n - k) 0
theorem longRow_len {n k : Nat} (h : k ≤ n) : (longRow n k).length = n := by simp [longRow]; omega
theorem longRow_set {n k : Nat} (h : k < n) : (longRow n k).set k 255 = longRow n (k + 1) := by
  unfold longRow
  rw [List.set_append_right _ _ (by simp), List.length_replicate, Nat.sub_self]
  obtain ⟨m, hm⟩ : ∃ m, n - k = m + 1 := ⟨n - k - 1, by omega⟩
  rw [hm, show n - (k + 1) = m from by omega, List.replicate_succ, List.set_cons_zero, List.replicate_succ' (n := k), List.append_assoc]
  rfl
theorem weigh_rep (m i : Nat) : weigh (2 * i) (List.replicate (2 * m) 255) = m * 65535 := by
  induction m generalizing i with
  | zero => simp [weigh]
  | succ m ih =>
    rw [show 2 * (m + 1) = (2 * m + 1) + 1 from by omega, List.replicate_succ, List.replicate_succ]
    simp only [weigh]
    rw [show 2 * i + 1 + 1 = 2 * (i + 1) from by omega, ih]
    unfold wt
    rw [if_pos (by omega), if_neg (by omega)]
    omega
theorem csum_long {n : Nat} (h : 0 < n) (h2 : n % 2 = 0) : csum (longRow n n) = 65535 := by
  unfold csum longRow
  rw [Nat.sub_self, List.replicate_zero, List.append_nil, show n = 2 * (n / 2) from by omega]
  have := weigh_rep (n / 2) 0
  rw [Nat.mul_zero] at this
  rw [this]
  unfold fold16
  rw [if_neg (by omega)]
  omega
theorem byt_long (n k : Nat) : Byt (longRow n k) := by
  intro x hx
  unfold longRow at hx
  rcases List.mem_append.1 hx with hx | hx <;> (have := List.eq_of_mem_replicate hx; omega)

theorem rds_four {k : IntKind} {w : World} {u1 u2 u3 u4 : Value} {l1 l2 l3 l4 : List Int} {t : TypeId} {B : Nat} (h1 : Rd k w u1 l1) (h2 : Rd k w u2 l2) (h3 : Rd k w u3 l3) (h4 : Rd k w u4 l4) (hB : w.heap.size = B) :
    Rds k (w.alloc (.cells #[u1, u2, u3, u4] t)) (.slice (some ⟨B, 0, none⟩) 4 4) [l1, l2, l3, l4] := by
  subst hB
  refine ⟨_, _, rfl, Nat.le_refl _, by decide, .inr ⟨_, _, rfl, fun i hi => ?_⟩⟩
  have hi : i < 4 := by simpa using hi
  rcases (by omega : i = 0 ∨ i = 1 ∨ i = 2 ∨ i = 3) with rfl | rfl | rfl | rfl
  · exact ⟨u1, by rw [Nat.zero_add, cell_new]; rfl, h1.ext (Ext.new _ _)⟩
  · exact ⟨u2, by rw [Nat.zero_add, cell_new]; rfl, h2.ext (Ext.new _ _)⟩
  · exact ⟨u3, by rw [Nat.zero_add, cell_new]; rfl, h3.ext (Ext.new _ _)⟩
  · exact ⟨u4, by rw [Nat.zero_add, cell_new]; rfl, h4.ext (Ext.new _ _)⟩

theorem walk (w : World) : Calls Try.prog 8 #[] w fun e w' => e = .returned (.bool true) ∧ Ext w w' := by
  obtain ⟨N, hN⟩ : ∃ N : Nat, N = 131072 := ⟨_, rfl⟩
  obtain ⟨w1, hrun, hown, hx1⟩ := run_mk isU8 w w.heap.size .i64 .i64 N (by omega) (by unfold maxLen; omega) (Nat.le_refl _)
  have hrun' : Sem.run Try.prog (Instr.makeSlice 23 (.int .i64 131072) (.int .i64 131072)) w = .ok (.slice (some ⟨w.heap.size, 0, none⟩) N N) w1 := by
    have e : ((N : Nat) : Int) = 131072 := by omega
    rw [← e]; exact hrun
  have hown0 : Own w1 w.heap.size 5 .u8 (.slice (some ⟨w.heap.size, 0, none⟩) N N) (longRow N 0) := by unfold longRow; simpa using hown
  have hNb : N ≤ 131072 := by omega
  have hcs := Lib.hid (csum_long (n := N) (by omega) (by omega))
  have hNl : (longRow N N).length ≤ 131072 := by rw [longRow_len (Nat.le_refl _)]; exact hNb
  have HR := Lib.hid hrun'
  clear hrun hown hN hrun'
  go_enter Try.func8, Try.ntmps8
  have hr := HR.out
  go_wp2_with fail
  clear hr HR
  go_loopw [2] (fun i wr => ∃ k : Nat, k ≤ N ∧ i = .int .i64 k ∧ Own wr w.heap.size 5 .u8 (.slice (some ⟨w.heap.size, 0, none⟩) N N) (longRow N k) ∧ Ext w wr) (fun i _ => N - (intOf i).toNat)
  case atStart => exact ⟨0, Nat.zero_le _, rfl, hown0, hx1⟩
  case round =>
    obtain ⟨k, hk, rfl, hown, hx⟩ := hrel
    have hll := longRow_len hk
    by_cases hlt : k < N
    · obtain ⟨g, cap, hv, hg1, hg2, hcell, hfz, hc1, hc2, hset⟩ := hown.open (by omega)
      simp only [Value.slice.injEq, Option.some.injEq, Addr.mk.injEq] at hv
      obtain ⟨⟨rfl, -, -⟩, -, rfl⟩ := hv
      have h1 := hcell k (by omega)
      have h2 := hfz k
      have h3 := hset 255 k (by omega)
      rw [longRow_set hlt] at h3
      clear hcell hfz hset hown
      have Hll := Lib.hid hll
      clear hll
      go_wp2_with fail
      go_roundw
      case rel => exact ⟨k + 1, by omega, by go_num, h3, Below.setCell hx (by simp) _⟩
      case measure => simp [intOf]; omega
    · obtain rfl : k = N := by omega
      clear hll
      have hrd := hown.rd
      have hby := byt_long k k
      have HB := Lib.hid hby
      clear hown hby hlt
      generalize longRow k k = L at *
      go_wp2_with fail
      refine (sum_lit 0 _ [] _ (rds_nil _ _) (by decide) (by decide) (by decide)).mono ?_
      rintro e w2 ⟨rfl, hx2⟩
      go_wp2_with fail
      refine (field_lit 65535 _ [] _ (rds_nil _ _) (by decide) (by decide) (by decide)).mono ?_
      rintro e w3 ⟨rfl, hx3⟩
      go_wp2_with fail
      refine (right_lit false _ [] _ (rds_nil _ _) (by decide) (by decide) (by decide)).mono ?_
      rintro e w4 ⟨rfl, hx4⟩
      obtain ⟨w5, hr5, hown5, hx5⟩ := run_mk isU8 w4 w4.heap.size .i64 .i64 99 (by omega) (by unfold maxLen; omega) (Nat.le_refl _)
      have hr5' : Sem.run Try.prog (Instr.makeSlice 23 (.int .i64 99) (.int .i64 99)) w4 = .ok (.slice (some ⟨w4.heap.size, 0, none⟩) 99 99) w5 := hr5
      clear hr5
      go_wp2_with fail
      refine (sum_lit 0 _ [List.replicate 99 0] _ ?_ (by decide +kernel) (by decide +kernel) (by decide +kernel)).mono ?_
      · exact rds_one hown5.rd rfl
      rintro e w6 ⟨rfl, hx6⟩
      have hrd6 := ((((((hrd.ext hx2).ext hx3).ext hx4).ext hx5).ext (Ext.new _ _)).ext hx6)
      clear hown5 hr5'
      go_wp2_with fail
      refine (sum_any _ [L] _ ?_ (fun l hl => by rw [List.mem_singleton.1 hl]; exact HB.out) (by simp; omega)).mono ?_
      · exact rds_one hrd6 rfl
      rintro e w7 ⟨rfl, hx7⟩
      rw [show csum [L].flatten = 65535 from by rw [List.flatten_singleton]; exact hcs.out]
      have hrd7 := (hrd6.ext (Ext.new _ _)).ext hx7
      clear hrd6
      go_wp2_with fail
      refine (right_any _ [L] _ ?_ (fun l hl => by rw [List.mem_singleton.1 hl]; exact HB.out) (by simp; omega)).mono ?_
      · exact rds_one hrd7 rfl
      rintro e w8 ⟨rfl, hx8⟩
      rw [show (csum [L].flatten == 65535) = true from by rw [List.flatten_singleton, hcs.out]; rfl]
      clear hrd7 hrd
      go_wp2_with fail
      refine (sum_lit 1026 _ [[1], [], [2], [3]] _ ?_ (by decide) (by decide) (by decide)).mono ?_
      · refine rds_four ?_ (Rd.nil _ _) ?_ ?_ (by simp)
        · exact ((rd_new .u8 w8 #[.int .u8 1] _ [1] rfl rfl rfl rfl (by decide)).ext (Ext.new _ _)).ext (Ext.new _ _)
        · exact (rd_new .u8 _ #[.int .u8 2] _ [2] (by simp) rfl rfl rfl (by decide)).ext (Ext.new _ _)
        · exact rd_new .u8 _ #[.int .u8 3] _ [3] (by simp) rfl rfl rfl (by decide)
      rintro e w9 ⟨rfl, hx9⟩
      go_wp2_with fail
      refine (pseudo_any _ _ _ _ _ (by decide) (by decide) (by decide)).mono ?_
      rintro e w10 ⟨u, rfl, hu, hx10⟩
      have hconv := run_conv_rd (P := Try.prog) Try.underlying23 Try.underlying5 Try.underlying9 hu.rd
      rw [show strOfNums (pseu 16909060 84281096 9 2571) = ⟨#[1, 2, 3, 4, 5, 6, 7, 8, 0, 9, 10, 11]⟩ from by decide +kernel] at hconv
      clear hu
      go_wp2_with fail
      refine (wakes_any _).mono ?_
      rintro e w11 ⟨rfl, hx11⟩
      go_wp2
      go_ret
      have y := hx |>.tr hx2 |>.tr hx3 |>.tr hx4 |>.tr hx5 |>.al _ |>.tr hx6 |>.al _ |>.tr hx7 |>.al _ |>.tr hx8 |>.al _ |>.al _ |>.al _ |>.al _ |>.tr hx9 |>.tr hx10 |>.tr hx11
      exact ⟨rfl, y⟩
end Go.Proofs.Ytlobceldlegnlaa.sumKnown
