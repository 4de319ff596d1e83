/-
  Proved here: the law SumCalls returns true at parts that are together at most 1048576 bytes.
-/
import Derived.Test.YtlobceldlegnlaaSumWakes
import Derived.Test.YtlobceldlegnlaaPseudo
namespace Go.Proofs.Ytlobceldlegnlaa.sumCalls
open Go.ChangeShapes Go.WideShapes Go.ChangeAt Go.RowKit Go.Cul
set_option linter.unusedVariables false

theorem join_any (v : Value) (ls : List (List Int)) (w : World) (hv : Rds .u8 w v ls) (hn : ls.flatten.length ≤ 140737488351232) :
    Calls Try.prog 10 #[v] w fun e w' => ∃ u, e = .returned u ∧ Own w' w.heap.size 5 .u8 u ls.flatten ∧ Ext w w' := by
  obtain ⟨a, cap, rfl, hc1, hc2, hrows⟩ := hv
  have hbn : Hid (∀ k, (ls.take k).flatten.length ≤ ls.flatten.length) := fun k => by
    have e : ls.flatten = (ls.take k).flatten ++ (ls.drop k).flatten := by rw [← List.flatten_append, List.take_append_drop]
    rw [e, List.length_append]; omega
  have Hr := Lib.hid hrows
  clear hrows
  unfold maxLen at hc2
  go_enter Try.func10, Try.ntmps10
  go_wp2_with fail
  go_loopw [3, 4] (fun b i wr => ∃ k : Nat, k ≤ ls.length ∧ i = .int .i64 k ∧ Own wr w.heap.size 5 .u8 b (ls.take k).flatten ∧ Ext w wr) (fun _ i _ => ls.length - (intOf i).toNat)
  case atStart => exact ⟨0, Nat.zero_le _, rfl, Own.nil _ _ _ _, Ext.rfl' w⟩
  case round =>
    obtain ⟨k, hk, rfl, hown, hb⟩ := hrel
    by_cases hlt : k < ls.length
    · rcases Hr.out with h0 | ⟨b, o, rfl, hrw⟩
      · simp [h0] at hlt
      obtain ⟨u, hu, hrd⟩ := hrw k hlt
      have hcu : wr.cell? ⟨b, o + k, none⟩ = some u := hb.cell hu
      have hrd' := hrd.ext hb
      obtain ⟨l, hl⟩ : ∃ l, l = ls.getD k [] := ⟨_, rfl⟩
      rw [← hl] at hrd'
      have htk : (ls.take (k + 1)).flatten = (ls.take k).flatten ++ l := by rw [take_succ_getD' [] ls k hlt, ← hl]; simp
      have hlen := hbn.out (k + 1)
      rw [htk, List.length_append] at hlen
      have Htk := Lib.hid htk
      clear htk hl hrd hrw
      generalize (ls.take k).flatten = p at *
      go_wp2_with (at_builtin; go_must (refine wpList_app isU8 rfl (.tmp 11) (.tmp 15) rfl w.heap.size _ _ rfl hown _ _ rfl hrd' (by omega) (by unfold maxLen; omega) (hb.size) ?_); intro v2 w2 hown2 hg2 hat2)
      have hb2 : Ext w w2 := hown.below hg2 hb hb.size
      clear hg2 hat2
      exact ⟨⟨k + 1, by omega, by go_num, by rw [Htk.out]; exact hown2, hb2⟩, by simp [intOf]; omega⟩
    · have hfin : Hid (ls.take k = ls) := List.take_of_length_le (by omega)
      go_wp2
      go_ret
      exact ⟨_, rfl, by rw [hfin.out] at hown; exact hown, hb⟩

theorem rds_take {k : IntKind} {w : World} {a : Option Addr} {n cap m : Nat} {ls : List (List Int)} (h : Rds k w (.slice a n cap) ls) (hm : m ≤ n) : Rds k w (.slice a m cap) (ls.take m) := by
  obtain ⟨a', cap', he, h1, h2, h3⟩ := h
  cases he
  have hl : (ls.take m).length = m := by rw [List.length_take]; omega
  refine ⟨_, _, by rw [hl], by omega, h2, ?_⟩
  rw [hl]
  rcases h3 with h3 | ⟨b, o, rfl, h3⟩
  · left; simp [h3]
  · right
    refine ⟨b, o, rfl, fun i hi => ?_⟩
    obtain ⟨u, h4, h5⟩ := h3 i (by omega)
    exact ⟨u, h4, by rw [show (ls.take m).getD i [] = ls.getD i [] from by simp [List.getD, hi]]; exact h5⟩

theorem walk (w : World) (v : Value) (ls : List (List Int)) (hv : Rds .u8 w v ls) (hb : ∀ l ∈ ls, Byt l) (hn : ls.flatten.length ≤ 1048576) :
    Calls Try.prog 3 #[v] w fun e w' => e = .returned (.bool true) ∧ Ext w w' := by
  have hn' : ∀ m, (ls.take m).flatten.length ≤ 1048576 := fun m => by
    have e : ls.flatten = (ls.take m).flatten ++ (ls.drop m).flatten := by rw [← List.flatten_append, List.take_append_drop]
    rw [e, List.length_append] at hn; omega
  have hb' : Hid (∀ m, ∀ l ∈ ls.take m, Byt l) := fun m l hl => hb l (List.mem_of_mem_take hl)
  have Hn := Lib.hid hn'
  have hv' := hv
  obtain ⟨a, cap, rfl, hc1, hc2, hrows⟩ := hv'
  have htk : Hid (∀ m, m ≤ ls.length → Rds .u8 w (.slice a m cap) (ls.take m)) := fun m hm => rds_take hv hm
  clear hrows hb hn hn' hv
  unfold maxLen at hc2
  by_cases h60 : ls.length < 60
  · go_enter Try.func3, Try.ntmps3
    go_wp2_with fail
    have r0 := htk.out (ls.length) (by omega)
    have hlen := Hn.out (ls.length)
    have hbb := Lib.hid (hb'.out (ls.length))
    clear htk hb' Hn
    generalize hL : ls.take (ls.length) = L at *
    have HL := Lib.hid hL
    clear hL
    have hfb : Hid (Byt L.flatten) := fun x hx => by
      obtain ⟨l, hl, hx⟩ := List.mem_flatten.1 hx
      exact hbb.out l hl x hx
    refine (join_any _ _ _ r0 (by omega)).mono ?_
    rintro e w1 ⟨u, rfl, hown, hx1⟩
    have r1 := r0.ext hx1
    have R0 := Lib.hid r0
    clear r0
    go_wp2_with fail
    refine (sum_any _ _ _ r1 hbb.out (by omega)).mono ?_
    rintro e w2 ⟨rfl, hx2⟩
    go_wp2_with fail
    refine (rsum_any _ _ _ (hown.rd.ext hx2) hfb.out (by omega)).mono ?_
    rintro e w' ⟨rfl, rfl⟩
    go_wp2_with fail
    refine (field_any _ _ _ (r1.ext hx2) hbb.out (by omega)).mono ?_
    rintro e w3 ⟨rfl, hx3⟩
    go_wp2_with fail
    refine (rfield_any _ _ _ ((hown.rd.ext hx2).ext hx3) hfb.out (by omega)).mono ?_
    rintro e w' ⟨rfl, rfl⟩
    go_wp2_with fail
    refine (right_any _ _ _ ((r1.ext hx2).ext hx3) hbb.out (by omega)).mono ?_
    rintro e w4 ⟨rfl, hx4⟩
    go_wp2_with fail
    refine (rsum_any _ _ _ (((hown.rd.ext hx2).ext hx3).ext hx4) hfb.out (by omega)).mono ?_
    rintro e w' ⟨rfl, rfl⟩
    go_wp2_with fail
    refine (wakes_any _).mono ?_
    rintro e w5 ⟨rfl, hx5⟩
    go_wp2
    go_ret
    exact ⟨rfl, ((((hx1.tr hx2).tr hx3).tr hx4).tr hx5)⟩
  · obtain ⟨n, hn⟩ : ∃ n, n = ls.length := ⟨_, rfl⟩
    by_cases h61 : ls.length = 60
    · rw [h61] at *
      go_enter Try.func3, Try.ntmps3
      go_wp2_with fail
      have r0 := htk.out (60) (by omega)
      have hlen := Hn.out (60)
      have hbb := Lib.hid (hb'.out (60))
      clear htk hb' Hn
      generalize hL : ls.take (60) = L at *
      have HL := Lib.hid hL
      clear hL
      have hfb : Hid (Byt L.flatten) := fun x hx => by
        obtain ⟨l, hl, hx⟩ := List.mem_flatten.1 hx
        exact hbb.out l hl x hx
      refine (join_any _ _ _ r0 (by omega)).mono ?_
      rintro e w1 ⟨u, rfl, hown, hx1⟩
      have r1 := r0.ext hx1
      have R0 := Lib.hid r0
      clear r0
      go_wp2_with fail
      refine (sum_any _ _ _ r1 hbb.out (by omega)).mono ?_
      rintro e w2 ⟨rfl, hx2⟩
      go_wp2_with fail
      refine (rsum_any _ _ _ (hown.rd.ext hx2) hfb.out (by omega)).mono ?_
      rintro e w' ⟨rfl, rfl⟩
      go_wp2_with fail
      refine (field_any _ _ _ (r1.ext hx2) hbb.out (by omega)).mono ?_
      rintro e w3 ⟨rfl, hx3⟩
      go_wp2_with fail
      refine (rfield_any _ _ _ ((hown.rd.ext hx2).ext hx3) hfb.out (by omega)).mono ?_
      rintro e w' ⟨rfl, rfl⟩
      go_wp2_with fail
      refine (right_any _ _ _ ((r1.ext hx2).ext hx3) hbb.out (by omega)).mono ?_
      rintro e w4 ⟨rfl, hx4⟩
      go_wp2_with fail
      refine (rsum_any _ _ _ (((hown.rd.ext hx2).ext hx3).ext hx4) hfb.out (by omega)).mono ?_
      rintro e w' ⟨rfl, rfl⟩
      go_wp2_with fail
      refine (wakes_any _).mono ?_
      rintro e w5 ⟨rfl, hx5⟩
      go_wp2
      go_ret
      exact ⟨rfl, ((((hx1.tr hx2).tr hx3).tr hx4).tr hx5)⟩
    · have h62 : 60 < ls.length := by omega
      clear h60 h61
      go_enter Try.func3, Try.ntmps3
      go_wp2_with fail
      have r0 := htk.out (60) (by omega)
      have hlen := Hn.out (60)
      have hbb := Lib.hid (hb'.out (60))
      clear htk hb' Hn
      generalize hL : ls.take (60) = L at *
      have HL := Lib.hid hL
      clear hL
      have hfb : Hid (Byt L.flatten) := fun x hx => by
        obtain ⟨l, hl, hx⟩ := List.mem_flatten.1 hx
        exact hbb.out l hl x hx
      refine (join_any _ _ _ r0 (by omega)).mono ?_
      rintro e w1 ⟨u, rfl, hown, hx1⟩
      have r1 := r0.ext hx1
      have R0 := Lib.hid r0
      clear r0
      go_wp2_with fail
      refine (sum_any _ _ _ r1 hbb.out (by omega)).mono ?_
      rintro e w2 ⟨rfl, hx2⟩
      go_wp2_with fail
      refine (rsum_any _ _ _ (hown.rd.ext hx2) hfb.out (by omega)).mono ?_
      rintro e w' ⟨rfl, rfl⟩
      go_wp2_with fail
      refine (field_any _ _ _ (r1.ext hx2) hbb.out (by omega)).mono ?_
      rintro e w3 ⟨rfl, hx3⟩
      go_wp2_with fail
      refine (rfield_any _ _ _ ((hown.rd.ext hx2).ext hx3) hfb.out (by omega)).mono ?_
      rintro e w' ⟨rfl, rfl⟩
      go_wp2_with fail
      refine (right_any _ _ _ ((r1.ext hx2).ext hx3) hbb.out (by omega)).mono ?_
      rintro e w4 ⟨rfl, hx4⟩
      go_wp2_with fail
      refine (rsum_any _ _ _ (((hown.rd.ext hx2).ext hx3).ext hx4) hfb.out (by omega)).mono ?_
      rintro e w' ⟨rfl, rfl⟩
      go_wp2_with fail
      refine (wakes_any _).mono ?_
      rintro e w5 ⟨rfl, hx5⟩
      go_wp2
      go_ret
      exact ⟨rfl, ((((hx1.tr hx2).tr hx3).tr hx4).tr hx5)⟩
end Go.Proofs.Ytlobceldlegnlaa.sumCalls
