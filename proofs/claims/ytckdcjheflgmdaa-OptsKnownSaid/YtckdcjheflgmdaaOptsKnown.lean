/-
  Proved here: the law OptsKnown (closed) returns true. PRINTED BY tools/genok.py.
-/
import Derived.Test.YtckdcjheflgmdaaOptW
import Derived.Deep.Cut
namespace Go.Proofs.Ytckdcjheflgmdaa.optsKnown
set_option maxRecDepth 16000
open Go.ChangeShapes Go.WideShapes Go.ChangeAt Go.RowKit Go.Cul Go.Loose
set_option linter.unusedVariables false

theorem rdo_2 {w : World} {b : Nat} {k k' : Int} {u u' : Value} {l l' : List Int} {t : TypeId} (hb : w.heap[b]? = some (.cells #[.int .u8 k, u, .int .u8 k', u'] t)) (hu : Rd .u8 w u l) (hu' : Rd .u8 w u' l') : RdO w (.slice (some ⟨b, 0, none⟩) 2 2) [(k, l), (k', l')] := by
  refine ⟨_, 2, rfl, by simp, by decide, .inr ⟨b, 0, rfl, fun i hi => ?_⟩⟩
  rcases (show i = 0 ∨ i = 1 by simp at hi; omega) with rfl | rfl
  · exact ⟨u, by rw [cell_blk hb]; rfl, by rw [cell_blk hb]; rfl, hu⟩
  · exact ⟨u', by rw [cell_blk hb]; rfl, by rw [cell_blk hb]; rfl, hu'⟩

theorem byto_2 {k k' : Int} {l l' : List Int} (hk : 0 ≤ k ∧ k ≤ 255) (hl : Byt l) (hk' : 0 ≤ k' ∧ k' ≤ 255) (hl' : Byt l') : BytO [(k, l), (k', l')] := fun o ho => by
  simp only [List.mem_cons, List.not_mem_nil, or_false] at ho
  rcases ho with rfl | rfl
  · exact ⟨hk, hl⟩
  · exact ⟨hk', hl'⟩

theorem run_mkB {ts t : TypeId} (is : IB ts t) (w : World) (n : Nat) (hn : n ≤ 1000) :
    ∃ w', Sem.run Try.prog (Instr.makeSlice ts (.int .i64 n) (.int .i64 n)) w = .ok (.slice (some ⟨w.heap.size, 0, none⟩) n n) w' ∧ RdB w' (.slice (some ⟨w.heap.size, 0, none⟩) n n) (List.replicate n (0, 0)) ∧ Ext w w' := by
  obtain ⟨i, hi, hz, hs, hb⟩ := is.hi
  obtain ⟨w', h1, h2, h3⟩ := run_make_full (P := Try.prog) w w.heap.size ts t i _ 2 is.hu hi hz hs .i64 .i64 n (by rw [hb]; omega) (by unfold maxLen; omega) (Nat.le_refl _)
  refine ⟨w', h1, ?_, Ext.of_grown h3⟩
  have h4 : FrB t w' w.heap.size (.slice (some ⟨w.heap.size, 0, none⟩) n n) (List.replicate n (0, 0)) := by
    unfold FrB
    rw [List.length_replicate]
    have he : rowsB (List.replicate n (0, 0)) = (madeCells (Value.agg #[.int .u32 0, .int .u32 0]).cells (n * 2)).toList := by
      apply List.ext_getElem?
      intro j
      by_cases hj : j < n * 2
      · obtain ⟨c0, c1⟩ := rowsB_at (List.replicate n (0, 0)) (j / 2) (by rw [List.length_replicate]; omega)
        have hg : (List.replicate n ((0, 0) : Bk)).getD (j / 2) (0, 0) = (0, 0) := by simp [List.getD, show j / 2 < n by omega]
        rw [hg] at c0 c1
        rcases (by omega : j % 2 = 0 ∨ j % 2 = 1) with hm | hm
        · have hj2 : j / 2 * 2 = j := by omega
          rw [hj2] at c0
          rw [c0]
          simp [madeCells, hj, Value.cells, hm]
        · have hj2 : j / 2 * 2 + 1 = j := by omega
          rw [hj2] at c1
          rw [c1]
          simp [madeCells, hj, Value.cells, hm]
      · rw [List.getElem?_eq_none (by rw [rowsB_len, List.length_replicate]; omega), List.getElem?_eq_none (by simp [madeCells]; omega)]
    rw [he]
    exact h2
  have h5 := h4.rdb
  obtain ⟨a, c, he, q⟩ := h5
  rw [List.length_replicate] at he
  cases he
  exact ⟨_, _, by rw [List.length_replicate], q⟩

theorem bad_any (want : Int) (L : List Int) (he : opar L = ([], want)) (v : Value) (w : World) (hv : Rd .u8 w v L) (hb : Byt L) (hl : L.length ≤ 140737488351232) :
    Calls Try.prog 18 #[.int .i64 want, v] w fun e w' => e = .returned (.bool true) ∧ Ext w w' := by
  have HP := Lib.hid (oparse_lit L [] want he v w hv hb hl)
  obtain ⟨a, n, c, rfl⟩ := hv.shape
  clear hv he
  go_enter Try.func18, Try.ntmps18
  go_wp2_with fail
  refine HP.out.mono ?_
  rintro e w1 ⟨u, rfl, hu, hx1⟩
  obtain ⟨a1, c1, rfl⟩ := hu.rdo.shape
  have hw : (want == want) = true := by simp
  go_wp2_with fail
  go_ret
  exact ⟨rfl, hx1⟩

set_option maxHeartbeats 4000000 in
theorem walk (w : World) : Calls Try.prog 5 #[] w fun e w' => e = .returned (.bool true) ∧ Ext w w' := by
  go_enter Try.func5, Try.ntmps5
  go_wp2_with fail
  refine (awake5_any _).mono ?_
  rintro e w1 ⟨rfl, hx⟩
  go_wp2_with fail
  refine (oput_lit [(1, [])] [] 1 (by decide +kernel) _ _ (rdo_1 (heap_alloc_new _ _) (Rd.nil _ _)) (byto_1 (by decide) (byt_of rfl))).mono ?_
  rintro e w2 ⟨u, rfl, hu, hy2⟩
  obtain ⟨a2, c2, rfl, -, -, -⟩ := hu.rd
  have hx := hx.tr (Ext.tr (Ext.new _ _) hy2)
  clear hu hy2
  go_wp2_with fail
  refine (oput_lit [(0, [])] [] 1 (by decide +kernel) _ _ (rdo_1 (heap_alloc_new _ _) (Rd.nil _ _)) (byto_1 (by decide) (byt_of rfl))).mono ?_
  rintro e w3 ⟨u, rfl, hu, hy2⟩
  obtain ⟨a3, c3, rfl, -, -, -⟩ := hu.rd
  have hx := hx.tr (Ext.tr (Ext.new _ _) hy2)
  clear hu hy2
  obtain ⟨x3, hr, ho, hy⟩ := run_mk isU8 w3 w3.heap.size .i64 .i64 39 (by omega) (by unfold maxLen; omega) (Nat.le_refl _)
  have hr : Sem.run Try.prog (Instr.makeSlice 22 (.int .i64 39) (.int .i64 39)) w3 = .ok (.slice (some ⟨w3.heap.size, 0, none⟩) 39 39) x3 := hr
  have hor : Rd .u8 x3 (.slice (some ⟨w3.heap.size, 0, none⟩) 39 39) (zeros 39) := ho.rd
  clear ho
  go_wp2_with fail
  clear hr
  refine (oput_lit [(9, zeros 39)] [] 1 (by decide +kernel) _ _ (rdo_1 (heap_alloc_new _ _) (hor.ext (Ext.new _ _))) (byto_1 (by decide) (zeros_byt _))).mono ?_
  rintro e w4 ⟨u, rfl, hu, hy2⟩
  obtain ⟨a4, c4, rfl, -, -, -⟩ := hu.rd
  have hx := hx.tr (hy.tr (Ext.tr (Ext.new _ _) hy2))
  clear hu hy hy2 hor
  obtain ⟨x4, hr, ho, hy⟩ := run_mk isU8 w4 w4.heap.size .i64 .i64 38 (by omega) (by unfold maxLen; omega) (Nat.le_refl _)
  have hr : Sem.run Try.prog (Instr.makeSlice 22 (.int .i64 38) (.int .i64 38)) w4 = .ok (.slice (some ⟨w4.heap.size, 0, none⟩) 38 38) x4 := hr
  have hor : Rd .u8 x4 (.slice (some ⟨w4.heap.size, 0, none⟩) 38 38) (zeros 38) := ho.rd
  clear ho
  go_wp2_with fail
  clear hr
  refine (oput_lit [(9, zeros 38)] (9 :: 40 :: zeros 38) 0 (by decide +kernel) _ _ (rdo_1 (heap_alloc_new _ _) (hor.ext (Ext.new _ _))) (byto_1 (by decide) (zeros_byt _))).mono ?_
  rintro e w5 ⟨u, rfl, hu, hy2⟩
  obtain ⟨a5, c5, hve, -, -, -⟩ := hu.rd
  rw [show ((9 :: 40 :: zeros 38) : List Int).length = 40 from by decide +kernel] at hve
  subst hve
  have hx := hx.tr (hy.tr (Ext.tr (Ext.new _ _) hy2))
  clear hu hy hy2 hor
  obtain ⟨x5, hr, ho, hy⟩ := run_mk isU8 w5 w5.heap.size .i64 .i64 38 (by omega) (by unfold maxLen; omega) (Nat.le_refl _)
  have hr : Sem.run Try.prog (Instr.makeSlice 22 (.int .i64 38) (.int .i64 38)) w5 = .ok (.slice (some ⟨w5.heap.size, 0, none⟩) 38 38) x5 := hr
  have hor : Rd .u8 x5 (.slice (some ⟨w5.heap.size, 0, none⟩) 38 38) (zeros 38) := ho.rd
  clear ho
  go_wp2_with fail
  clear hr
  refine (oput_lit [(9, zeros 38), (9, [])] [] 3 (by decide +kernel) _ _ (rdo_2 (heap_alloc_new _ _) (hor.ext (Ext.new _ _)) (Rd.nil _ _)) (byto_2 (by decide) (zeros_byt _) (by decide) (byt_of rfl))).mono ?_
  rintro e w6 ⟨u, rfl, hu, hy2⟩
  obtain ⟨a6, c6, rfl, -, -, -⟩ := hu.rd
  have hx := hx.tr (hy.tr (Ext.tr (Ext.new _ _) hy2))
  clear hu hy hy2 hor
  go_wp2_with fail
  refine (oput_lit [] [] 0 (by decide +kernel) _ _ (RdO.nil _) (fun o ho => by cases ho)).mono ?_
  rintro e w7 ⟨u, rfl, hu, hy2⟩
  obtain ⟨a7, c7, rfl, -, -, -⟩ := hu.rd
  have hx := hx.tr hy2
  clear hu hy2
  have hor : Rd .u8 (w7.alloc (.cells #[.int .u8 200] 5)) (.slice (some ⟨w7.heap.size, 0, none⟩) 1 1) [200] := rd_new .u8 _ _ _ [200] (by simp) rfl rfl rfl (by decide)
  go_wp2_with fail
  generalize hW : World.alloc (World.alloc w7 _) _ = W7
  have kb : W7.heap[w7.heap.size + 1]? = some (.cells #[.int .u8 3, .slice (some ⟨w7.heap.size, 0, none⟩) 1 1] 31) := by rw [← hW]; simp only [heap_alloc_at, World.size_alloc]; repeat (first | rfl | rw [if_pos (by first | trivial | omega)] | rw [if_neg (by omega)])
  have hor : Rd .u8 W7 (.slice (some ⟨w7.heap.size, 0, none⟩) 1 1) [200] := by rw [← hW]; exact hor.ext (Ext.new _ _)
  have hxW : Ext w7 W7 := by rw [← hW]; exact (Ext.new _ _).al _
  clear hW
  refine (oscale_any _ [(3, [200])] W7 (rdo_1 kb hor) (byto_1 (by decide) (byt_of rfl))).mono ?_
  rw [show oscale [(3, [200])] = 14 from by decide +kernel, show ([(3, [200])] : List Op1).any (kl 3 (fun n => decide (n = 1))) = true from by decide +kernel]
  rintro e w8 ⟨rfl, hy⟩
  have hx := hx.tr (hxW.tr hy)
  clear hor kb hxW hy
  have hor : Rd .u8 (w8.alloc (.cells #[.int .u8 1] 5)) (.slice (some ⟨w8.heap.size, 0, none⟩) 1 1) [1] := rd_new .u8 _ _ _ [1] (by simp) rfl rfl rfl (by decide)
  go_wp2_with fail
  generalize hW : World.alloc (World.alloc w8 _) _ = W8
  have kb : W8.heap[w8.heap.size + 1]? = some (.cells #[.int .u8 2, .slice (some ⟨w8.heap.size, 0, none⟩) 1 1] 31) := by rw [← hW]; simp only [heap_alloc_at, World.size_alloc]; repeat (first | rfl | rw [if_pos (by first | trivial | omega)] | rw [if_neg (by omega)])
  have hor : Rd .u8 W8 (.slice (some ⟨w8.heap.size, 0, none⟩) 1 1) [1] := by rw [← hW]; exact hor.ext (Ext.new _ _)
  have hxW : Ext w8 W8 := by rw [← hW]; exact (Ext.new _ _).al _
  clear hW
  refine (omss_any _ [(2, [1])] W8 (rdo_1 kb hor) (byto_1 (by decide) (byt_of rfl))).mono ?_
  rw [show omss [(2, [1])] = 0 from by decide +kernel, show ([(2, [1])] : List Op1).any (kl 2 (fun n => decide (n = 2))) = false from by decide +kernel]
  rintro e w9 ⟨rfl, hy⟩
  have hx := hx.tr (hxW.tr hy)
  clear hor kb hxW hy
  obtain ⟨x9, hr, hob, hy⟩ := run_mkB ibO w9 5 (by decide)
  have hr : Sem.run Try.prog (Instr.makeSlice 47 (.int .i64 5) (.int .i64 5)) w9 = .ok (.slice (some ⟨w9.heap.size, 0, none⟩) 5 5) x9 := hr
  go_wp2_with fail
  clear hr
  refine (withsacks_any _ (List.replicate 5 (0, 0)) _ hob (fun b hb => by rw [List.eq_of_mem_replicate hb]; decide)).mono ?_
  rw [show owith (List.replicate 5 (0, 0)) = ((0, []), 3) from by decide +kernel]
  rintro e w10 ⟨u, rfl, hu, hy2⟩
  obtain ⟨a10, n10, c10, rfl⟩ := hu.rd.shape
  have hx := hx.tr (hy.tr hy2)
  clear hu hy hy2 hob
  go_wp2_with fail
  refine (withsacks_any _ [] _ ⟨none, 0, rfl, Nat.le_refl _, by decide, .inl rfl⟩ (fun b hb => by cases hb)).mono ?_
  rw [show owith [] = ((0, []), 1) from by decide +kernel]
  rintro e w11 ⟨u, rfl, hu, hy2⟩
  obtain ⟨a11, n11, c11, rfl⟩ := hu.rd.shape
  have hx := hx.tr (Ext.tr (Ext.new _ _) hy2)
  clear hu hy2
  go_upto_region 14 with (fail)
  generalize hW : World.alloc _ _ = W0
  have hx : Ext w W0 := by rw [← hW]; exact hx.al _
  clear hW
  obtain ⟨w12, rfl⟩ : ∃ x, x = W0 := ⟨_, rfl⟩
  go_wp2_with fail
  refine (bad_any 5 [2, 1] (by decide +kernel) _ _ (rd_new .u8 _ _ _ [2, 1] (by simp) rfl rfl rfl (by decide)) (byt_of rfl) (by decide)).mono ?_
  rintro e w13 ⟨rfl, hy2⟩
  have hx := hx.tr (Ext.tr (Ext.new _ _) hy2)
  clear hy2
  go_wp2_with fail
  refine (bad_any 4 [9] (by decide +kernel) _ _ (rd_new .u8 _ _ _ [9] (by simp) rfl rfl rfl (by decide)) (byt_of rfl) (by decide)).mono ?_
  rintro e w14 ⟨rfl, hy2⟩
  have hx := hx.tr (Ext.tr (Ext.new _ _) hy2)
  clear hy2
  go_wp2_with fail
  refine (bad_any 4 [9, 3] (by decide +kernel) _ _ (rd_new .u8 _ _ _ [9, 3] (by simp) rfl rfl rfl (by decide)) (byt_of rfl) (by decide)).mono ?_
  rintro e w15 ⟨rfl, hy2⟩
  have hx := hx.tr (Ext.tr (Ext.new _ _) hy2)
  clear hy2
  go_wp2_with fail
  refine (bad_any 5 [0, 1] (by decide +kernel) _ _ (rd_new .u8 _ _ _ [0, 1] (by simp) rfl rfl rfl (by decide)) (byt_of rfl) (by decide)).mono ?_
  rintro e w16 ⟨rfl, hy2⟩
  have hx := hx.tr (Ext.tr (Ext.new _ _) hy2)
  clear hy2
  go_wp2_with fail
  refine (bad_any 0 [] (by decide +kernel) _ _ (Rd.nil _ _) (byt_of rfl) (by decide)).mono ?_
  rintro e w17 ⟨rfl, hy2⟩
  have hx := hx.tr hy2
  clear hy2
  go_wp2_with fail
  refine (bad_any 0 [1, 1, 0, 0] (by decide +kernel) _ _ (rd_new .u8 _ _ _ [1, 1, 0, 0] (by simp) rfl rfl rfl (by decide)) (byt_of rfl) (by decide)).mono ?_
  rintro e w18 ⟨rfl, hy2⟩
  have hx := hx.tr (Ext.tr (Ext.new _ _) hy2)
  clear hy2
  obtain ⟨x18, hr, ho, hy⟩ := run_mk isU8 w18 w18.heap.size .i64 .i64 41 (by omega) (by unfold maxLen; omega) (Nat.le_refl _)
  have hr : Sem.run Try.prog (Instr.makeSlice 22 (.int .i64 41) (.int .i64 41)) w18 = .ok (.slice (some ⟨w18.heap.size, 0, none⟩) 41 41) x18 := hr
  have hor : Rd .u8 x18 (.slice (some ⟨w18.heap.size, 0, none⟩) 41 41) (zeros 41) := ho.rd
  clear ho
  go_wp2_with fail
  clear hr
  refine (bad_any 3 (zeros 41) (by decide +kernel) _ _ hor (zeros_byt _) (by simp [zeros])).mono ?_
  rintro e w19 ⟨rfl, hy2⟩
  have hx := hx.tr (hy.tr hy2)
  clear hy hy2 hor
  obtain ⟨x19, hr, ho, hy⟩ := run_mk isU8 w19 w19.heap.size .i64 .i64 40 (by omega) (by unfold maxLen; omega) (Nat.le_refl _)
  have hr : Sem.run Try.prog (Instr.makeSlice 22 (.int .i64 40) (.int .i64 40)) w19 = .ok (.slice (some ⟨w19.heap.size, 0, none⟩) 40 40) x19 := hr
  have hor : Rd .u8 x19 (.slice (some ⟨w19.heap.size, 0, none⟩) 40 40) (zeros 40) := ho.rd
  clear ho
  go_wp2_with fail
  clear hr
  refine (bad_any 0 (zeros 40) (by decide +kernel) _ _ hor (zeros_byt _) (by simp [zeros])).mono ?_
  rintro e w20 ⟨rfl, hy2⟩
  have hx := hx.tr (hy.tr hy2)
  clear hy hy2 hor
  obtain ⟨x20, hr, ho, hy⟩ := run_mk isU8 w20 w20.heap.size .i64 .i64 9 (by omega) (by unfold maxLen; omega) (Nat.le_refl _)
  have hr : Sem.run Try.prog (Instr.makeSlice 22 (.int .i64 9) (.int .i64 9)) w20 = .ok (.slice (some ⟨w20.heap.size, 0, none⟩) 9 9) x20 := hr
  have hor : Rd .u8 x20 (.slice (some ⟨w20.heap.size, 0, none⟩) 9 9) (zeros 9) := ho.rd
  clear ho
  go_wp2_with fail
  clear hr
  refine (osacks_any _ [(5, zeros 9)] _ (rdo_1 (heap_alloc_new _ _) (hor.ext (Ext.new _ _))) (byto_1 (by decide) (zeros_byt _))).mono ?_
  rw [show osacks [(5, zeros 9)] = [] from by decide +kernel]
  rintro e w21 ⟨u, rfl, hu, hy2⟩
  obtain ⟨a21, c21, rfl⟩ := hu.rdb.shape
  have hx := hx.tr (hy.tr (Ext.tr (Ext.new _ _) hy2))
  clear hu hy hy2 hor
  obtain ⟨x21, hr, ho, hy⟩ := run_mk isU8 w21 w21.heap.size .i64 .i64 40 (by omega) (by unfold maxLen; omega) (Nat.le_refl _)
  have hr : Sem.run Try.prog (Instr.makeSlice 22 (.int .i64 40) (.int .i64 40)) w21 = .ok (.slice (some ⟨w21.heap.size, 0, none⟩) 40 40) x21 := hr
  have hor : Rd .u8 x21 (.slice (some ⟨w21.heap.size, 0, none⟩) 40 40) (zeros 40) := ho.rd
  clear ho
  go_wp2_with fail
  clear hr
  refine (osacks_any _ [(5, zeros 40)] _ (rdo_1 (heap_alloc_new _ _) (hor.ext (Ext.new _ _))) (byto_1 (by decide) (zeros_byt _))).mono ?_
  rw [show osacks [(5, zeros 40)] = [] from by decide +kernel]
  rintro e w22 ⟨u, rfl, hu, hy2⟩
  obtain ⟨a22, c22, rfl⟩ := hu.rdb.shape
  have hx := hx.tr (hy.tr (Ext.tr (Ext.new _ _) hy2))
  clear hu hy hy2 hor
  go_wp2_with fail
  go_ret
  exact ⟨rfl, hx⟩
end Go.Proofs.Ytckdcjheflgmdaa.optsKnown
