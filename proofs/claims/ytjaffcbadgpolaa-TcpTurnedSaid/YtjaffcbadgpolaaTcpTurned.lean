/-
  Proved here: the law TcpTurned returns true. Condition: each slice at most 2^47 - 4096 bytes (the form's own reach).
-/
import Derived.Test.YtjaffcbadgpolaaTcpL
import Derived.Test.YtjaffcbadgpolaaTcpS
import Derived.Deep.Cut
import Derived.BigRegion
namespace Go.Proofs.Ytjaffcbadgpolaa.tcpTurned
open Go.ChangeShapes Go.WideShapes Go.ChangeAt Go.RowKit Go.Cul Go.Loose
set_option linter.unusedVariables false
attribute [local go_sem] Loose.Still Loose.Upon Loose.vUpon

theorem nat_bit {y b : Nat} (hy : y < 256) (hb : b < 8) : y ^^^ 2 ^ b < 256 ∧ (y ^^^ 2 ^ b = y + 2 ^ b ∨ (y ^^^ 2 ^ b) + 2 ^ b = y) := by
  have h : ∀ y, y < 256 → ∀ b, b < 8 → y ^^^ 2 ^ b < 256 ∧ (y ^^^ 2 ^ b = y + 2 ^ b ∨ (y ^^^ 2 ^ b) + 2 ^ b = y) := by decide +kernel
  exact h y hy b hb
/-- A bit of a byte turned. -/
theorem bit_u8 {y : Int} {j : Nat} (hy : 0 ≤ y ∧ y ≤ 255) (hj : j < 8) : ∃ (T x : Int) (b : Nat), (128 : Int) / 2 ^ j = T ∧ bits BinOp.xor IntKind.u8 y T = x ∧ b < 8 ∧ (0 ≤ x ∧ x ≤ 255) ∧ (x - y = (2 ^ b : Nat) ∨ y - x = (2 ^ b : Nat)) := by
  have hT : ∀ j, j < 8 → (128 : Int) / 2 ^ j = ((2 ^ (7 - j) : Nat) : Int) := by decide
  have hT2 : ∀ j, j < 8 → 2 ^ (7 - j) < 256 := by decide
  have h2 := hT2 j hj
  have h3 := nat_bit (y := y.toNat) (b := 7 - j) (by omega) (by omega)
  have h1 := hT j hj
  have hx : bits BinOp.xor IntKind.u8 y ((2 ^ (7 - j) : Nat) : Int) = ((y.toNat ^^^ 2 ^ (7 - j) : Nat) : Int) := by
    generalize 2 ^ (7 - j) = P at h2 ⊢
    rw [u8_xor y (P : Int) hy.1 (by omega) (by omega) (by omega), Int.toNat_natCast]
  refine ⟨_, _, 7 - j, h1, hx, by omega, ?_, ?_⟩
  · generalize 2 ^ (7 - j) = P at h2 h3 ⊢
    generalize y.toNat ^^^ P = Z at *
    omega
  · generalize 2 ^ (7 - j) = P at h2 h3 ⊢
    generalize y.toNat ^^^ P = Z at *
    omega

set_option maxHeartbeats 4000000 in
set_option maxRecDepth 100000 in
theorem walk (w : World) (s : Int) (hs : 0 ≤ s ∧ s ≤ 4294967295) (d : Int) (hd : 0 ≤ d ∧ d ≤ 4294967295) (cs : Array Value) (hcs : Reads w segSh cs.toList) (bit : Int) (hbit : 0 ≤ bit ∧ bit ≤ 65535) :
    Calls Try.prog 5 #[.int .u32 s, .int .u32 d, .agg cs, .int .u16 bit] w fun e w' => e = .returned (.bool true) ∧ Ext w w' := by
  obtain ⟨g, vo, vd, rfl, hg, hvo, hvd, hn, hno⟩ := open_segment hcs
  clear hcs hno
  obtain ⟨ao, co, rfl⟩ := hvo.shape
  obtain ⟨ad, cd, rfl, hd1, hd2, -⟩ := id hvd
  have hput := fun (W : World) (hx : Ext w W) => tput_any s d g _ _ W hg (hvo.ext hx) (hvd.ext hx) hs hd hn
  have htc := tput_cases hg hs hd
  clear hd1 hd2 hn
  rcases htc with ⟨E, hE, hT, -⟩ | ⟨O, ho, hO, hl4, h4, hf, hT, hF, -⟩
  · rw [hT] at hput
    dsimp only at hput
    have HPUT := Lib.hid hput
    have hE1 : (E != 0) = true := by simpa using hE
    clear hput hT hE hg
    go_enter Try.func5, Try.ntmps5
    go_upto_region 1 with (fail)
    generalize hW : World.alloc w _ = W
    have hxW : Ext w W := by rw [← hW]; exact Ext.new _ _
    have kg : W.heap[w.heap.size]? = some (.cells (g.cells (.slice ao g.os.length co) (.slice ad g.data.length cd)) 27) := by rw [← hW]; exact heap_alloc_new w _
    clear hW
    have e0 := cell_blk kg 0
    have e1 := cell_blk kg 1
    have e2 := cell_blk kg 2
    have e3 := cell_blk kg 3
    have e4 := cell_blk kg 4
    have e5 := cell_blk kg 5
    have e6 := cell_blk kg 6
    have e7 := cell_blk kg 7
    have e8 := cell_blk kg 8
    simp at e0 e1 e2 e3 e4 e5 e6 e7 e8
    go_wp2_with fail
    refine (HPUT.out _ hxW).mono ?_
    rintro e w1 ⟨u, rfl, hu, hx1⟩
    go_wp2_with fail
    refine (wakes6_any _).mono ?_
    rintro e w8 ⟨rfl, hx8⟩
    go_wp2_with fail
    go_ret
    exact ⟨rfl, hxW.tr (hx1.tr hx8)⟩
  rw [hT] at hput
  dsimp only at hput
  have hTB := fun (i : Nat) (x : Int) (b : Nat) (hi : i < 20 + O.length + g.data.length) (hb : b < 8) (hx : 0 ≤ x ∧ x ≤ 255) (h) => terr_bit hg hs hd hO hl4 hf (i := i) (x := x) (b := b) hi hb hx h
  have hLB := lay_byt hg hO hl4 hF
  have hLl := lay_len g O (g.field s d O)
  rw [← hLl] at hTB
  generalize g.lay O (g.field s d O) = L at *
  have hL20 : 20 ≤ L.length ∧ L.length ≤ 1480 := by omega
  obtain ⟨K, hK⟩ : ∃ K : Nat, bit.tmod (8 * (L.length : Int)) = (K : Int) := ⟨(bit.tmod (8 * (L.length : Int))).toNat, by rw [Int.tmod_eq_emod_of_nonneg (by omega)]; have := Int.emod_nonneg bit (show (8 * (L.length : Int)) ≠ 0 by omega); omega⟩
  have hKlt : K < 8 * L.length := by
    have : bit.tmod (8 * (L.length : Int)) < 8 * (L.length : Int) := by rw [Int.tmod_eq_emod_of_nonneg (by omega)]; exact Int.emod_lt_of_pos _ (by omega)
    omega
  have hw8 : IntKind.i64.wrap (8 * (L.length : Int)) = 8 * (L.length : Int) := by rw [IntWalk.i64_in _ (by omega)]
  have hwK : IntKind.i64.wrap (K : Int) = (K : Int) := by rw [IntWalk.i64_in _ (by omega)]
  have hN0 : ((L.length : Int) == 0) = false := by rw [beq_eq_false_iff_ne]; omega
  have hN8 : (8 * (L.length : Int) == 0) = false := by rw [beq_eq_false_iff_ne]; omega
  have HPUT := Lib.hid hput
  have HTB := Lib.hid hTB
  have HLB := Lib.hid hLB
  clear hput hT hg hTB hLB hLl ho hO hl4 h4 hf hF
  go_enter Try.func5, Try.ntmps5
  go_upto_region 1 with (fail)
  generalize hW : World.alloc w _ = W
  have hxW : Ext w W := by rw [← hW]; exact Ext.new _ _
  have kg : W.heap[w.heap.size]? = some (.cells (g.cells (.slice ao g.os.length co) (.slice ad g.data.length cd)) 27) := by rw [← hW]; exact heap_alloc_new w _
  clear hW
  have e0 := cell_blk kg 0
  have e1 := cell_blk kg 1
  have e2 := cell_blk kg 2
  have e3 := cell_blk kg 3
  have e4 := cell_blk kg 4
  have e5 := cell_blk kg 5
  have e6 := cell_blk kg 6
  have e7 := cell_blk kg 7
  have e8 := cell_blk kg 8
  simp at e0 e1 e2 e3 e4 e5 e6 e7 e8
  go_wp2_with fail
  refine (HPUT.out _ hxW).mono ?_
  rintro e w1 ⟨u, rfl, hu, hx1⟩
  have hxW0 := hxW
  have hxW := hxW.tr hx1
  obtain ⟨gb, gc, rfl, hgb, hgl, hcell, hfz, hgc, hgm, hset⟩ := hu.open (by omega)
  clear hx1 e0 e1 e2 e3 e4 e5 e6 e7 e8 kg
  go_upto_region 5 with (fail)
  obtain ⟨i, hi⟩ : ∃ i : Nat, i = K / 8 := ⟨_, rfl⟩
  obtain ⟨j, hj⟩ : ∃ j : Nat, j = K % 8 := ⟨_, rfl⟩
  have hq : (K : Int).tdiv 8 = (i : Int) := by rw [Int.tdiv_eq_ediv_of_nonneg (by omega)]; omega
  have hwq : IntKind.i64.wrap (i : Int) = (i : Int) := by rw [IntWalk.i64_in _ (by omega)]
  have hr : (K : Int).tmod 8 = (j : Int) := by rw [Int.tmod_eq_emod_of_nonneg (by omega)]; omega
  have hwr : IntKind.i64.wrap (j : Int) = (j : Int) := by rw [IntWalk.i64_in _ (by omega)]
  have hil : (i : Int) < (L.length : Int) := by omega
  have hil' : i < L.length := by omega
  have hj8 : j < 8 := by omega
  have hj0 : ¬ (j : Int) < 0 := by omega
  have hi0 : ¬ (i : Int) < 0 := by omega
  have hc0 := hcell i hil'
  have hz0 := hfz i
  clear hi hj hcell hfz
  obtain ⟨T, x, b, hT, hX, hb8, hxb, hxd⟩ := bit_u8 (HLB.out.at i) hj8
  have hTB := Lib.hid (HTB.out i x b hil' hb8 hxb hxd)
  have hLB2 := Lib.hid (byt_set HLB.out i hxb)
  have hle : Hid ((L.set i x).length = L.length) := List.length_set ..
  clear hb8 hxb hxd HTB HLB
  generalize L.getD i 0 = y at *
  refine wp_region_tail 9 [] lasts_nil (by kernel_rfl) (by kernel_rfl) (by kernel_rfl) ?_
  simp only [List.take, List.drop]
  iterate 4
    apply wpL_none rfl rfl
    · intro w' hw' hn'; go_simp; exact rfl
    intro K hK; go_simp; refine hK _ _ ?_; clear hK K
  iterate 1
    apply wpL_none rfl rfl
    · intro w' hw' hn'; have hc0 := Ext.cell hw' hc0; go_simp; exact rfl
    intro K hK; go_simp; refine hK _ _ ?_; clear hK K
  iterate 4
    apply wpL_none rfl rfl
    · intro w' hw' hn'; go_simp; exact rfl
    intro K hK; go_simp; refine hK _ _ ?_; clear hK K
  refine wpL_nil ?_
  intro w2 hw2 hD
  clear hD
  have hc2 := Ext.cell hw2 hc0
  have hz2 : w2.frozen? ⟨gb, i, none⟩ = false := by rw [Below.frozen hw2 (lt_of_cell hc0)]; exact hz0
  have hu2 := hu.kept hw2
  obtain ⟨gb', gc', hv', -, -, -, -, -, -, hset2⟩ := hu2.open (by omega)
  cases hv'
  have hu3 := hset2 x i hil'
  have hx3 : Ext w (w2.setCell ⟨gb, i, none⟩ (.int .u8 x)) := Below.setCell (hxW.tr hw2) (by have := hxW0.size; dsimp only; omega) _
  iterate 2
    apply wpVL_step rfl
    intro K hK
    go_simp
    refine hK _ _ ?_
    clear hK K
  refine wpVL_nil ?_
  generalize w2.setCell ⟨gb, i, none⟩ (.int .u8 x) = w3 at *
  have hur := hu3.rd
  have htp : Hid (tpar s d (L.set i x) = (Sg.none, terr s d (L.set i x))) := by unfold Hid tpar; rw [if_neg hTB.out]
  have hE2 : (terr s d (L.set i x) != 0) = true := by simpa using hTB.out
  have hsr : Hid (tsame Sg.none Sg.none = true) := tsame_refl _
  generalize terr s d (L.set i x) = E2 at *
  clear hu hu2 hu3 hset hset2 hc0 hz0 hc2 hz2 hw2 hT hX
  go_wp2_with fail
  refine (tparse_any s d _ (L.set i x) _ hur hLB2.out hs hd (by have := hle.out; omega)).mono ?_
  rw [htp.out]
  rintro e w4 ⟨vo', vd', rfl, hfo, hfr, hx4⟩
  have hfo := hfo.rdo
  have hfr := hfr.rd
  obtain ⟨ao', co', rfl⟩ := hfo.shape
  obtain ⟨ad', nd', cd', rfl⟩ := hfr.shape
  dsimp only [Sg.cells, Sg.none] at hfo hfr ⊢
  have hx5 := hx4.al (.cells #[.int .u16 0, .int .u16 0, .int .u32 0, .int .u32 0, .int .u8 0, .int .u16 0, .int .u16 0, .slice ao' 0 co', .slice ad' nd' cd'] 27)
  go_wp2_with fail
  refine (tsame_any Sg.none Sg.none _ _ _ _ _ none_ok none_ok (hfo.ext (Ext.new _ _)) (hfr.ext (Ext.new _ _)) (RdO.nil _) (Rd.nil _ _)).mono ?_
  rw [hsr.out]
  rintro e w7 ⟨rfl, hx7⟩
  go_wp2_with fail
  refine (wakes6_any _).mono ?_
  rintro e w8 ⟨rfl, hx8⟩
  go_wp2_with fail
  go_ret
  exact ⟨rfl, hx3.tr (hx5.tr (hx7.tr hx8))⟩
end Go.Proofs.Ytjaffcbadgpolaa.tcpTurned
