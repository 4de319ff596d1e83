/-
  Proved here: what culvertref06.Put and May compute. Conditions: numbers within their kinds, at most 1000000000 options.
-/
import Derived.Test.YtbaidlkjbdeceaaGreatRef6
import Derived.Test.YtbaidlkjbdeceaaGreatTcpS
import Derived.Test.YtbaidlkjbdeceaaGreatTcpL
namespace Go.Proofs.YtbaidlkjbdeceaaGreat
set_option maxRecDepth 200000
open Go.ChangeShapes Go.WideShapes Go.ChangeAt Go.RowKit Go.Cul Go.Loose
set_option linter.unusedVariables false

theorem bys_four' (n : Int) (h : 0 ≤ n ∧ n ≤ 4294967295) : bys 4 n = by4 n := by
  simp [bys, by4]; omega

/-- The header that is laid piece by piece. -/
def hd6 (g : Sg) (n : Int) : List Int :=
  over (over (((over (over (over (over (List.replicate 20 0) 0 (by2 g.sp)) 2 (by2 g.dp)) 4 (by4 g.seq)) 8 (by4 g.ack)).set 12 (n / 4 * 16)).set 13 g.f) 14 (by2 g.win)) 18 (by2 g.urg)
theorem hd6_is (g : Sg) (n : Int) : hd6 g n = g.pre n ++ by2 0 ++ by2 g.urg := rfl
theorem hd6_lay (g : Sg) (O : List Int) (F : Int) : over (hd6 g (20 + O.length) ++ O ++ g.data) 16 (by2 F) = g.lay O F := by
  rw [hd6_is]; simp [over, Sg.lay, Sg.pre, by2, by4]
theorem hd6_lay0 (g : Sg) (O : List Int) : hd6 g (20 + O.length) ++ O ++ g.data = g.lay O 0 := rfl

set_option maxHeartbeats 2000000 in
set_option maxRecDepth 100000 in
theorem r6put_any (s d : Int) (g : Sg) (vo vd : Value) (w : World) (hg : g.ok) (hvo : RdO w vo g.os) (hvd : Rd .u8 w vd g.data) (hs : 0 ≤ s ∧ s ≤ 4294967295) (hd : 0 ≤ d ∧ d ≤ 4294967295) (hn : g.data.length ≤ 140737488351232) (hon : g.os.length ≤ 1000000000) :
    Calls Tryz.prog 16 #[.int .u32 s, .int .u32 d, .agg (g.cells vo vd)] w fun e w' => ∃ u, e = .returned (.tuple #[u, .int .i64 (tput s d g).2]) ∧ Own w' w.heap.size 5 .u8 u (tput s d g).1 ∧ Ext w w' := by
  obtain ⟨O, E, hO, hl40, hl4⟩ := oput_split g.os
  have HO := fun (W : World) (h : RdO W vo g.os) => r5put_any vo g.os W h hg.os hon
  have hob := oput_byt hg.os
  rw [hO] at HO hob
  dsimp only at HO hob
  have HGD := fun F => hd6_lay g O F
  have HG0 := hd6_lay0 g O
  have hfb := field_bd (s := s) (d := d) hg hs hd hob hl40
  have hlb := lay_byt hg hob hl40 (f := 0) (by decide)
  have hln := lay_len g O 0
  have HE := tput_err (s := s) (d := d) hO
  have HLO := fun h : E = 0 => tput_long (s := s) (d := d) (h ▸ hO)
  have HFI := fun h : E = 0 => tput_fit (s := s) (d := d) (h ▸ hO)
  have hhd : hd6 g (20 + O.length) = over (over (((over (over (over (over (List.replicate 20 0) 0 (by2 g.sp)) 2 (by2 g.dp)) 4 (by4 g.seq)) 8 (by4 g.ack)).set 12 ((20 + (O.length : Int)) / 4 * 16)).set 13 g.f) 14 (by2 g.win)) 18 (by2 g.urg) := rfl
  have hfd : g.field s d O = 65535 - csum (pseu s d 6 (20 + O.length + g.data.length) ++ g.lay O 0) := rfl
  generalize tput s d g = TP at *
  generalize hd6 g (20 + O.length) = H at *
  generalize g.field s d O = F at *
  generalize g.lay O 0 = LY at *
  generalize (g.lay O) = LF at *
  obtain ⟨sp, dp, seq, ack, f, win, urg, os, data⟩ := g
  obtain ⟨gsp, gdp, gseq, gack, gf, gwin, gurg, -, gdata⟩ := hg
  dsimp only at *
  simp only [Sg.cells] at *
  obtain ⟨ao, co, rfl⟩ := hvo.shape
  obtain ⟨ad, cd, rfl, hd1, hd2, -⟩ := id hvd
  unfold maxLen at hd2
  replace HO := Lib.hid HO
  have HOB := Lib.hid hob
  replace HGD := Lib.hid HGD
  replace HG0 := Lib.hid HG0
  have HLB := Lib.hid hlb
  have HLN := Lib.hid hln
  replace HE := Lib.hid HE
  replace HLO := Lib.hid HLO
  replace HFI := Lib.hid HFI
  have HHD := Lib.hid hhd
  have HFD := Lib.hid hfd
  clear hO hob hlb hln hhd hfd
  go_enter Tryz.func16, Tryz.ntmps16
  go_upto_region 1 with (fail)
  generalize hW : World.alloc w _ = W
  have hxW : Ext w W := by rw [← hW]; exact Ext.new _ _
  have kg : W.heap[w.heap.size]? = some (.cells #[.int .u16 sp, .int .u16 dp, .int .u32 seq, .int .u32 ack, .int .u8 f, .int .u16 win, .int .u16 urg, .slice ao os.length co, .slice ad data.length cd] 29) := by rw [← hW]; exact heap_alloc_new w _
  clear hW
  have hvoW := hvo.ext hxW
  have hvdW := hvd.ext hxW
  clear hvo hvd
  have e7 := cell_blk kg 7
  simp at e7
  go_wp2_with fail
  refine (HO.out _ hvoW).mono ?_
  rintro e w1 ⟨u, rfl, hu, hx1⟩
  clear hvoW e7
  have kg := hx1.block kg
  have hvd1 := hvdW.ext hx1
  clear hvdW
  have hur := hu.rd
  obtain ⟨au, cu, rfl, hu1, hu2, -⟩ := id hur
  unfold maxLen at hu2
  clear hu
  have e0 := cell_blk kg 0
  have e1 := cell_blk kg 1
  have e2 := cell_blk kg 2
  have e3 := cell_blk kg 3
  have e4 := cell_blk kg 4
  have e5 := cell_blk kg 5
  have e6 := cell_blk kg 6
  have e7 := cell_blk kg 7
  have e8 := cell_blk kg 8
  simp at e0 e1 e2 e3 e4 e5 e6 e7 e8
  by_cases hE : E ≠ 0
  · have hE1 : (E != 0) = true := by simpa using hE
    have hT := Lib.hid (HE.out hE)
    clear hE
    go_wp2_with fail
    go_ret2
    rw [hT.out]
    exact ⟨_, rfl, Own.nil _ _ _ _, hxW.tr hx1⟩
  have hE := Classical.not_not.1 hE
  subst hE
  by_cases hlong : 1480 < 20 + O.length + data.length
  · have hT := Lib.hid (HLO.out rfl hlong)
    have hl' : (1480 : Int) < 20 + (O.length : Int) + (data.length : Int) := by omega
    clear hlong
    go_wp2_with fail
    go_ret2
    rw [hT.out]
    exact ⟨_, rfl, Own.nil _ _ _ _, hxW.tr hx1⟩
  have hT := Lib.hid (HFI.out rfl hlong)
  have hl' : ¬ (1480 : Int) < 20 + (O.length : Int) + (data.length : Int) := by omega
  have hl'' : 20 + O.length + data.length ≤ 1480 := by omega
  have hq4 : IntKind.u8.wrap ((20 + (O.length : Int)) / 4 * 16) = (20 + (O.length : Int)) / 4 * 16 := by rw [IntKind.wrap_u8]; omega
  clear hlong HE HLO HFI
  have hszW := hxW.size
  have hsz1 := hx1.size
  have hW1 : w.heap.size ≤ w1.heap.size := by omega
  have hWl : w.heap.size < w1.heap.size := lt_of_block kg
  obtain ⟨w2, hr, hu, hxk⟩ := run_mk (P := Tryz.prog) isU8 w1 w.heap.size .i64 .i64 20 (by decide) (by decide) hW1
  have hr : Sem.run Tryz.prog (Instr.makeSlice 24 (.int .i64 20) (.int .i64 20)) w1 = .ok (.slice (some ⟨w1.heap.size, 0, none⟩) 20 20) w2 := hr
  generalize hL : List.replicate 20 (0 : Int) = L at *
  have HL : Hid (L.length = 20) := by rw [← hL]; rfl
  clear hL
  have HGe : Hid (w.heap.size ≤ w1.heap.size ∧ w.heap.size ≠ w1.heap.size) := ⟨hW1, by omega⟩
  clear hszW hsz1 hW1 hWl
  generalize hG : w1.heap.size = G at *
  have HG := Lib.hid hG
  clear hG
  have z8 := e8
  have kg2 := hxk.block kg
  clear e0 e1 e2 e3 e4 e5 e6 e7 e8
  have e0 := cell_blk kg2 0
  have e1 := cell_blk kg2 1
  have e2 := cell_blk kg2 2
  have e3 := cell_blk kg2 3
  have e4 := cell_blk kg2 4
  have e5 := cell_blk kg2 5
  have e6 := cell_blk kg2 6
  have e7 := cell_blk kg2 7
  have e8 := cell_blk kg2 8
  simp at e0 e1 e2 e3 e4 e5 e6 e7 e8
  go_wp2_with fail
  refine (rlay6_any _ L 0 2 sp _ w.heap.size hu (by decide) (by decide) (by rw [HL.out]; decide) (by omega) (by rw [HL.out]; decide)).mono ?_
  rintro e w3 ⟨rfl, hu', hm⟩
  rw [bys_two _ (by omega)] at hu'
  have hxk' := hm.ext hxk (fun j hj => by cases hj; exact (Nat.le_of_eq HG.out))
  clear hu hm hxk e0 e1 e2 e3 e4 e5 e6 e7 e8 kg2
  have hu := hu'
  have hxk := hxk'
  clear hu' hxk'
  have HL2 : Hid ((over L 0 (by2 sp)).length = 20) := by unfold Hid; rw [over_len (by rw [HL.out]; show 0 + 2 ≤ 20; decide)]; exact HL.out
  generalize over L 0 (by2 sp) = L' at *
  clear HL
  clear L
  obtain ⟨L, rfl⟩ : ∃ L, L = L' := ⟨_, rfl⟩
  have HL := HL2
  clear HL2
  have kg2 := hxk.block kg
  have e0 := cell_blk kg2 0
  have e1 := cell_blk kg2 1
  have e2 := cell_blk kg2 2
  have e3 := cell_blk kg2 3
  have e4 := cell_blk kg2 4
  have e5 := cell_blk kg2 5
  have e6 := cell_blk kg2 6
  have e7 := cell_blk kg2 7
  have e8 := cell_blk kg2 8
  simp at e0 e1 e2 e3 e4 e5 e6 e7 e8
  go_wp2_with fail
  refine (rlay6_any _ L 2 2 dp _ w.heap.size hu (by decide) (by decide) (by rw [HL.out]; decide) (by omega) (by rw [HL.out]; decide)).mono ?_
  rintro e w4 ⟨rfl, hu', hm⟩
  rw [bys_two _ (by omega)] at hu'
  have hxk' := hm.ext hxk (fun j hj => by cases hj; exact (Nat.le_of_eq HG.out))
  clear hu hm hxk e0 e1 e2 e3 e4 e5 e6 e7 e8 kg2
  have hu := hu'
  have hxk := hxk'
  clear hu' hxk'
  have HL2 : Hid ((over L 2 (by2 dp)).length = 20) := by unfold Hid; rw [over_len (by rw [HL.out]; show 2 + 2 ≤ 20; decide)]; exact HL.out
  generalize over L 2 (by2 dp) = L' at *
  clear HL
  clear L
  obtain ⟨L, rfl⟩ : ∃ L, L = L' := ⟨_, rfl⟩
  have HL := HL2
  clear HL2
  have kg2 := hxk.block kg
  have e0 := cell_blk kg2 0
  have e1 := cell_blk kg2 1
  have e2 := cell_blk kg2 2
  have e3 := cell_blk kg2 3
  have e4 := cell_blk kg2 4
  have e5 := cell_blk kg2 5
  have e6 := cell_blk kg2 6
  have e7 := cell_blk kg2 7
  have e8 := cell_blk kg2 8
  simp at e0 e1 e2 e3 e4 e5 e6 e7 e8
  go_wp2_with fail
  refine (rlay6_any _ L 4 4 seq _ w.heap.size hu (by decide) (by decide) (by rw [HL.out]; decide) (by omega) (by rw [HL.out]; decide)).mono ?_
  rintro e w5 ⟨rfl, hu', hm⟩
  rw [bys_four' _ (by omega)] at hu'
  have hxk' := hm.ext hxk (fun j hj => by cases hj; exact (Nat.le_of_eq HG.out))
  clear hu hm hxk e0 e1 e2 e3 e4 e5 e6 e7 e8 kg2
  have hu := hu'
  have hxk := hxk'
  clear hu' hxk'
  have HL2 : Hid ((over L 4 (by4 seq)).length = 20) := by unfold Hid; rw [over_len (by rw [HL.out]; show 4 + 4 ≤ 20; decide)]; exact HL.out
  generalize over L 4 (by4 seq) = L' at *
  clear HL
  clear L
  obtain ⟨L, rfl⟩ : ∃ L, L = L' := ⟨_, rfl⟩
  have HL := HL2
  clear HL2
  have kg2 := hxk.block kg
  have e0 := cell_blk kg2 0
  have e1 := cell_blk kg2 1
  have e2 := cell_blk kg2 2
  have e3 := cell_blk kg2 3
  have e4 := cell_blk kg2 4
  have e5 := cell_blk kg2 5
  have e6 := cell_blk kg2 6
  have e7 := cell_blk kg2 7
  have e8 := cell_blk kg2 8
  simp at e0 e1 e2 e3 e4 e5 e6 e7 e8
  go_wp2_with fail
  refine (rlay6_any _ L 8 4 ack _ w.heap.size hu (by decide) (by decide) (by rw [HL.out]; decide) (by omega) (by rw [HL.out]; decide)).mono ?_
  rintro e w6 ⟨rfl, hu', hm⟩
  rw [bys_four' _ (by omega)] at hu'
  have hxk' := hm.ext hxk (fun j hj => by cases hj; exact (Nat.le_of_eq HG.out))
  clear hu hm hxk e0 e1 e2 e3 e4 e5 e6 e7 e8 kg2
  have hu := hu'
  have hxk := hxk'
  clear hu' hxk'
  have HL2 : Hid ((over L 8 (by4 ack)).length = 20) := by unfold Hid; rw [over_len (by rw [HL.out]; show 8 + 4 ≤ 20; decide)]; exact HL.out
  generalize over L 8 (by4 ack) = L' at *
  clear HL
  clear L
  obtain ⟨L, rfl⟩ : ∃ L, L = L' := ⟨_, rfl⟩
  have HL := HL2
  clear HL2
  have kg2 := hxk.block kg
  have e0 := cell_blk kg2 0
  have e1 := cell_blk kg2 1
  have e2 := cell_blk kg2 2
  have e3 := cell_blk kg2 3
  have e4 := cell_blk kg2 4
  have e5 := cell_blk kg2 5
  have e6 := cell_blk kg2 6
  have e7 := cell_blk kg2 7
  have e8 := cell_blk kg2 8
  simp at e0 e1 e2 e3 e4 e5 e6 e7 e8
  obtain ⟨g', cap', he, -, -, hcell, hfz, -, -, hset⟩ := hu.open (by rw [HL.out]; decide)
  rw [HL.out] at he
  cases he
  have c12 := hcell 12 (by rw [HL.out]; decide)
  have c13 := hcell 13 (by rw [HL.out]; decide)
  have f12 := hfz 12
  have f13 := hfz 13
  have hs12 := hset ((20 + (O.length : Int)) / 4 * 16) 12 (by rw [HL.out]; decide)
  obtain ⟨g', cap', he, -, -, -, -, -, -, hset2⟩ := hs12.open (by rw [List.length_set, HL.out]; decide)
  rw [List.length_set, HL.out] at he
  cases he
  have hs13 := hset2 f 13 (by rw [List.length_set, HL.out]; decide)
  have hmm : Mvs (fun j => j = G) w6 ((w6.setCell ⟨G, 12, none⟩ (.int .u8 ((20 + (O.length : Int)) / 4 * 16))).setCell ⟨G, 13, none⟩ (.int .u8 f)) := Mvs.tr (Mvs.set _ _ _ (by exact rfl)) (Mvs.set _ _ _ (by exact rfl))
  have hxk' := hmm.ext hxk (fun j hj => by subst hj; exact (Nat.le_of_eq HG.out))
  have HS13 := Lib.hid hs13
  have HXK := Lib.hid hxk'
  generalize L.getD 12 0 = y12 at *
  generalize L.getD 13 0 = y13 at *
  clear hcell hfz hset hs12 hset2 hs13 hmm hxk' hu hxk kg2
  go_upto_region 14 with (fail)
  have hxk := HXK.out
  have hu := HS13.out
  clear HXK HS13 c12 c13 f12 f13 e0 e1 e2 e3 e4 e5 e6 e7 e8
  generalize hW7 : (w6.setCell ⟨G, 12, none⟩ (.int .u8 ((20 + (O.length : Int)) / 4 * 16))).setCell ⟨G, 13, none⟩ (.int .u8 f) = w7 at *
  clear hW7
  have HL2 : Hid (((L.set 12 ((20 + (O.length : Int)) / 4 * 16)).set 13 f).length = 20) := by unfold Hid; rw [List.length_set, List.length_set]; exact HL.out
  generalize (L.set 12 ((20 + (O.length : Int)) / 4 * 16)).set 13 f = L' at *
  clear HL
  clear L
  obtain ⟨L, rfl⟩ : ∃ L, L = L' := ⟨_, rfl⟩
  have HL := HL2
  clear HL2
  have kg2 := hxk.block kg
  have e0 := cell_blk kg2 0
  have e1 := cell_blk kg2 1
  have e2 := cell_blk kg2 2
  have e3 := cell_blk kg2 3
  have e4 := cell_blk kg2 4
  have e5 := cell_blk kg2 5
  have e6 := cell_blk kg2 6
  have e7 := cell_blk kg2 7
  have e8 := cell_blk kg2 8
  simp at e0 e1 e2 e3 e4 e5 e6 e7 e8
  go_wp2_with fail
  refine (rlay6_any _ L 14 2 win _ w.heap.size hu (by decide) (by decide) (by rw [HL.out]; decide) (by omega) (by rw [HL.out]; decide)).mono ?_
  rintro e w8 ⟨rfl, hu', hm⟩
  rw [bys_two _ (by omega)] at hu'
  have hxk' := hm.ext hxk (fun j hj => by cases hj; exact (Nat.le_of_eq HG.out))
  clear hu hm hxk e0 e1 e2 e3 e4 e5 e6 e7 e8 kg2
  have hu := hu'
  have hxk := hxk'
  clear hu' hxk'
  have HL2 : Hid ((over L 14 (by2 win)).length = 20) := by unfold Hid; rw [over_len (by rw [HL.out]; show 14 + 2 ≤ 20; decide)]; exact HL.out
  generalize over L 14 (by2 win) = L' at *
  clear HL
  clear L
  obtain ⟨L, rfl⟩ : ∃ L, L = L' := ⟨_, rfl⟩
  have HL := HL2
  clear HL2
  have kg2 := hxk.block kg
  have e0 := cell_blk kg2 0
  have e1 := cell_blk kg2 1
  have e2 := cell_blk kg2 2
  have e3 := cell_blk kg2 3
  have e4 := cell_blk kg2 4
  have e5 := cell_blk kg2 5
  have e6 := cell_blk kg2 6
  have e7 := cell_blk kg2 7
  have e8 := cell_blk kg2 8
  simp at e0 e1 e2 e3 e4 e5 e6 e7 e8
  go_wp2_with fail
  refine (rlay6_any _ L 18 2 urg _ w.heap.size hu (by decide) (by decide) (by rw [HL.out]; decide) (by omega) (by rw [HL.out]; decide)).mono ?_
  rintro e w9 ⟨rfl, hu', hm⟩
  rw [bys_two _ (by omega)] at hu'
  have hxk' := hm.ext hxk (fun j hj => by cases hj; exact (Nat.le_of_eq HG.out))
  clear hu hm hxk e0 e1 e2 e3 e4 e5 e6 e7 e8 kg2
  have hu := hu'
  have hxk := hxk'
  clear hu' hxk'
  have HL2 : Hid ((over L 18 (by2 urg)).length = 20) := by unfold Hid; rw [over_len (by rw [HL.out]; show 18 + 2 ≤ 20; decide)]; exact HL.out
  generalize over L 18 (by2 urg) = L' at *
  clear HL
  clear L
  obtain ⟨L, rfl⟩ : ∃ L, L = L' := ⟨_, rfl⟩
  have HL := HL2
  clear HL2
  have kg2 := hxk.block kg
  have e0 := cell_blk kg2 0
  have e1 := cell_blk kg2 1
  have e2 := cell_blk kg2 2
  have e3 := cell_blk kg2 3
  have e4 := cell_blk kg2 4
  have e5 := cell_blk kg2 5
  have e6 := cell_blk kg2 6
  have e7 := cell_blk kg2 7
  have e8 := cell_blk kg2 8
  simp at e0 e1 e2 e3 e4 e5 e6 e7 e8
  have HLH : Hid (H = L) := by unfold Hid; exact HHD.out
  clear HHD
  have hGj : ∀ j, (Value.slice (some ⟨G, 0, none⟩) 20 20).ownBlock = some j → w1.heap.size ≤ j := fun j hj => by cases hj; exact Nat.le_of_eq HG.out
  have HGJ := Lib.hid hGj
  clear hGj
  go_upto_region 17 with (at_builtin; refine wpList_app isU8 rfl (.tmp 69) (.tmp 70) rfl w.heap.size _ L rfl hu _ O rfl (hur.ext hxk) (by rw [HL.out]; omega) (by rw [HL.out]; unfold maxLen; omega) (Nat.le_trans HGe.out.1 (by rw [← HG.out]; exact hxk.size)) ?_; intro v2 wa hown2 hg2 hat2; have hxa := ext_grown hxk hg2 HGJ.out; have kga := hxa.block kg; have e8 := cell_blk kga 8; simp at e8; obtain ⟨aa, na, ca, rfl⟩ := hown2.rd.shape)
  have HAT := Lib.hid (at_ge hat2 HGJ.out hxk.size)
  have hza : Hid (w.heap.size ≤ wa.heap.size) := Nat.le_trans HGe.out.1 (by rw [← HG.out]; exact hxa.size)
  clear e0 e1 e2 e3 e4 e5 e6 e7 kg2 kga hu hxk hg2 hat2
  go_wp2_with (at_builtin; go_must (refine wpList_app isU8 rfl (.tmp 72) (.tmp 74) rfl w.heap.size _ (L ++ O) rfl hown2 _ data rfl (hvd1.ext hxa) (by rw [List.length_append, HL.out]; omega) (by rw [List.length_append, HL.out]; unfold maxLen; omega) hza.out ?_); intro v3 wb hown3 hg3 hat3; have hxb := ext_grown hxa hg3 HAT.out; obtain ⟨ab, nb, cb, rfl⟩ := hown3.rd.shape)
  rw [← HLH.out, HG0.out] at hown3
  have hge3 := at_ge hat3 HAT.out hxa.size
  have HGE3 := Lib.hid hge3
  have hF : 65535 - csum (pseu s d 6 (LY.length : Int) ++ LY) = F := by
    rw [HFD.out, HLN.out]
    congr 5
  have HLL : LY.length ≤ 1480 := by rw [HLN.out]; exact hl''
  have HF := Lib.hid hF
  clear hF hge3 hg3 hat3 hown2 e8 hl''
  refine (rwhole_any s d _ LY _ hown3.rd hs hd (by omega)).mono ?_
  rintro e wc ⟨u2, rfl, hu2, hxc⟩
  obtain ⟨au2, nu2, cu2, rfl⟩ := hu2.rd.shape
  go_wp2_with fail
  refine (rfield_any _ _ _ hu2.rd ((pseu_byt _ hs hd (by decide)).app HLB.out) (by rw [List.length_append, pseu_len]; omega)).mono ?_
  rw [HF.out]
  rintro e wd ⟨rfl, rfl⟩
  go_wp2_with fail
  refine (rlay6_any _ LY 16 2 F _ w.heap.size (hown3.kept hxc) (by decide) (by decide) (by rw [HLN.out]; omega) (by omega) (by omega)).mono ?_
  rintro e we ⟨rfl, hu', hm⟩
  rw [bys_two _ (by omega), ← HG0.out, HGD.out] at hu'
  have hfin := hm.ext (hxb.tr hxc) (fun j hj => HGE3.out j hj)
  clear hm
  go_wp2_with fail
  go_ret2
  rw [hT.out]
  exact ⟨_, rfl, hu', hxW.tr (hx1.tr hfin)⟩
end Go.Proofs.YtbaidlkjbdeceaaGreat
