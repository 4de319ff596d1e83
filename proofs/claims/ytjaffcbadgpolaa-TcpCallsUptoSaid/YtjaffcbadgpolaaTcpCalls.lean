/-
  Proved here: the law TcpCalls returns true. Condition: what is read is of bulk at most 1048576.
-/
import Derived.Test.YtjaffcbadgpolaaRef6Q
import Derived.Test.YtjaffcbadgpolaaRef6S
import Derived.Test.YtjaffcbadgpolaaRaw
import Derived.Deep.Cut
namespace Go.Proofs.Ytjaffcbadgpolaa.tcpCalls
open Go.ChangeShapes Go.WideShapes Go.ChangeAt Go.RowKit Go.Cul Go.Loose raws
set_option linter.unusedVariables false
attribute [local go_sem] Loose.Still Loose.Upon Loose.vUpon

/-- What the loops keep: as raws.Inv, the data's bytes are bytes, the segment's own cells. -/
def Inv6 (base B : Nat) (C : Array Value) (v : Value) (xs : List (Op1 × Value)) (vd : Value) (w0 w : World) : Prop :=
  Inv base v xs w0 w ∧ RawD base w vd ∧ w.heap[B]? = some (.cells C 27)
theorem seg_ne : (5 : TypeId) ≠ 27 := by decide
theorem Inv6.stored {base B : Nat} {C : Array Value} {v : Value} {xs : List (Op1 × Value)} {vd : Value} {w0 w : World} (h : Inv6 base B C v xs vd w0 w) {g : Nat} {cur : Array Value} (hg : w.heap[g]? = some (.cells cur 5)) (hb : base ≤ g) (j : Nat) (y : Int) :
    Inv6 base B C v xs vd w0 (w.setCell ⟨g, j, none⟩ (.int .u8 y)) := by
  obtain ⟨h1, h2, h3⟩ := h
  refine ⟨h1.stored hg hb j y, h2.stored g j y, set_oth h3 (fun he => ?_) _ _⟩
  subst he
  rw [hg] at h3
  simp only [Option.some.injEq, Obj.cells.injEq] at h3
  exact seg_ne h3.2.1

set_option maxHeartbeats 4000000 in
set_option maxRecDepth 100000 in
theorem walk (w : World) (s : Int) (hs : 0 ≤ s ∧ s ≤ 4294967295) (d : Int) (hd : 0 ≤ d ∧ d ≤ 4294967295) (cs : Array Value) (hcs : Reads w segSh cs.toList) (ct : Array Value) (hct : Reads w segSh ct.toList) (bv : Value) (l : List Int) (hbv : Rd .u8 w bv l) (hbl : Byt l) (hnl : l.length ≤ 1048576)
    (hu2 : ∀ a m c, (cs.toList.drop 7).take 1 = [.slice a m c] → m ≤ 1048576) (hu3 : ∀ a m c, (ct.toList.drop 7).take 1 = [.slice a m c] → m ≤ 1048576) :
    Calls Try.prog 6 #[.int .u32 s, .int .u32 d, .agg cs, .agg ct, bv] w fun e w' => e = .returned (.bool true) ∧ Ext w w' := by
  obtain ⟨g, vo, vd, rfl, hg, hvo, hvd, hn, hno⟩ := open_segment hcs
  obtain ⟨h, vo', vd', rfl, hh, hvo', hvd', hn', hno'⟩ := open_segment hct
  clear hcs hct hno hno'
  obtain ⟨ao, co, rfl⟩ := hvo.shape
  obtain ⟨ad, cd, rfl, hd1, hd2, -⟩ := id hvd
  obtain ⟨ao', co', rfl⟩ := hvo'.shape
  obtain ⟨ad', cd', rfl, hd1', hd2', -⟩ := id hvd'
  have hon : g.os.length ≤ 1000000000 := Nat.le_trans (hu2 _ _ _ rfl) (by decide)
  have hon' : h.os.length ≤ 1000000000 := Nat.le_trans (hu3 _ _ _ rfl) (by decide)
  have hput := fun (W : World) (hx : Ext w W) => tput_any s d g _ _ W hg (hvo.ext hx) (hvd.ext hx) hs hd hn
  have hput6 := fun (W : World) (hx : Ext w W) => r6put_any s d g _ _ W hg (hvo.ext hx) (hvd.ext hx) hs hd hn hon
  have hmay := fun (W : World) (hx : Ext w W) => tmay_any g _ _ W hg (hvo.ext hx) (hvd.ext hx) hn
  have hmay6 := fun (W : World) (hx : Ext w W) => r6may_any g _ _ W hg (hvo.ext hx) (hvd.ext hx) hn hon
  have hsm := fun (W : World) (hx : Ext w W) => tsame_any g h _ _ _ _ W hg hh (hvo.ext hx) (hvd.ext hx) (hvo'.ext hx) (hvd'.ext hx)
  have hsm6 := fun (W : World) (hx : Ext w W) => r6same_any g h _ _ _ _ W hg hh (hvo.ext hx) (hvd.ext hx) (hvo'.ext hx) (hvd'.ext hx)
  have hpo := tpar_ok (s := s) (d := d) hbl
  have hpar := fun (v : Value) (W : World) (hv : Rd .u8 W v l) => tparse_any s d v l W hv hbl hs hd (by omega)
  have hpar6 := fun (W : World) (hx : Ext w W) => r6parse_any s d bv l W (hbv.ext hx) hbl hs hd (by omega)
  have hfl := hg.f
  generalize tput s d g = TP at *
  obtain ⟨L, E⟩ := TP
  generalize tpar s d l = PP at *
  obtain ⟨p, Z⟩ := PP
  generalize tmay g = QM at *
  generalize tsame g h = QS at *
  dsimp only at hput hput6 hpo hpar hpar6
  have HPUT := Lib.hid hput
  have HPUT6 := Lib.hid hput6
  have HMAY := Lib.hid hmay
  have HMAY6 := Lib.hid hmay6
  have HSM := Lib.hid hsm
  have HSM6 := Lib.hid hsm6
  have HPO := Lib.hid hpo
  have HPAR := Lib.hid hpar
  have HPAR6 := Lib.hid hpar6
  have HB := Lib.hid hbl
  have HBV := Lib.hid hbv
  have hps : Hid (tsame p p = true) := tsame_refl p
  obtain ⟨ab, cb, rfl, hb1, hb2, -⟩ := id hbv
  unfold maxLen at hd2 hd2' hb2
  clear hput hput6 hmay hmay6 hsm hsm6 hpo hpar hpar6 hbl hbv hvo hvd hvo' hvd' hu2 hu3 hh
  obtain ⟨g1, g2, g3, g4, g5, g6, g7, gos, gda⟩ := g
  obtain ⟨h1, h2, h3, h4, h5, h6, h7, hos, hda⟩ := h
  have HG := Lib.hid hg
  clear hg
  dsimp only [Sg.cells] at *
  go_enter Try.func6, Try.ntmps6
  go_upto_region 1 with (fail)
  generalize hW : World.alloc (World.alloc w _) _ = W
  have hxW : Ext w W := by rw [← hW]; exact (Ext.new _ _).al _
  have kg : W.heap[w.heap.size]? = some (.cells #[.int .u16 g1, .int .u16 g2, .int .u32 g3, .int .u32 g4, .int .u8 g5, .int .u16 g6, .int .u16 g7, .slice ao gos.length co, .slice ad gda.length cd] 27) := by rw [← hW]; simp only [heap_alloc_at, World.size_alloc]; repeat (first | rfl | rw [if_pos (by first | trivial | omega)] | rw [if_neg (by omega)])
  have kh : W.heap[w.heap.size + 1]? = some (.cells #[.int .u16 h1, .int .u16 h2, .int .u32 h3, .int .u32 h4, .int .u8 h5, .int .u16 h6, .int .u16 h7, .slice ao' hos.length co', .slice ad' hda.length cd'] 27) := by rw [← hW]; simp only [heap_alloc_at, World.size_alloc]; repeat (first | rfl | rw [if_pos (by first | trivial | omega)] | rw [if_neg (by omega)])
  clear hW
  generalize w.heap.size = G at *
  go_wp2_with (at_builtin; go_must (refine wpList_app isU8 rfl _ (.tmp 23) rfl W.heap.size _ [] rfl (Own.nil _ _ _ _) _ l rfl (HBV.out.ext hxW) (by simp; omega) (by simp [maxLen]; omega) (Nat.le_refl _) ?_); intro mv wa hown hga hata; have hxa : Ext W wa := nil_grow hga (Ext.rfl' W); have ka := hxa.block kg; have e0 := cell_blk ka 0; have e1 := cell_blk ka 1; have e2 := cell_blk ka 2; have e3 := cell_blk ka 3; have e4 := cell_blk ka 4; have e5 := cell_blk ka 5; have e6 := cell_blk ka 6; have e7 := cell_blk ka 7; have e8 := cell_blk ka 8; simp at e0 e1 e2 e3 e4 e5 e6 e7 e8; obtain ⟨am, nm, cm, rfl⟩ := hown.rd.shape)
  rw [List.nil_append] at hown
  have hmr := hown.rd
  have hxwa := hxW.tr hxa
  clear hown hga hata e0 e1 e2 e3 e4 e5 e6 e7 e8 ka
  refine (HPUT.out _ hxwa).mono ?_
  rintro e wb ⟨u1, rfl, hu1, hxb⟩
  have hr1 := hu1.rd
  obtain ⟨a1, n1, c1, rfl⟩ := hr1.shape
  have hxab := hxa.tr hxb
  have kg1 := hxab.block kg
  clear hu1
  have e0 := cell_blk kg1 0
  have e1 := cell_blk kg1 1
  have e2 := cell_blk kg1 2
  have e3 := cell_blk kg1 3
  have e4 := cell_blk kg1 4
  have e5 := cell_blk kg1 5
  have e6 := cell_blk kg1 6
  have e7 := cell_blk kg1 7
  have e8 := cell_blk kg1 8
  simp at e0 e1 e2 e3 e4 e5 e6 e7 e8
  go_wp2_with fail
  refine (HPUT6.out _ (hxwa.tr hxb)).mono ?_
  rintro e w2 ⟨u2, rfl, hu2, hx2⟩
  have hr2 := hu2.rd
  obtain ⟨a2, n2, c2, rfl⟩ := hr2.shape
  have hr1 := hr1.ext hx2
  have hxab := hxab.tr hx2
  have hmr2 := hmr.ext (hxb.tr hx2)
  clear hu2 e0 e1 e2 e3 e4 e5 e6 e7 e8 kg1 hxb hx2 hmr hxwa hxa
  go_wp2_with fail
  refine (HPAR.out _ _ hmr2).mono ?_
  rintro e w3 ⟨po, pd, rfl, hfo, hfr, hx3⟩
  obtain ⟨apo, cpo, rfl, hpo1, hpo2, -⟩ := id hfo.rdo
  unfold maxLen at hpo2
  obtain ⟨apd, cpd, rfl, -, -, -⟩ := id hfr.rd
  obtain ⟨p1, p2, p3, p4, p5, p6, p7, pos, pda⟩ := p
  dsimp only [Sg.cells] at *
  go_upto_region 5 with (fail)
  generalize hV : World.alloc w3 _ = V
  have hx4 : Ext w3 V := by rw [← hV]; exact Ext.new _ _
  have k16 : V.heap[w3.heap.size]? = some (.cells #[.int .u16 p1, .int .u16 p2, .int .u32 p3, .int .u32 p4, .int .u8 p5, .int .u16 p6, .int .u16 p7, .slice apo pos.length cpo, .slice apd pda.length cpd] 27) := by rw [← hV]; exact heap_alloc_new w3 _
  clear hV
  have hfo := hfo.keep (Keep.ofExt hx4)
  have hfr := hfr.kept hx4
  have hx2V := hx3.tr hx4
  have hb16 : Hid (w2.heap.size ≤ w3.heap.size) := hx3.size
  generalize w3.heap.size = B16 at *
  clear hx3 hx4
  have hr1 := hr1.ext hx2V
  have hr2 := hr2.ext hx2V
  go_wp2_with fail
  refine (HPAR6.out _ (hxW.tr (hxab.tr hx2V))).mono ?_
  rintro e w5 ⟨qo, qd, rfl, hqo, hqd, hx5⟩
  obtain ⟨aqo, cqo, rfl⟩ := hqo.shape
  obtain ⟨aqd, nqd, cqd, rfl⟩ := hqd.shape
  go_upto_region 6 with (fail)
  generalize hV2 : World.alloc w5 _ = V2
  have hx6 : Ext w5 V2 := by rw [← hV2]; exact Ext.new _ _
  have k18 : V2.heap[w5.heap.size]? = some (.cells #[.int .u16 p1, .int .u16 p2, .int .u32 p3, .int .u32 p4, .int .u8 p5, .int .u16 p6, .int .u16 p7, .slice aqo pos.length cqo, .slice aqd nqd cqd] 27) := by rw [← hV2]; exact heap_alloc_new w5 _
  clear hV2
  generalize w5.heap.size = B18 at *
  have hxV := hx5.tr hx6
  have k16 := hxV.block k16
  have hfo := hfo.keep (Keep.ofExt hxV)
  have hfr := hfr.kept hxV
  have hqo := hqo.ext hx6
  have hqd := hqd.ext hx6
  have hx2V := hx2V.tr hxV
  have q1 := run_conv_rd (P := Try.prog) (src := 25) (e := 5) (dst := 9) (by kernel_rfl) (by kernel_rfl) (by kernel_rfl) (hr1.ext hxV)
  have q2 := run_conv_rd (P := Try.prog) (src := 25) (e := 5) (dst := 9) (by kernel_rfl) (by kernel_rfl) (by kernel_rfl) (hr2.ext hxV)
  have HSM0 := Lib.hid (r6same_any _ _ _ _ _ _ V2 HPO.out HPO.out hfo.rdo hfr.rd hqo hqd)
  rw [hps.out] at HSM0
  clear hx5 hx6 hxV hqo hqd hr1 hr2
  have e0 := cell_blk k16 0
  have e1 := cell_blk k16 1
  have e2 := cell_blk k16 2
  have e3 := cell_blk k16 3
  have e4 := cell_blk k16 4
  have e5 := cell_blk k16 5
  have e6 := cell_blk k16 6
  have e7 := cell_blk k16 7
  have e8 := cell_blk k16 8
  simp at e0 e1 e2 e3 e4 e5 e6 e7 e8
  have y0 := cell_blk k18 0
  have y1 := cell_blk k18 1
  have y2 := cell_blk k18 2
  have y3 := cell_blk k18 3
  have y4 := cell_blk k18 4
  have y5 := cell_blk k18 5
  have y6 := cell_blk k18 6
  have y7 := cell_blk k18 7
  have y8 := cell_blk k18 8
  simp at y0 y1 y2 y3 y4 y5 y6 y7 y8
  go_wp2_with fail
  refine HSM0.out.mono ?_
  rintro e w7 ⟨rfl, hx7⟩
  have k16 := hx7.block k16
  have hfo := hfo.keep (Keep.ofExt hx7)
  have hfr := hfr.kept hx7
  have hx27 := hx2V.tr hx7
  clear e0 e1 e2 e3 e4 e5 e6 e7 e8 y0 y1 y2 y3 y4 y5 y6 y7 y8 q1 q2 HSM0 hx7 hx2V k18
  obtain ⟨xs, hxs, hrow, hdat⟩ := hfo
  have hn2 : xs.length = pos.length := by rw [← hxs, List.length_map]
  have hI : Inv6 w2.heap.size B16 #[.int .u16 p1, .int .u16 p2, .int .u32 p3, .int .u32 p4, .int .u8 p5, .int .u16 p6, .int .u16 p7, .slice apo pos.length cpo, .slice apd pda.length cpd] (.slice apo pos.length cpo) xs (.slice apd pda.length cpd) w7 w7 := ⟨⟨fun x hx => RawD.of (hdat x hx), hrow, Mvs.refl _ _⟩, RawD.of hfr, k16⟩
  have HXS := Lib.hid hn2
  clear hrow hdat hxs hfr k16 hn2
  go_wp2_with fail
  go_loopw [20] (fun i wr => ∃ k : Nat, k ≤ pda.length ∧ i = .int .i64 k ∧ Inv6 w2.heap.size B16 #[.int .u16 p1, .int .u16 p2, .int .u32 p3, .int .u32 p4, .int .u8 p5, .int .u16 p6, .int .u16 p7, .slice apo pos.length cpo, .slice apd pda.length cpd] (.slice apo pos.length cpo) xs (.slice apd pda.length cpd) w7 wr) (fun i _ => pda.length - (intOf i).toNat)
  case atStart => exact ⟨0, Nat.zero_le _, rfl, hI⟩
  case round =>
    obtain ⟨k, hk, rfl, hI⟩ := hrel
    by_cases hlt : k < pda.length
    · rcases hI.2.1 with ⟨a', c', he⟩ | ⟨gd, n', cap', cur, he, hb, hh, hn', hm', hsz, hx⟩
      · simp only [Value.slice.injEq] at he; omega
      cases he
      obtain ⟨x, hx⟩ := hx k hlt
      have cx := cell_blk hh k
      rw [hx] at cx
      have hz := fz_blk hh
      have e8 := cell_blk hI.2.2 8
      simp at e8
      have HI2 := Lib.hid (fun y => hI.stored hh hb k y)
      unfold maxLen at hm'
      clear hI hx hh
      go_wp2_with fail
      go_roundw
      case rel => exact ⟨k + 1, by omega, by go_num, HI2.out _⟩
      case measure => simp [intOf]; omega
    · obtain rfl : k = pda.length := by omega
      have e8 := cell_blk hI.2.2 8
      simp at e8
      have HI := Lib.hid hI
      clear hI
      go_wp2_with fail
      clear e8
      go_loopw [21] (fun i wr => ∃ k : Nat, k ≤ pos.length ∧ i = .int .i64 k ∧ Inv6 w2.heap.size B16 #[.int .u16 p1, .int .u16 p2, .int .u32 p3, .int .u32 p4, .int .u8 p5, .int .u16 p6, .int .u16 p7, .slice apo pos.length cpo, .slice apd pda.length cpd] (.slice apo pos.length cpo) xs (.slice apd pda.length cpd) w7 wr) (fun i _ => pos.length - (intOf i).toNat)
      case atStart => exact ⟨0, Nat.zero_le _, rfl, HI.out⟩
      case round =>
        obtain ⟨k, hk, rfl, hI⟩ := hrel
        by_cases hlt : k < pos.length
        · obtain ⟨go, cap', he, hcp, hcell, hraw⟩ := hI.1.at (i := k) (by rw [HXS.out]; exact hlt)
          rw [HXS.out] at he hcp
          cases he
          have e7 := cell_blk hI.2.2 7
          simp at e7
          obtain ⟨au, nu, cu, hu, hnum⟩ := hraw.shape
          have HU := Lib.hid hu
          rw [hu] at hcell hraw
          have hII := Lib.hid hI
          clear hI hu hraw
          go_wp2_with fail
          go_loopw [22] (fun i wq => ∃ j : Nat, j ≤ nu ∧ i = .int .i64 j ∧ Inv6 w2.heap.size B16 #[.int .u16 p1, .int .u16 p2, .int .u32 p3, .int .u32 p4, .int .u8 p5, .int .u16 p6, .int .u16 p7, .slice (some ⟨go, 0, none⟩) pos.length cpo, .slice apd pda.length cpd] (.slice (some ⟨go, 0, none⟩) pos.length cpo) xs (.slice apd pda.length cpd) w7 wq) (fun i _ => nu - (intOf i).toNat)
          case atStart => exact ⟨0, Nat.zero_le _, rfl, hII.out⟩
          case round =>
            obtain ⟨j, hj, rfl, hI⟩ := hrel
            obtain ⟨g', cap', he, hcp', hcell, hraw⟩ := hI.1.at (i := k) (by rw [HXS.out]; exact hlt)
            rw [HXS.out] at he hcp'
            cases he
            rw [HU.out] at hcell hraw
            have e7 := cell_blk hI.2.2 7
            simp at e7
            by_cases hlt2 : j < nu
            · rcases hraw with ⟨a', c', he⟩ | ⟨gd, n', cap', cur, he, hb, hh, hn', hm', hsz, hx⟩
              · cases he; omega
              cases he
              obtain ⟨x, hx⟩ := hx j hlt2
              have cx := cell_blk hh j
              rw [hx] at cx
              have hz := fz_blk hh
              have HI2 := Lib.hid (fun y => hI.stored hh hb j y)
              clear hI hx hh
              go_wp2_with fail
              go_roundw
              case rel => exact ⟨j + 1, by omega, by go_num, HI2.out _⟩
              case measure => simp [intOf]; omega
            · obtain rfl : j = nu := by omega
              have HI := Lib.hid hI
              clear hI
              go_wp2_with fail
              go_roundw
              case rel => exact ⟨k + 1, by omega, by go_num, HI.out⟩
              case measure => simp [intOf]; omega
        · obtain rfl : k = pos.length := by omega
          have hm := hI.1.2.2
          have e7 := cell_blk hI.2.2 7
          simp at e7
          have hxe : Ext w2 _ := hm.ext hx27 (fun b hb => hb)
          have hxWe := hxab.tr hxe
          have hxwe := hxW.tr hxWe
          have hA := hmr2.ext hxe
          have hB := HBV.out.ext hxwe
          have kg := hxWe.block kg
          have kh := hxWe.block kh
          clear hI hm HI
          go_upto_region 19 with (fail)
          clear e7
          have e0 := cell_blk kg 0
          have e1 := cell_blk kg 1
          have e2 := cell_blk kg 2
          have e3 := cell_blk kg 3
          have e4 := cell_blk kg 4
          have e5 := cell_blk kg 5
          have e6 := cell_blk kg 6
          have e7 := cell_blk kg 7
          have e8 := cell_blk kg 8
          simp at e0 e1 e2 e3 e4 e5 e6 e7 e8
          have y0 := cell_blk kh 0
          have y1 := cell_blk kh 1
          have y2 := cell_blk kh 2
          have y3 := cell_blk kh 3
          have y4 := cell_blk kh 4
          have y5 := cell_blk kh 5
          have y6 := cell_blk kh 6
          have y7 := cell_blk kh 7
          have y8 := cell_blk kh 8
          simp at y0 y1 y2 y3 y4 y5 y6 y7 y8
          have HC1 := Lib.hid (fun (W : World) (hx : Ext wr W) => run_conv_rd (P := Try.prog) (src := 25) (e := 5) (dst := 9) (by kernel_rfl) (by kernel_rfl) (by kernel_rfl) (hA.ext hx))
          have HC2 := Lib.hid (fun (W : World) (hx : Ext wr W) => run_conv_rd (P := Try.prog) (src := 25) (e := 5) (dst := 9) (by kernel_rfl) (by kernel_rfl) (by kernel_rfl) (hB.ext hx))
          refine wp_region_grow [(7, is (.bool QM)), (9, is (.bool QM)), (15, is (.bool QS)), (18, is (.bool QS)), (23, is (.int .u32 (sLen gda.length g5))), (25, is (.int .u32 (sLen gda.length g5))), (29, is (.bool true))] ?_ (by kernel_rfl) (by kernel_rfl) ?_
          · exact lasts_is (lasts_is (lasts_is (lasts_is (lasts_is (lasts_is (lasts_is lasts_nil))))))
          iterate 1
            apply wpL_none rfl rfl
            · intro w' hw' hn'; go_simp; exact rfl
            intro K hK; go_simp; refine hK _ _ ?_; clear hK K
          apply wpL_none rfl rfl
          · intro w' hw' hn'; have q := HC1.out w' hw'; go_simp; exact rfl
          intro K hK; go_simp; refine hK _ _ ?_; clear hK K
          iterate 1
            apply wpL_none rfl rfl
            · intro w' hw' hn'; go_simp; exact rfl
            intro K hK; go_simp; refine hK _ _ ?_; clear hK K
          apply wpL_none rfl rfl
          · intro w' hw' hn'; have q := HC2.out w' hw'; go_simp; exact rfl
          intro K hK; go_simp; refine hK _ _ ?_; clear hK K
          iterate 2
            apply wpL_none rfl rfl
            · intro w' hw' hn'; go_simp; exact rfl
            intro K hK; go_simp; refine hK _ _ ?_; clear hK K
          iterate 1
            apply wpL_none rfl rfl
            · intro w' hw' hn'; have e0 := Ext.cell hw' e0; have e1 := Ext.cell hw' e1; have e2 := Ext.cell hw' e2; have e3 := Ext.cell hw' e3; have e4 := Ext.cell hw' e4; have e5 := Ext.cell hw' e5; have e6 := Ext.cell hw' e6; have e7 := Ext.cell hw' e7; have e8 := Ext.cell hw' e8; go_simp; exact rfl
            intro K hK; go_simp; refine hK _ _ ?_; clear hK K
          apply wpL_some rfl rfl
          · intro w' hw' hn'
            go_simp
            refine ⟨Ext.rfl' _, ?_⟩
            refine (HMAY.out _ (hxwe.tr hw')).mono ?_
            rintro e w2 ⟨rfl, hx⟩
            exact ⟨_, rfl, hx, rfl⟩
          intro v w' hw' hD' hv
          obtain rfl : v = _ := hv
          clear hw' hD' w'
          intro K hK; go_simp; refine hK _ _ ?_; clear hK K
          iterate 1
            apply wpL_none rfl rfl
            · intro w' hw' hn'; have e0 := Ext.cell hw' e0; have e1 := Ext.cell hw' e1; have e2 := Ext.cell hw' e2; have e3 := Ext.cell hw' e3; have e4 := Ext.cell hw' e4; have e5 := Ext.cell hw' e5; have e6 := Ext.cell hw' e6; have e7 := Ext.cell hw' e7; have e8 := Ext.cell hw' e8; go_simp; exact rfl
            intro K hK; go_simp; refine hK _ _ ?_; clear hK K
          apply wpL_some rfl rfl
          · intro w' hw' hn'
            go_simp
            refine ⟨Ext.rfl' _, ?_⟩
            refine (HMAY6.out _ (hxwe.tr hw')).mono ?_
            rintro e w2 ⟨rfl, hx⟩
            exact ⟨_, rfl, hx, rfl⟩
          intro v w' hw' hD' hv
          obtain rfl : v = _ := hv
          clear hw' hD' w'
          intro K hK; go_simp; refine hK _ _ ?_; clear hK K
          iterate 3
            apply wpL_none rfl rfl
            · intro w' hw' hn'; go_simp; exact rfl
            intro K hK; go_simp; refine hK _ _ ?_; clear hK K
          iterate 1
            apply wpL_none rfl rfl
            · intro w' hw' hn'; have e0 := Ext.cell hw' e0; have e1 := Ext.cell hw' e1; have e2 := Ext.cell hw' e2; have e3 := Ext.cell hw' e3; have e4 := Ext.cell hw' e4; have e5 := Ext.cell hw' e5; have e6 := Ext.cell hw' e6; have e7 := Ext.cell hw' e7; have e8 := Ext.cell hw' e8; go_simp; exact rfl
            intro K hK; go_simp; refine hK _ _ ?_; clear hK K
          iterate 1
            apply wpL_none rfl rfl
            · intro w' hw' hn'; have y0 := Ext.cell hw' y0; have y1 := Ext.cell hw' y1; have y2 := Ext.cell hw' y2; have y3 := Ext.cell hw' y3; have y4 := Ext.cell hw' y4; have y5 := Ext.cell hw' y5; have y6 := Ext.cell hw' y6; have y7 := Ext.cell hw' y7; have y8 := Ext.cell hw' y8; go_simp; exact rfl
            intro K hK; go_simp; refine hK _ _ ?_; clear hK K
          apply wpL_some rfl rfl
          · intro w' hw' hn'
            go_simp
            refine ⟨Ext.rfl' _, ?_⟩
            refine (HSM.out _ (hxwe.tr hw')).mono ?_
            rintro e w2 ⟨rfl, hx⟩
            exact ⟨_, rfl, hx, rfl⟩
          intro v w' hw' hD' hv
          obtain rfl : v = _ := hv
          clear hw' hD' w'
          intro K hK; go_simp; refine hK _ _ ?_; clear hK K
          iterate 1
            apply wpL_none rfl rfl
            · intro w' hw' hn'; have e0 := Ext.cell hw' e0; have e1 := Ext.cell hw' e1; have e2 := Ext.cell hw' e2; have e3 := Ext.cell hw' e3; have e4 := Ext.cell hw' e4; have e5 := Ext.cell hw' e5; have e6 := Ext.cell hw' e6; have e7 := Ext.cell hw' e7; have e8 := Ext.cell hw' e8; go_simp; exact rfl
            intro K hK; go_simp; refine hK _ _ ?_; clear hK K
          iterate 1
            apply wpL_none rfl rfl
            · intro w' hw' hn'; have y0 := Ext.cell hw' y0; have y1 := Ext.cell hw' y1; have y2 := Ext.cell hw' y2; have y3 := Ext.cell hw' y3; have y4 := Ext.cell hw' y4; have y5 := Ext.cell hw' y5; have y6 := Ext.cell hw' y6; have y7 := Ext.cell hw' y7; have y8 := Ext.cell hw' y8; go_simp; exact rfl
            intro K hK; go_simp; refine hK _ _ ?_; clear hK K
          apply wpL_some rfl rfl
          · intro w' hw' hn'
            go_simp
            refine ⟨Ext.rfl' _, ?_⟩
            refine (HSM6.out _ (hxwe.tr hw')).mono ?_
            rintro e w2 ⟨rfl, hx⟩
            exact ⟨_, rfl, hx, rfl⟩
          intro v w' hw' hD' hv
          obtain rfl : v = _ := hv
          clear hw' hD' w'
          intro K hK; go_simp; refine hK _ _ ?_; clear hK K
          iterate 3
            apply wpL_none rfl rfl
            · intro w' hw' hn'; go_simp; exact rfl
            intro K hK; go_simp; refine hK _ _ ?_; clear hK K
          iterate 1
            apply wpL_none rfl rfl
            · intro w' hw' hn'; have e0 := Ext.cell hw' e0; have e1 := Ext.cell hw' e1; have e2 := Ext.cell hw' e2; have e3 := Ext.cell hw' e3; have e4 := Ext.cell hw' e4; have e5 := Ext.cell hw' e5; have e6 := Ext.cell hw' e6; have e7 := Ext.cell hw' e7; have e8 := Ext.cell hw' e8; go_simp; exact rfl
            intro K hK; go_simp; refine hK _ _ ?_; clear hK K
          apply wpL_some rfl rfl
          · intro w' hw' hn'
            go_simp
            refine ⟨Ext.rfl' _, ?_⟩
            refine (length_any _ _ _ _ _ _ _ _ _ _ _ _ hfl).mono ?_
            rintro e w2 ⟨rfl, hx⟩
            exact ⟨_, rfl, hx, rfl⟩
          intro v w' hw' hD' hv
          obtain rfl : v = _ := hv
          clear hw' hD' w'
          intro K hK; go_simp; refine hK _ _ ?_; clear hK K
          iterate 1
            apply wpL_none rfl rfl
            · intro w' hw' hn'; have e0 := Ext.cell hw' e0; have e1 := Ext.cell hw' e1; have e2 := Ext.cell hw' e2; have e3 := Ext.cell hw' e3; have e4 := Ext.cell hw' e4; have e5 := Ext.cell hw' e5; have e6 := Ext.cell hw' e6; have e7 := Ext.cell hw' e7; have e8 := Ext.cell hw' e8; go_simp; exact rfl
            intro K hK; go_simp; refine hK _ _ ?_; clear hK K
          apply wpL_some rfl rfl
          · intro w' hw' hn'
            go_simp
            refine ⟨Ext.rfl' _, ?_⟩
            refine (r6len_any _ _ _ _ _ _ _ _ _ _ _ _ hfl hn).mono ?_
            rintro e w2 ⟨rfl, hx⟩
            exact ⟨_, rfl, hx, rfl⟩
          intro v w' hw' hD' hv
          obtain rfl : v = _ := hv
          clear hw' hD' w'
          intro K hK; go_simp; refine hK _ _ ?_; clear hK K
          iterate 3
            apply wpL_none rfl rfl
            · intro w' hw' hn'; go_simp; exact rfl
            intro K hK; go_simp; refine hK _ _ ?_; clear hK K
          apply wpL_some rfl rfl
          · intro w' hw' hn'
            go_simp
            refine ⟨Ext.rfl' _, ?_⟩
            refine (wakes6_any _).mono ?_
            rintro e w2 ⟨rfl, hx⟩
            exact ⟨_, rfl, hx, rfl⟩
          intro v w' hw' hD' hv
          obtain rfl : v = _ := hv
          clear hw' hD' w'
          intro K hK; go_simp; refine hK _ _ ?_; clear hK K
          iterate 2
            apply wpL_none rfl rfl
            · intro w' hw' hn'; go_simp; exact rfl
            intro K hK; go_simp; refine hK _ _ ?_; clear hK K
          refine wpL_nil ?_
          intro w9 hx9 _
          go_wp2_with fail
          go_ret
          exact ⟨rfl, hxwe.tr hx9⟩
end Go.Proofs.Ytjaffcbadgpolaa.tcpCalls
