/-
  Proved here: what shift.piece computes. Condition: numbers within their kinds, the piece lies within the data, at most 100000 options and 1000000 bytes.
-/
import Derived.Test.YtgbbpibcmpeneaaSh
import Derived.Test.YtgbbpibcmpeneaaPlain
import Derived.Test.YtgbbpibcmpeneaaOptA
namespace Go.Proofs.Ytgbbpibcmpeneaa
set_option maxRecDepth 200000
open Go.ChangeShapes Go.WideShapes Go.ChangeAt Go.RowKit Go.Cul Go.Loose
set_option linter.unusedVariables false

theorem copied_any (v : Value) (os : List Op1) (w : World) (hv : RdO w v os) (hn : os.length ≤ 100000) (hd : ∀ o ∈ os, o.2.length ≤ 140737488351232) :
    Calls Try.prog 54 #[v] w fun e w' => ∃ u, e = .returned u ∧ FrO w' w.heap.size u (owo os 0) ∧ Ext w w' := by
  have h := without_any v os 0 w hv hn hd
  obtain ⟨a, c, rfl⟩ := hv.shape
  have H := Lib.hid h
  clear h hv hd
  go_enter Try.func54, Try.ntmps54
  go_wp2_with fail
  refine H.out.mono ?_
  rintro e w1 ⟨u, rfl, hu, hx⟩
  go_wp2_with fail
  go_ret
  exact ⟨_, rfl, hu, hx⟩

theorem FrO.lowS {w : World} {base base' : Nat} {v : Value} {os : List Op1} (h : FrO w base v os) (hb : base' ≤ base) : FrO w base' v os := by
  obtain ⟨xs, q1, q2, q3⟩ := h
  refine ⟨xs, q1, ⟨q2.1, ?_⟩, fun x hx => (q3 x hx).low hb⟩
  rcases q2.2 with h0 | ⟨g, cap, cur, h1, hb', r⟩
  · exact .inl h0
  · exact .inr ⟨g, cap, cur, h1, by omega, r⟩
theorem anot9 (f : Int) (h : 0 ≤ f ∧ f ≤ 255) : bits BinOp.andNot IntKind.u8 f 9 = clr9 f := by
  obtain ⟨n, rfl⟩ := Int.eq_ofNat_of_zero_le h.1
  have hn : n < 256 := by omega
  clear h; revert n; decide +kernel
theorem anot32 (f : Int) (h : 0 ≤ f ∧ f ≤ 255) : bits BinOp.andNot IntKind.u8 f 32 = clr32 f := by
  obtain ⟨n, rfl⟩ := Int.eq_ofNat_of_zero_le h.1
  have hn : n < 256 := by omega
  clear h; revert n; decide +kernel
theorem clr9_bd {f : Int} (h : 0 ≤ f ∧ f ≤ 255) : 0 ≤ clr9 f ∧ clr9 f ≤ 255 := by unfold clr9; omega
theorem clr32_bd {f : Int} (h : 0 ≤ f ∧ f ≤ 255) : 0 ≤ clr32 f ∧ clr32 f ≤ 255 := by unfold clr32; omega

/-- What piece's blocks hold. -/
def PQ (N : Nat) (C3 C7 : Array Value) (vo : Value) (os : List Op1) (vd : Value) (D : List Int) (w wc : World) : Prop :=
  wc.heap[N]? = some (.cells C3 51) ∧ wc.heap[N + 1]? = some (.cells #[.int .u16 0, .int .u16 0, .int .u32 0, .int .u32 0, .int .u8 0, .int .u16 0, .int .u16 0, .slice none 0 0, .slice none 0 0] 51) ∧
  wc.heap[N + 1 + 1]? = some (.cells C7 51) ∧ FrO wc (N + 1 + 1 + 1) vo os ∧ Fr wc (N + 1 + 1 + 1) 5 .u8 vd D ∧ Below N w wc
theorem PQ.set {N : Nat} {C3 C7 : Array Value} {vo : Value} {os : List Op1} {vd : Value} {D : List Int} {w wc : World} (h : PQ N C3 C7 vo os vd D w wc) (i : Nat) (v : Value) :
    PQ N C3 (C7.setIfInBounds i v) vo os vd D w (wc.setCell ⟨N + 1 + 1, i, none⟩ v) := by
  obtain ⟨h1, h2, h3, h4, h5, h6⟩ := h
  have hm : Mvs (fun k => k = N + 1 + 1) wc (wc.setCell ⟨N + 1 + 1, i, none⟩ v) := Mvs.set _ _ _ rfl
  have hk := Keep.ofMvs hm (base := N + 1 + 1 + 1) (fun k hk => by omega)
  exact ⟨hm.keep h1 (by omega), hm.keep h2 (by omega), set_blk h3 i v, h4.keep hk, Fr.keep h5 hk, Below.setCell h6 (by show N ≤ N + 1 + 1; omega) _⟩

set_option maxHeartbeats 2000000 in
set_option maxRecDepth 100000 in
theorem piece_any (g : Sg) (fr n : Nat) (vo vd : Value) (w : World) (hg : g.ok) (hvo : RdO w vo g.os) (hvd : Rd .u8 w vd g.data) (hfit : fr + n ≤ g.data.length) (hn : g.os.length ≤ 100000) (hd : ∀ o ∈ g.os, o.2.length ≤ 140737488351232) (hl : g.data.length ≤ 1000000) :
    Calls Try.prog 47 #[.agg (g.cells vo vd), .int .i64 fr, .int .i64 n] w fun e w' => ∃ vo' vd', e = .returned (.agg ((pieceS g fr n).cells vo' vd')) ∧ FrO w' w.heap.size vo' (pieceS g fr n).os ∧ Fr w' w.heap.size 5 .u8 vd' (pieceS g fr n).data ∧ Ext w w' := by
  have hP : Hid (pieceS g fr n = { g with seq := (g.seq + fr) % 4294967296, os := owo g.os 0, data := (g.data.drop fr).take n, urg := pieceU g.urg fr, f := pieceF g fr n }) := rfl
  have hF : Hid (pieceF g fr n = if 0 < fr ∧ pieceU g.urg fr = 0 then clr32 (if fr + n < g.data.length then clr9 g.f else g.f) else (if fr + n < g.data.length then clr9 g.f else g.f)) := rfl
  have hU : Hid (pieceU g.urg fr = if g.urg - fr < 0 then 0 else g.urg - fr) := rfl
  obtain ⟨ao, co, rfl⟩ := hvo.shape
  obtain ⟨ad, cd, rfl, hd1, hd2, hdr⟩ := id hvd
  unfold maxLen at hd2
  have hct := hvd.cut fr n (fr + n) rfl hfit
  have hub : 0 ≤ pieceU g.urg fr ∧ pieceU g.urg fr ≤ 65535 := by have := hg.urg; unfold pieceU; split <;> omega
  have hgu := hg.urg
  have hgf := hg.f
  generalize pieceU g.urg fr = U at *
  generalize pieceF g fr n = F at *
  generalize pieceS g fr n = PS at *
  have hcp := Lib.hid (fun (W : World) (hx : Ext w W) => copied_any _ g.os W (hvo.ext hx) hn hd)
  obtain ⟨sp, dp, seq, ack, f, win, urg, os, data⟩ := g
  dsimp only [Sg.cells] at *
  clear hvo hvd hg hd
  go_enter Try.func47, Try.ntmps47
  go_upto_region 2 with (fail)
  generalize hW : World.alloc (World.alloc (World.alloc w _) _) _ = W
  have hxW : Ext w W := by rw [← hW]; exact ((Ext.new w _).al _).al _
  have k3 : W.heap[w.heap.size]? = some (.cells #[.int .u16 sp, .int .u16 dp, .int .u32 seq, .int .u32 ack, .int .u8 f, .int .u16 win, .int .u16 urg, .slice ao os.length co, .slice ad data.length cd] 51) := by rw [← hW]; simp only [heap_alloc_at, World.size_alloc]; repeat (first | rfl | rw [if_pos (by first | trivial | omega)] | rw [if_neg (by omega)])
  have k6 : W.heap[w.heap.size + 1]? = some (.cells #[.int .u16 0, .int .u16 0, .int .u32 0, .int .u32 0, .int .u8 0, .int .u16 0, .int .u16 0, .slice none 0 0, .slice none 0 0] 51) := by rw [← hW]; simp only [heap_alloc_at, World.size_alloc]; repeat (first | rfl | rw [if_pos (by first | trivial | omega)] | rw [if_neg (by omega)])
  have k7 : W.heap[w.heap.size + 1 + 1]? = some (.cells #[.int .u16 sp, .int .u16 dp, .int .u32 seq, .int .u32 ack, .int .u8 f, .int .u16 win, .int .u16 urg, .slice ao os.length co, .slice ad data.length cd] 51) := by rw [← hW]; simp only [heap_alloc_at, World.size_alloc]; repeat (first | rfl | rw [if_pos (by first | trivial | omega)] | rw [if_neg (by omega)])
  clear hW
  have e2 := cell_blk k3 2
  simp at e2
  have y2 := cell_blk k7 2
  simp at y2
  have f7 := fz_blk k7
  go_wp2_with fail
  refine (sadd_any seq fr W).mono ?_
  rintro e w' ⟨rfl, hww⟩
  obtain rfl : W = w' := hww.symm
  clear hww
  have m7 : ∀ v, Mvs (fun k => k = w.heap.size + 1 + 1) W (W.setCell ⟨w.heap.size + 1 + 1, 2, none⟩ v) := fun v => Mvs.set _ _ _ rfl
  have M7 := Lib.hid (m7 (.int .u32 ((seq + fr) % 4294967296)))
  have kd := set_blk k7 2 (.int .u32 ((seq + fr) % 4294967296))
  simp at kd
  clear m7
  go_upto_region 3 with (fail)
  clear e2 y2 f7
  have hm := M7.out
  have k3 := hm.keep k3 (by omega)
  have k6 := hm.keep k6 (by omega)
  have hx := hm.ext hxW (fun k hk => by omega)
  clear M7 hm hxW k7
  generalize W.setCell ⟨w.heap.size + 1 + 1, 2, none⟩ (.int .u32 ((seq + fr) % 4294967296)) = W1 at *
  generalize (seq + fr) % 4294967296 = SQ at *
  have e7 := cell_blk k3 7
  simp at e7
  go_wp2_with fail
  refine (hcp.out _ hx).mono ?_
  rintro e w1 ⟨u, rfl, hu, hx1⟩
  obtain ⟨au, cu, rfl⟩ := hu.rdo.shape
  have hu := hu
  have hb3 := lt_of_block kd
  have k3 := hx1.block k3
  have k6 := hx1.block k6
  have kd := hx1.block kd
  have hx := hx.tr hx1
  have hs1 := hx1.size
  clear hx1 e7
  have y7 := cell_blk kd 7
  simp at y7
  have f7 := fz_blk kd 7
  have M7 := Lib.hid (Mvs.set (S := fun k => k = w.heap.size + 1 + 1) w1 ⟨w.heap.size + 1 + 1, 7, none⟩ (.slice au (owo os 0).length cu) rfl)
  have kd := set_blk kd 7 (.slice au (owo os 0).length cu)
  simp at kd
  go_upto_region 4 with (fail)
  have hm := M7.out
  have k3 := hm.keep k3 (by omega)
  have k6 := hm.keep k6 (by omega)
  have hx := hm.ext hx (fun k hk => by omega)
  have hu := hu.keep (Keep.ofMvs hm (fun k hk => by omega))
  clear M7 hm y7 f7
  generalize w1.setCell ⟨w.heap.size + 1 + 1, 7, none⟩ (.slice au (owo os 0).length cu) = W2 at *
  have hu := hu.lowS (base' := w.heap.size + 1 + 1 + 1) (by omega)
  generalize owo os 0 = OS at *
  have e8 := cell_blk k3 8
  simp at e8
  have b1 : (0 : Int) ≤ fr := by omega
  have b2 : (fr : Int) + n ≤ cd := by omega
  have b3 : (fr : Int) ≤ (fr : Int) + n := by omega
  obtain ⟨Dn, hDn⟩ : ∃ D, D = (data.drop fr).take n := ⟨_, rfl⟩
  have hDl : Dn.length = n := by rw [hDn, List.length_take, List.length_drop]; omega
  have hsel : ∀ W : World, Ext w W → Rd .u8 W (.slice (if n = 0 then ad else Option.map (fun x : Addr => x.add fr) ad) n n) Dn := fun W hW => by
    by_cases hn0 : n = 0
    · exact ⟨_, n, by rw [hDl], by omega, by unfold maxLen; omega, .inl (List.eq_nil_of_length_eq_zero (by omega))⟩
    · have hc' := hct
      rw [if_neg (by omega), ← hDn] at hc'
      rw [if_neg hn0]
      obtain ⟨a', c', he, q1, q2, q3⟩ := hc'
      simp only [Value.slice.injEq] at he
      obtain ⟨rfl, -, -⟩ := he
      refine ⟨_, n, by rw [hDl], by omega, by unfold maxLen; omega, ?_⟩
      rcases q3 with q3 | ⟨b, o, q4, q3⟩
      · exact .inl q3
      · exact .inr ⟨b, o, q4, fun i hi => hW.cell (q3 i hi)⟩
  have HSEL := Lib.hid hsel
  clear hsel
  go_cut [] from 8 (fun wc => ∃ a m c, PQ w.heap.size #[.int .u16 sp, .int .u16 dp, .int .u32 seq, .int .u32 ack, .int .u8 f, .int .u16 win, .int .u16 urg, .slice ao os.length co, .slice ad data.length cd] #[.int .u16 sp, .int .u16 dp, .int .u32 SQ, .int .u32 ack, .int .u8 f, .int .u16 win, .int .u16 urg, .slice au OS.length cu, .slice a m c] (.slice au OS.length cu) OS (.slice a m c) Dn w wc)
  case first =>
    have HD := Lib.hid hDn
    clear hDn hct hdr
    by_cases hn0 : n = 0
    · subst hn0
      have hr0 := HSEL.out W2 hx
      rw [if_pos rfl] at hr0
      go_wp2_with fail
      refine (bclone_any _ Dn W2 hr0 (by omega)).mono ?_
      rintro e w3 ⟨v3, rfl, hv3, hx3⟩
      obtain ⟨a, m, c, rfl⟩ := hv3.rd.shape
      have kd3 := hx3.block kd
      have y8 := cell_blk kd3 8
      simp at y8
      have f8 := fz_blk kd3 8
      have hb2 := lt_of_block kd
      have hp : PQ w.heap.size #[.int .u16 sp, .int .u16 dp, .int .u32 seq, .int .u32 ack, .int .u8 f, .int .u16 win, .int .u16 urg, .slice ao os.length co, .slice ad data.length cd] #[.int .u16 sp, .int .u16 dp, .int .u32 SQ, .int .u32 ack, .int .u8 f, .int .u16 win, .int .u16 urg, .slice au OS.length cu, .slice ad data.length cd] (.slice au OS.length cu) OS (.slice a m c) Dn w w3 := ⟨hx3.block k3, hx3.block k6, kd3, hu.keep (Keep.ofExt hx3), hv3.low (by omega), hx.tr hx3⟩
      have hp := hp.set 8 (.slice a m c)
      simp at hp
      have HP := Lib.hid hp
      clear hp kd3
      go_wp2_with fail
      go_meet
      case rel => exact ⟨a, m, c, HP.out⟩
    · have hr0 := HSEL.out W2 hx
      rw [if_neg hn0] at hr0
      go_wp2_with fail
      refine (bclone_any _ Dn W2 hr0 (by omega)).mono ?_
      rintro e w3 ⟨v3, rfl, hv3, hx3⟩
      obtain ⟨a, m, c, rfl⟩ := hv3.rd.shape
      have kd3 := hx3.block kd
      have y8 := cell_blk kd3 8
      simp at y8
      have f8 := fz_blk kd3 8
      have hb2 := lt_of_block kd
      have hp : PQ w.heap.size #[.int .u16 sp, .int .u16 dp, .int .u32 seq, .int .u32 ack, .int .u8 f, .int .u16 win, .int .u16 urg, .slice ao os.length co, .slice ad data.length cd] #[.int .u16 sp, .int .u16 dp, .int .u32 SQ, .int .u32 ack, .int .u8 f, .int .u16 win, .int .u16 urg, .slice au OS.length cu, .slice ad data.length cd] (.slice au OS.length cu) OS (.slice a m c) Dn w w3 := ⟨hx3.block k3, hx3.block k6, kd3, hu.keep (Keep.ofExt hx3), hv3.low (by omega), hx.tr hx3⟩
      have hp := hp.set 8 (.slice a m c)
      simp at hp
      have HP := Lib.hid hp
      clear hp kd3
      go_wp2_with fail
      go_meet
      case rel => exact ⟨a, m, c, HP.out⟩
  obtain ⟨a, m, c, hq⟩ := hcut
  have HDn := Lib.hid hDn
  have hxc := hq.2.2.2.2.2
  clear hDn hct hdr HSEL hcp b1 b2 b3 k3 k6 kd hu hx
  obtain ⟨W3, rfl⟩ : ∃ W3 : World, W3 = wc := ⟨_, rfl⟩
  have e6 := cell_blk hq.1 6
  have e8 := cell_blk hq.1 8
  simp at e6 e8
  have HQ := Lib.hid hq
  clear hxc
  go_upto_region 5 with (fail)
  go_cut [] from 8 (fun wc => PQ w.heap.size #[.int .u16 sp, .int .u16 dp, .int .u32 seq, .int .u32 ack, .int .u8 f, .int .u16 win, .int .u16 urg, .slice ao os.length co, .slice ad data.length cd] #[.int .u16 sp, .int .u16 dp, .int .u32 SQ, .int .u32 ack, .int .u8 f, .int .u16 win, .int .u16 U, .slice au OS.length cu, .slice a m c] (.slice au OS.length cu) OS (.slice a m c) Dn w wc)
  case first =>
    have hwu : IntKind.u16.wrap U = U := by rw [IntKind.wrap_u16]; omega
    by_cases hlt : urg - (fr : Int) < 0
    · have hU0 : U = 0 := by rw [hU.out, if_pos hlt]
      subst hU0
      have hlt' : urg < (fr : Int) := by omega
      have hp := hq.set 6 (.int .u16 0)
      simp at hp
      have HP := Lib.hid hp
      have y := cell_blk hq.2.2.1 6
      simp at y
      have fz := fz_blk hq.2.2.1 6
      clear hp
      go_wp2_with fail
      go_meet
      case rel => exact HP.out
    · have hU0 : U = urg - fr := by rw [hU.out, if_neg hlt]
      have hwu2 : IntKind.u16.wrap (urg - fr) = urg - fr := by rw [← hU0]; exact hwu
      have hlt' : ¬ urg < (fr : Int) := by omega
      have HU0 := Lib.hid hU0
      clear hU0
      have hp := hq.set 6 (.int .u16 (urg - fr))
      simp at hp
      have HP := Lib.hid hp
      have y := cell_blk hq.2.2.1 6
      simp at y
      have fz := fz_blk hq.2.2.1 6
      clear hp
      go_wp2_with fail
      go_meet
      case rel => rw [HU0.out]; exact HP.out
  have hq := hcut
  clear hcut HQ e6 e8
  obtain ⟨W4, rfl⟩ : ∃ W4 : World, W4 = wc := ⟨_, rfl⟩
  obtain ⟨f1, hf1⟩ : ∃ f1 : Int, f1 = if fr + n < data.length then clr9 f else f := ⟨_, rfl⟩
  have hf1b : 0 ≤ f1 ∧ f1 ≤ 255 := by have := clr9_bd hgf; rw [hf1]; split <;> omega
  have HF1 := Lib.hid hf1
  have e8 := cell_blk hq.1 8
  simp at e8
  have hfi : (fr : Int) + n ≤ 1000000 := by omega
  go_upto_if 44 with (fail)
  go_cut [] from 8 (fun wc => PQ w.heap.size #[.int .u16 sp, .int .u16 dp, .int .u32 seq, .int .u32 ack, .int .u8 f, .int .u16 win, .int .u16 urg, .slice ao os.length co, .slice ad data.length cd] #[.int .u16 sp, .int .u16 dp, .int .u32 SQ, .int .u32 ack, .int .u8 f1, .int .u16 win, .int .u16 U, .slice au OS.length cu, .slice a m c] (.slice au OS.length cu) OS (.slice a m c) Dn w wc)
  case first =>
    by_cases hc : fr + n < data.length
    · have hf0 : f1 = clr9 f := by rw [hf1, if_pos hc]
      have hc' : (fr : Int) + n < data.length := by omega
      have ha := anot9 f hgf
      subst hf0
      clear hf1 hc
      have y4 := cell_blk hq.2.2.1 4
      simp at y4
      have hp := hq.set 4 (.int .u8 (clr9 f))
      simp at hp
      have HP := Lib.hid hp
      have y := cell_blk hq.2.2.1 4
      simp at y
      have fz := fz_blk hq.2.2.1 4
      clear hp
      go_wp2_with fail
      go_meet
      case rel => exact HP.out
    · have hf0 : f1 = f := by rw [hf1, if_neg hc]
      have hc' : ¬ (fr : Int) + n < data.length := by omega
      subst hf0
      have HP := Lib.hid hq
      clear hf1 hc
      go_wp2_with fail
      go_meet
      case rel => exact HP.out
  have hq := hcut
  clear hcut e8 hf1
  obtain ⟨W5, rfl⟩ : ∃ W5 : World, W5 = wc := ⟨_, rfl⟩
  have hFF : F = if 0 < fr ∧ U = 0 then clr32 f1 else f1 := by rw [hF.out, ← HF1.out]
  have HFF := Lib.hid hFF
  clear hFF hF
  have y6 := cell_blk hq.2.2.1 6
  simp at y6
  obtain ⟨tb, htb⟩ : ∃ b : Bool, b = decide (0 < fr ∧ U = 0) := ⟨_, rfl⟩
  have HTB := Lib.hid htb
  clear htb
  go_upto_region 8 with (fail)
  go_cut [55] from 8 (fun v wc => v = .bool tb ∧ wc = W5)
  case first =>
    by_cases h0 : 0 < fr
    · have h0' : (0 : Int) < (fr : Int) := by omega
      rcases hU0 : (U == 0) with _ | _
      · have ht : tb = false := by rw [HTB.out]; simp at hU0; simp [hU0]
        subst ht
        clear h0
        go_wp2_with fail
        go_meet
        case rel => exact ⟨rfl, rfl⟩
      · have ht : tb = true := by rw [HTB.out]; simp at hU0; simp [hU0, h0]
        subst ht
        clear h0
        go_wp2_with fail
        go_meet
        case rel => exact ⟨rfl, rfl⟩
    · have h0' : ¬ (0 : Int) < (fr : Int) := by omega
      have ht : tb = false := by rw [HTB.out]; simp [h0]
      subst ht
      clear h0
      go_wp2_with fail
      go_meet
      case rel => exact ⟨rfl, rfl⟩
  obtain ⟨rfl, rfl⟩ := hcut
  obtain ⟨W5, rfl⟩ : ∃ W5 : World, W5 = wc := ⟨_, rfl⟩
  go_upto_if 55 with (fail)
  go_cut [] from 8 (fun wc => PQ w.heap.size #[.int .u16 sp, .int .u16 dp, .int .u32 seq, .int .u32 ack, .int .u8 f, .int .u16 win, .int .u16 urg, .slice ao os.length co, .slice ad data.length cd] #[.int .u16 sp, .int .u16 dp, .int .u32 SQ, .int .u32 ack, .int .u8 F, .int .u16 win, .int .u16 U, .slice au OS.length cu, .slice a m c] (.slice au OS.length cu) OS (.slice a m c) Dn w wc)
  case first =>
    cases tb
    · have HF0 := Lib.hid (HFF.out.trans (if_neg (fun h => by have := HTB.out; simp [h] at this)))
      have HP := Lib.hid hq
      go_wp2_with fail
      go_meet
      case rel => rw [HF0.out]; exact HP.out
    · have HF0 := Lib.hid (HFF.out.trans (if_pos (of_decide_eq_true HTB.out.symm)))
      have ha := anot32 f1 hf1b
      have y4 := cell_blk hq.2.2.1 4
      simp at y4
      have hp := hq.set 4 (.int .u8 (clr32 f1))
      simp at hp
      have HP := Lib.hid hp
      have fz := fz_blk hq.2.2.1 4
      clear hp
      go_wp2_with fail
      go_meet
      case rel => rw [HF0.out]; exact HP.out
  have hq := hcut
  clear hcut y6
  obtain ⟨W6, rfl⟩ : ∃ W6 : World, W6 = wc := ⟨_, rfl⟩
  obtain ⟨q3, q6, q7, qo, qd, qx⟩ := hq
  have y0 := cell_blk q7 0
  have y1 := cell_blk q7 1
  have y2 := cell_blk q7 2
  have y3 := cell_blk q7 3
  have y4 := cell_blk q7 4
  have y5 := cell_blk q7 5
  have y6 := cell_blk q7 6
  have y7 := cell_blk q7 7
  have y8 := cell_blk q7 8
  simp at y0 y1 y2 y3 y4 y5 y6 y7 y8
  have z0 := cell_blk q6 0
  have z1 := cell_blk q6 1
  have z2 := cell_blk q6 2
  have z3 := cell_blk q6 3
  have z4 := cell_blk q6 4
  have z5 := cell_blk q6 5
  have z6 := cell_blk q6 6
  have z7 := cell_blk q6 7
  have z8 := cell_blk q6 8
  simp at z0 z1 z2 z3 z4 z5 z6 z7 z8
  have f6 := fz_blk q6
  have hfin : ∀ w'' : World, Mvs (fun k => k = w.heap.size + 1) W6 w'' → FrO w'' w.heap.size (.slice au OS.length cu) OS ∧ Fr w'' w.heap.size 5 .u8 (.slice a m c) Dn ∧ Ext w w'' := fun w'' hmv => by
    have hkp := Keep.ofMvs hmv (base := w.heap.size + 1 + 1 + 1) (fun k hk => by omega)
    exact ⟨(qo.keep hkp).lowS (by omega), (Fr.keep qd hkp).low (by omega), hmv.ext qx (fun k hk => by omega)⟩
  have HFIN := Lib.hid hfin
  clear hfin q3 q6 q7 qo qd qx
  go_wp2_with fail
  refine bodyPost_ret (v := .agg #[.int .u16 sp, .int .u16 dp, .int .u32 SQ, .int .u32 ack, .int .u8 F, .int .u16 win, .int .u16 U, .slice au OS.length cu, .slice a m c]) (by simp [results, Try.results47, go_sem, z0, z1, z2, z3, z4, z5, z6, z7, z8]) rfl ?_
  rw [hP.out, ← HDn.out]
  refine ⟨_, _, rfl, HFIN.out _ ?_⟩
  repeat (first | with_reducible exact Mvs.refl _ _ | refine Mvs.tr ?_ (Mvs.set _ _ _ rfl))
end Go.Proofs.Ytgbbpibcmpeneaa
