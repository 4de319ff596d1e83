/-
  Proved here: what shift.Over computes: overL. Condition: numbers within their kinds, at most 50000 options and 1000000 bytes.
-/
import Derived.Test.YtgbbpibcmpeneaaShS
namespace Go.Proofs.Ytgbbpibcmpeneaa
set_option maxRecDepth 200000
open Go.ChangeShapes Go.WideShapes Go.ChangeAt Go.RowKit Go.Cul Go.Loose
set_option linter.unusedVariables false

theorem sowith_ok {bs : List Bk} (h : okB bs) : (Byt (owith bs).1.2 ∧ (0 ≤ (owith bs).1.1 ∧ (owith bs).1.1 ≤ 255)) ∧ (owith bs).1.2.length ≤ 1000000 := by
  unfold owith
  split
  · exact ⟨⟨(fun x hx => by cases hx), by simp⟩, by simp⟩
  · split
    · exact ⟨⟨(fun x hx => by cases hx), by simp⟩, by simp⟩
    · refine ⟨⟨fun x hx => ?_, by simp⟩, ?_⟩
      · obtain ⟨b, hb1, hx⟩ := List.mem_flatMap.1 hx
        obtain ⟨q1, q2⟩ := h b hb1
        rcases List.mem_append.1 hx with hx | hx
        · exact by4_byt _ q1 x hx
        · exact by4_byt _ q2 x hx
      · show (flatB bs).length ≤ 1000000
        rw [flatB_len]; omega
theorem sone_in {x : Shf} {t : Bool} {o y : Op1} (h : y ∈ (sone x t o).1) : y = o ∨ ∃ bs, y = (owith (mvB x bs)).1 := by
  unfold sone at h
  split at h
  · split at h
    · split at h
      · cases h
      · exact .inr ⟨_, by simpa using h⟩
    · exact .inl (by simpa using h)
  · cases h
theorem sovG_in {x : Shf} : ∀ {os : List Op1} {t : Bool} {y : Op1}, y ∈ sovG x t os → y ∈ os ∨ ∃ bs, y = (owith (mvB x bs)).1
  | [], _, _, h => by cases h
  | o :: r, t, y, h => by
    rcases List.mem_append.1 h with h | h
    · rcases sone_in h with h | h
      · exact .inl (by rw [h]; exact List.mem_cons_self ..)
      · exact .inr h
    · rcases sovG_in h with h | h
      · exact .inl (List.mem_cons_of_mem _ h)
      · exact .inr h
theorem sov_byt {x : Shf} {os : List Op1} (h : BytO os) : BytO (sov x os) := fun y hy => by
  rcases sovG_in hy with hy | ⟨bs, rfl⟩
  · exact h y hy
  · have := (sowith_ok (mvB_ok (x := x) (bs := bs))).1
    exact ⟨this.2, this.1⟩
theorem sov_dl {x : Shf} {os : List Op1} (h : ∀ o ∈ os, o.2.length ≤ 1000000) : ∀ o ∈ sov x os, o.2.length ≤ 1000000 := fun y hy => by
  rcases sovG_in hy with hy | ⟨bs, rfl⟩
  · exact h y hy
  · exact (sowith_ok (mvB_ok (x := x) (bs := bs))).2
theorem and2nz (f : Int) (h : 0 ≤ f ∧ f ≤ 255) : (bits BinOp.and IntKind.u8 f 2 != 0) = fl f 2 := by
  obtain ⟨n, rfl⟩ := Int.eq_ofNat_of_zero_le h.1
  have hn : n < 256 := by omega
  clear h; revert n; decide +kernel
theorem and16nz (f : Int) (h : 0 ≤ f ∧ f ≤ 255) : (bits BinOp.and IntKind.u8 f 16 != 0) = fl f 16 := by
  obtain ⟨n, rfl⟩ := Int.eq_ofNat_of_zero_le h.1
  have hn : n < 256 := by omega
  clear h; revert n; decide +kernel
theorem cnt_lt {len size i : Nat} (hs : 1 ≤ size) : i < cnt len size ↔ (i = 0 ∨ i * size < len) := by
  unfold cnt
  split
  · subst_vars; omega
  · rw [← Nat.succ_le_iff, Nat.le_div_iff_mul_le (by omega), Nat.succ_mul]
    constructor
    · intro h; right; omega
    · rintro (rfl | h) <;> omega
theorem win_bd (x : Shf) {n : Int} (hn : 0 ≤ n ∧ n ≤ 65535) : 0 ≤ x.win n ∧ x.win n ≤ 65535 := by
  unfold Shf.win
  split
  · have : 0 ≤ n * 2 ^ x.fr.toNat / 2 ^ x.to.toNat := Int.ediv_nonneg (Int.mul_nonneg hn.1 (Int.pow_nonneg (by decide))) (Int.pow_nonneg (by decide))
    split <;> omega
  · omega
theorem overS_ok {x : Shf} {g : Sg} (h : g.ok) : (overS x g).ok where
  sp := h.sp
  dp := h.dp
  seq := by show 0 ≤ (g.seq + x.sq) % 4294967296 ∧ (g.seq + x.sq) % 4294967296 ≤ 4294967295; omega
  ack := by show 0 ≤ (if fl g.f 16 then (g.ack + x.ak) % 4294967296 else 0) ∧ (if fl g.f 16 then (g.ack + x.ak) % 4294967296 else 0) ≤ 4294967295; split <;> omega
  f := h.f
  win := win_bd x h.win
  urg := h.urg
  os := sov_byt h.os
  data := h.data

theorem may_mss {x : Shf} (h : x.may = true) : 1 ≤ x.mss ∧ x.mss ≤ 1460 := by
  unfold Shf.may at h
  simp only [Bool.and_eq_true, decide_eq_true_eq] at h
  exact ⟨h.1.2, h.2⟩
/-- What Over's blocks hold. -/
def OV (N : Nat) (Cx C3 : Array Value) (w wc : World) : Prop :=
  wc.heap[N]? = some (.cells Cx 40) ∧ wc.heap[N + 1]? = some (.cells C3 51) ∧ Below N w wc
theorem OV.set {N : Nat} {Cx C3 : Array Value} {w wc : World} (h : OV N Cx C3 w wc) (i : Nat) (v : Value) : OV N Cx (C3.setIfInBounds i v) w (wc.setCell ⟨N + 1, i, none⟩ v) := by
  obtain ⟨h1, h2, h6⟩ := h
  have hm : Mvs (fun k => k = N + 1) wc (wc.setCell ⟨N + 1, i, none⟩ v) := Mvs.set _ _ _ rfl
  exact ⟨hm.keep h1 (by omega), set_blk h2 i v, Below.setCell h6 (by show N ≤ N + 1; omega) _⟩
theorem OV.ext {N : Nat} {Cx C3 : Array Value} {w wc w' : World} (h : OV N Cx C3 w wc) (hx : Ext wc w') (hN : N ≤ wc.heap.size) : OV N Cx C3 w w' :=
  ⟨hx.block h.1, hx.block h.2.1, Below.trans h.2.2 (hx.mono hN)⟩

set_option maxHeartbeats 1000000 in
set_option maxRecDepth 100000 in
theorem over_any (x : Shf) (hx : x.ok) (g : Sg) (hg : g.ok) (vo vd : Value) (w : World) (hvo : RdO w vo g.os) (hvd : Rd .u8 w vd g.data) (hn : g.os.length ≤ 50000) (hdl : ∀ o ∈ g.os, o.2.length ≤ 1000000) (hl : g.data.length ≤ 1000000) :
    Calls Try.prog 36 #[.agg x.cells, .agg (g.cells vo vd)] w fun e w' => ∃ u, e = .returned (.tuple #[u, .int .i64 (overL x g).2]) ∧ FrS w' w.heap.size u (overL x g).1 ∧ Ext w w' := by
  have hL : Hid (overL x g = if (oput g.os).2 ≠ 0 ∨ x.may = false then ([], 1) else if fl g.f 2 then ([], 24) else ((List.range (cnt g.data.length (overN x g))).map (pieceAt (overS x g) (overN x g)), 0)) := rfl
  have hput := Lib.hid (fun (W : World) (hx : Ext w W) => oput_any vo g.os W (hvo.ext hx) hg.os)
  have hmay := Lib.hid (fun (W : World) => smay_any x W)
  have hwin := Lib.hid (fun (W : World) => swin_any x g.win hg.win W)
  have hopt := Lib.hid (fun (W : World) (hxw : Ext w W) => sopts_any x hx vo g.os W (hvo.ext hxw) hg.os hdl hn)
  have HX := Lib.hid hx
  have HG := Lib.hid hg
  have HVD := Lib.hid hvd
  have HDL := Lib.hid hdl
  have hf2 := and2nz g.f hg.f
  have hf16 := and16nz g.f hg.f
  obtain ⟨ao, co, rfl⟩ := hvo.shape
  obtain ⟨ad, cd, rfl, hd1, hd2, hdr⟩ := id hvd
  unfold maxLen at hd2
  generalize overL x g = OL at *
  generalize hP : (oput g.os).1 = P1 at *
  generalize hE : (oput g.os).2 = E1 at *
  have HS : Hid (overS x g = { g with seq := (g.seq + x.sq) % 4294967296, ack := if fl g.f 16 then (g.ack + x.ak) % 4294967296 else 0, win := x.win g.win, os := sov x g.os }) := rfl
  have HN : Hid (overN x g = if x.mss - (oput (sov x g.os)).1.length < 1 then 1 else (x.mss - (oput (sov x g.os)).1.length).toNat) := rfl
  clear hP hE hvo hvd hx hg hdl hdr
  go_enter Try.func36, Try.ntmps36
  go_upto_region 1 with (fail)
  generalize hW : World.alloc (World.alloc w _) _ = W
  have hxW : Ext w W := by rw [← hW]; exact (Ext.new w _).al _
  have hov : OV w.heap.size x.cells (g.cells (.slice ao g.os.length co) (.slice ad g.data.length cd)) w W := ⟨by rw [← hW]; simp only [heap_alloc_at, World.size_alloc]; repeat (first | rfl | rw [if_pos (by first | trivial | omega)] | rw [if_neg (by omega)]), by rw [← hW]; simp only [heap_alloc_at, World.size_alloc]; repeat (first | rfl | rw [if_pos (by first | trivial | omega)] | rw [if_neg (by omega)]), hxW⟩
  clear hW
  have e7 := cell_blk hov.2.1 7
  simp at e7
  go_wp2_with fail
  refine (hput.out W hxW).mono ?_
  rintro e w1 ⟨u1, rfl, hu1, hx1⟩
  obtain ⟨a1, n1, c1, rfl⟩ := hu1.rd.shape
  have hov := hov.ext hx1 hxW.size
  clear hu1 hx1 e7 hxW
  by_cases hE : E1 = 0
  rotate_left
  · have hE' : (E1 != 0) = true := by simp [hE]
    have HL := Lib.hid (hL.out.trans (if_pos (.inl hE)))
    have HV := Lib.hid hov
    clear hE hov
    go_wp2_with fail
    refine bodyPost_ret (v := .tuple #[.slice none 0 0, .int .i64 1]) (by simp [results, Try.results36, go_sem]) rfl ?_
    rw [HL.out]
    exact ⟨_, rfl, FrS.nil _ _, HV.out.2.2⟩
  subst hE
  have q1 := hov.1
  have x0 := cell_blk q1 0
  have x1 := cell_blk q1 1
  have x2 := cell_blk q1 2
  have x3 := cell_blk q1 3
  have x4 := cell_blk q1 4
  have x5 := cell_blk q1 5
  simp at x0 x1 x2 x3 x4 x5
  have hz1 := hov.2.2.size
  clear q1
  go_wp2_with fail
  refine (hmay.out _).mono ?_
  rintro e w2 ⟨rfl, hx2⟩
  have hov := hov.ext hx2 hz1
  clear x0 x1 x2 x3 x4 x5 hx2 hz1
  rcases hm : x.may with _ | _
  · have HL := Lib.hid (hL.out.trans (if_pos (.inr hm)))
    have HV := Lib.hid hov
    clear hov hm
    go_wp2_with fail
    refine bodyPost_ret (v := .tuple #[.slice none 0 0, .int .i64 1]) (by simp [results, Try.results36, go_sem]) rfl ?_
    rw [HL.out]
    exact ⟨_, rfl, FrS.nil _ _, HV.out.2.2⟩
  have e4 := cell_blk hov.2.1 4
  simp at e4
  rcases hfl : fl g.f 2 with _ | _
  rotate_left
  · have HL := Lib.hid (hL.out.trans ((if_neg (by simp [hm])).trans (if_pos hfl)))
    have HV := Lib.hid hov
    rw [hfl] at hf2
    clear hov hm hfl
    go_wp2_with fail
    refine bodyPost_ret (v := .tuple #[.slice none 0 0, .int .i64 24]) (by simp [results, Try.results36, go_sem]) rfl ?_
    rw [HL.out]
    exact ⟨_, rfl, FrS.nil _ _, HV.out.2.2⟩
  have HL := Lib.hid (hL.out.trans ((if_neg (by simp [hm])).trans (if_neg (by simp [hfl]))))
  rw [hfl] at hf2
  have hmss := may_mss hm
  clear hL hm hfl
  have e2 := cell_blk hov.2.1 2
  simp at e2
  have x0 := cell_blk hov.1 0
  simp at x0
  have z2 := fz_blk hov.2.1 2
  have hp := hov.set 2 (.int .u32 ((g.seq + x.sq) % 4294967296))
  simp at hp
  have HP := Lib.hid hp
  clear hp hov
  go_upto_region 7 with (fail)
  have hov := HP.out
  clear HP e4 e2 x0 z2
  generalize w2.setCell ⟨w.heap.size + 1, 2, none⟩ (.int .u32 ((g.seq + x.sq) % 4294967296)) = W2 at *
  obtain ⟨SQ, hSQ⟩ : ∃ z, z = (g.seq + x.sq) % 4294967296 := ⟨_, rfl⟩
  rw [← hSQ] at hov HS
  have e4 := cell_blk hov.2.1 4
  simp at e4
  go_upto_if 39 with (fail)
  obtain ⟨AK, hAK⟩ : ∃ z, z = if fl g.f 16 = true then (g.ack + x.ak) % 4294967296 else 0 := ⟨_, rfl⟩
  rw [← hAK] at HS
  have HSQ := Lib.hid hSQ
  clear hSQ
  go_cut [] from 14 (fun wc => OV w.heap.size x.cells #[.int .u16 g.sp, .int .u16 g.dp, .int .u32 SQ, .int .u32 AK, .int .u8 g.f, .int .u16 g.win, .int .u16 g.urg, .slice ao g.os.length co, .slice ad g.data.length cd] w wc)
  case first =>
    rcases hfl : fl g.f 16 with _ | _
    · rw [hfl] at hf16
      rw [hfl, if_neg (by simp)] at hAK
      subst hAK
      have hp := hov.set 3 (.int .u32 0)
      simp at hp
      have HP := Lib.hid hp
      have e3 := cell_blk hov.2.1 3
      simp at e3
      have fz := fz_blk hov.2.1 3
      clear hp hov hfl
      go_wp2_with fail
      go_meet
      case rel => exact HP.out
    · rw [hfl] at hf16
      rw [hfl, if_pos rfl] at hAK
      subst hAK
      have hp := hov.set 3 (.int .u32 ((g.ack + x.ak) % 4294967296))
      simp at hp
      have HP := Lib.hid hp
      have e3 := cell_blk hov.2.1 3
      simp at e3
      have x1 := cell_blk hov.1 1
      simp at x1
      have fz := fz_blk hov.2.1 3
      clear hp hov hfl
      go_wp2_with fail
      go_meet
      case rel => exact HP.out
  have hov := hcut
  have HAK := Lib.hid hAK
  clear hcut hf16 hf2 hAK e4
  obtain ⟨W3, rfl⟩ : ∃ W3 : World, W3 = wc := ⟨_, rfl⟩
  have q1 := hov.1
  have x0 := cell_blk q1 0
  have x1 := cell_blk q1 1
  have x2 := cell_blk q1 2
  have x3 := cell_blk q1 3
  have x4 := cell_blk q1 4
  have x5 := cell_blk q1 5
  simp at x0 x1 x2 x3 x4 x5
  have e5 := cell_blk hov.2.1 5
  simp at e5
  clear q1
  go_wp2_with fail
  refine (hwin.out _).mono ?_
  rintro e w3 ⟨rfl, hx3⟩
  have hov := hov.ext hx3 hov.2.2.size
  clear x0 x1 x2 x3 x4 x5 e5 hx3
  generalize x.win g.win = WN at *
  have e5 := cell_blk hov.2.1 5
  simp at e5
  have fz := fz_blk hov.2.1 5
  have hp := hov.set 5 (.int .u16 WN)
  simp at hp
  have HP := Lib.hid hp
  clear hp hov
  go_upto_region 11 with (fail)
  have hov := HP.out
  clear HP e5 fz
  generalize w3.setCell ⟨w.heap.size + 1, 5, none⟩ (.int .u16 WN) = W4 at *
  have q1 := hov.1
  have x0 := cell_blk q1 0
  have x1 := cell_blk q1 1
  have x2 := cell_blk q1 2
  have x3 := cell_blk q1 3
  have x4 := cell_blk q1 4
  have x5 := cell_blk q1 5
  simp at x0 x1 x2 x3 x4 x5
  have e7 := cell_blk hov.2.1 7
  simp at e7
  clear q1
  have hsz4 := lt_of_block hov.2.1
  go_wp2_with fail
  refine (hopt.out _ hov.2.2).mono ?_
  rintro e w4 ⟨u4, rfl, hu4, hx4⟩
  have hov := hov.ext hx4 hov.2.2.size
  have hu4 := hu4.lowS (base' := w.heap.size + 1 + 1) (by omega)
  clear x0 x1 x2 x3 x4 x5 e7 hx4
  have hby := sov_byt (x := x) HG.out.os
  have hdl := sov_dl (x := x) HDL.out
  have hlen : (sov x g.os).length ≤ 100000 := by have := sovG_len x g.os false; unfold sov; omega
  have hsok := overS_ok (x := x) HG.out
  rw [HS.out] at hsok
  generalize sov x g.os = SO1 at *
  obtain ⟨a4, c4, rfl⟩ := hu4.rdo.shape
  have e7 := cell_blk hov.2.1 7
  simp at e7
  have fz := fz_blk hov.2.1 7
  have hp := hov.set 7 (.slice a4 SO1.length c4)
  simp at hp
  have HP := Lib.hid hp
  have hu5 := hu4.keep (Keep.ofMvs (Mvs.set (S := fun k => k = w.heap.size + 1) w4 ⟨w.heap.size + 1, 7, none⟩ (.slice a4 SO1.length c4) rfl) (fun k hk => by omega))
  have HU5 := Lib.hid hu5
  have HBY := Lib.hid hby
  have HDS := Lib.hid hdl
  have HSOK := Lib.hid hsok
  clear hp hov hu4 hu5 hby hdl hsok
  go_upto_region 12 with (fail)
  have hov := HP.out
  clear HP e7 fz
  generalize w4.setCell ⟨w.heap.size + 1, 7, none⟩ (.slice a4 SO1.length c4) = W5 at *
  have e7 := cell_blk hov.2.1 7
  simp at e7
  go_wp2_with fail
  refine (oput_any _ SO1 W5 HU5.out.rdo HBY.out).mono ?_
  rintro e w5 ⟨u6, rfl, hu6, hx5⟩
  obtain ⟨a6, c6, he6, hl6⟩ : ∃ a c, u6 = .slice a (oput SO1).1.length c ∧ True := by obtain ⟨a, c, h, -⟩ := hu6.rd; exact ⟨a, c, h, trivial⟩
  subst he6
  have hov := hov.ext hx5 hov.2.2.size
  have hu5 := HU5.out.keep (Keep.ofExt hx5)
  have hpl := (oput_len SO1).1
  clear hu6 e7 hx5 HU5 hl6
  generalize (oput SO1).1.length = PL at *
  generalize (oput SO1).2 = E2 at *
  have x5 := cell_blk hov.1 5
  simp at x5
  go_upto_region 13 with (fail)
  generalize overN x g = SZ at *
  have hSZ : (SZ : Int) = if x.mss - PL < 1 then 1 else x.mss - PL := by rw [HN.out]; split <;> omega
  have hSZb : 1 ≤ SZ ∧ SZ ≤ 1460 := by
    by_cases h : x.mss - (PL : Int) < 1
    · rw [if_pos h] at hSZ; omega
    · rw [if_neg h] at hSZ; omega
  generalize hS : overS x g = S at *
  have hSr := HS.out
  have hso : S.os = SO1 := by rw [hSr]
  have hsd : S.data = g.data := by rw [hSr]
  have hov : OV w.heap.size x.cells (S.cells (.slice a4 SO1.length c4) (.slice ad g.data.length cd)) w w5 := by rw [hSr]; exact hov
  have hsok : S.ok := by rw [hSr]; exact HSOK.out
  have HSK := Lib.hid hsok
  have HSO := Lib.hid hso
  have HSD := Lib.hid hsd
  clear hS hSr hso hsd hsok
  go_cut [10] from 14 (fun v wc => v = .int .i64 (SZ : Int) ∧ wc = w5)
  case first =>
    by_cases h : x.mss - (PL : Int) < 1
    · rw [if_pos h] at hSZ
      have HZ := Lib.hid hSZ
      have HV := Lib.hid hov
      clear hov hSZ hSZb
      go_wp2_with fail
      go_meet
      case rel => exact ⟨by rw [HZ.out], rfl⟩
    · rw [if_neg h] at hSZ
      have HZ := Lib.hid hSZ
      have HV := Lib.hid hov
      have h' : 1 ≤ x.mss - (PL : Int) := by omega
      clear hov hSZ hSZb
      go_wp2_with fail
      go_meet
      case rel => exact ⟨by rw [HZ.out], rfl⟩
  obtain ⟨rfl, rfl⟩ := hcut
  obtain ⟨W6, rfl⟩ : ∃ W6 : World, W6 = wc := ⟨_, rfl⟩
  have HSZ := Lib.hid hSZ
  clear hSZ x5
  go_wp2_with fail
  have hov := hov
  have HOV := Lib.hid hov
  have HU5 := Lib.hid hu5
  clear hov hu5
  generalize hDD : g.data.length = DD at *
  have HDD := Lib.hid hDD
  clear hDD
  have hz6 := lt_of_block HOV.out.2.1
  go_loopw [11, 12] (fun u iv wr => ∃ i AT : Nat, iv = .int .i64 AT ∧ AT = i * SZ ∧ i ≤ cnt DD SZ ∧ AT ≤ DD + SZ ∧ FrS wr W6.heap.size u ((List.range i).map (pieceAt S SZ)) ∧ Ext W6 wr) (fun _ iv _ => DD + SZ + 1 - (intOf iv).toNat)
  case atStart => exact ⟨0, 0, rfl, by simp, Nat.zero_le _, Nat.zero_le _, FrS.nil _ _, Ext.rfl' _⟩
  case round =>
    obtain ⟨i, AT, rfl, hAT, hi, hAb, hfs, hxr⟩ := hrel
    obtain ⟨au, cu, rfl, -, -⟩ := hfs.shape
    rw [List.length_map, List.length_range] at *
    have hov := HOV.out.ext hxr (Nat.le_trans HOV.out.2.2.size (Nat.le_refl _))
    have e8 := cell_blk hov.2.1 8
    simp at e8
    have hSZ1 : (1 : Int) ≤ SZ := by omega
    have hSZ2 : (SZ : Int) ≤ 1460 := by omega
    have hAb2 : (AT : Int) ≤ 1001460 := by omega
    have hAc : (if (AT : Int) = 0 then true else decide ((AT : Int) < DD)) = decide (i < cnt DD SZ) := by
      have h := cnt_lt (len := DD) (i := i) hSZb.1
      rw [← hAT] at h
      have hi0 : i = 0 ↔ AT = 0 := by
        constructor
        · rintro rfl; simpa using hAT
        · intro h0; rw [h0] at hAT
          rcases Nat.mul_eq_zero.1 hAT.symm with h | h <;> omega
      rw [hi0] at h
      split
      · have : AT = 0 := by omega
        simp [h, this]
      · have : ¬ AT = 0 := by omega
        simp [h, this]
    have HAC := Lib.hid hAc
    have HR := Lib.hid (fun h : i < cnt DD SZ => (cnt_lt (len := DD) (i := i) hSZb.1).1 h)
    have HAT := Lib.hid hAT
    clear hAc hAT
    generalize hcn : cnt DD SZ = CN at *
    have HCN := Lib.hid hcn
    clear hcn
    go_upto_region 16 with (fail)
    go_cut [77, 94] from 69 (fun v v94 wc => v = .bool (decide (i < CN)) ∧ v94 = u94 ∧ wc = wr)
    case first =>
      by_cases h0 : AT = 0
      · have h0' : ((AT : Int) == 0) = true := by simp [h0]
        have hq := HAC.out
        rw [if_pos (by omega)] at hq
        have HQ := Lib.hid hq
        clear hq h0
        go_wp2_with fail
        go_meet
        case rel => exact ⟨by rw [← HQ.out], rfl, rfl⟩
      · have h0' : ((AT : Int) == 0) = false := by simp [h0]
        have hq := HAC.out
        rw [if_neg (by omega)] at hq
        have HQ := Lib.hid hq
        clear hq h0
        by_cases h1 : (AT : Int) < DD
        · go_wp2_with fail
          go_meet
          case rel => exact ⟨by rw [← HQ.out, decide_eq_true h1], rfl, rfl⟩
        · go_wp2_with fail
          go_meet
          case rel => exact ⟨by rw [← HQ.out, decide_eq_false (by omega)], rfl, rfl⟩
    obtain ⟨rfl, rfl, rfl⟩ := hcut
    obtain ⟨Wr, rfl⟩ : ∃ W : World, W = wc := ⟨_, rfl⟩
    by_cases hlt : i < CN
    · have hR := HR.out hlt
      rw [← HAT.out] at hR
      have hfit : AT ≤ DD := by
        rcases hR with h | h
        · subst h; have := HAT.out; rw [Nat.zero_mul] at this; omega
        · omega
      have hiAT : i ≤ AT := by have := HAT.out; rw [this]; exact Nat.le_mul_of_pos_right _ (by omega)
      obtain ⟨R, hRR⟩ : ∃ R, R = DD - AT := ⟨_, rfl⟩
      have hda : (DD : Int) - (AT : Int) = (R : Int) := by omega
      obtain ⟨M, hM⟩ : ∃ M, M = min SZ R := ⟨_, rfl⟩
      have hAT2 : AT ≤ DD + SZ - SZ ∧ i ≤ 1000000 := by omega
      have k3 := hov.2.1
      have s0 := cell_blk k3 0
      have s1 := cell_blk k3 1
      have s2 := cell_blk k3 2
      have s3 := cell_blk k3 3
      have s4 := cell_blk k3 4
      have s5 := cell_blk k3 5
      have s6 := cell_blk k3 6
      have s7 := cell_blk k3 7
      have s8 := cell_blk k3 8
      simp at s0 s1 s2 s3 s4 s5 s6 s7 s8
      have hdt : decide (i < CN) = true := by simp [hlt]
      rw [hdt]
      clear k3 hdt
      have HPC : Hid (∀ (M : Nat) (W : World), AT + M ≤ DD → Ext W6 W → Calls Try.prog 47 #[.agg (S.cells (.slice a4 SO1.length c4) (.slice ad DD cd)), .int .i64 AT, .int .i64 M] W fun e w' => ∃ vo' vd', e = .returned (.agg ((pieceS S AT M).cells vo' vd')) ∧ FrO w' W.heap.size vo' (pieceS S AT M).os ∧ Fr w' W.heap.size 5 .u8 vd' (pieceS S AT M).data ∧ Ext W w') :=
        fun M W hM hW => piece_any S AT M _ _ W HSK.out (by rw [HSO.out]; exact HU5.out.rdo.ext hW) (by rw [HSD.out]; exact HVD.out.ext (Ext.tr HOV.out.2.2 hW)) (by rw [HSD.out, HDD.out]; exact hM) (by rw [HSO.out]; exact hlen) (by rw [HSO.out]; exact fun o ho => by have := HDS.out o ho; omega) (by rw [HSD.out, HDD.out]; exact hl)
      clear hda hRR hM R M hR
      by_cases hmn : DD - AT < SZ
      · go_wp2_with fail
        have hfit2 : AT + (DD - AT) ≤ DD := by omega
        have hc := HPC.out (DD - AT) Wr hfit2 hxr
        dsimp only [Sg.cells] at hc
        rw [show ((DD - AT : Nat) : Int) = (DD : Int) - (AT : Int) from by omega] at hc
        refine hc.mono ?_
        clear hc hfit2
        rintro e w7 ⟨vo', vd', rfl, ho7, hd7, hx7⟩
        have hmap : (List.range (i + 1)).map (pieceAt S SZ) = (List.range i).map (pieceAt S SZ) ++ [pieceS S AT (DD - AT)] := by
          rw [List.range_succ, List.map_append, List.map_cons, List.map_nil]
          unfold pieceAt
          rw [HSD.out, HDD.out, ← HAT.out, Nat.min_eq_right (by omega)]
        generalize pieceS S AT (DD - AT) = PS at *
        obtain ⟨ao7, co7, rfl⟩ := ho7.rdo.shape
        obtain ⟨ad7, nd7, cd7, rfl⟩ := hd7.rd.shape
        have HFS7 := Lib.hid (hfs.keep (Keep.ofExt hx7))
        have HO7 := Lib.hid (ho7.lowS (base' := W6.heap.size) hxr.size)
        have HD7 := Lib.hid (hd7.low (base' := W6.heap.size) hxr.size)
        have hx67 := hxr.tr hx7
        have hs67 := hx67.size
        have HMAP := Lib.hid hmap
        have HX67 := Lib.hid hx67
        clear HPC hov e8 s0 s1 s2 s3 s4 s5 s6 s7 s8 ho7 hd7 hx7 hfs hx67 hmap hxr HL HR HAC
        go_wp2_with (at_builtin; go_must (refine wpList_appS rfl (.tmp 81) (.tmp 92) rfl W6.heap.size _ _ rfl (HFS7.out.keep (Keep.ofExt (Ext.new _ _))) _ rfl PS _ _ (HO7.out.keep (Keep.ofExt (Ext.new _ _))) (Fr.kept HD7.out (Ext.new _ _)) (heap_alloc_new _ _) (by simp; omega) (by simp; omega) ?_); intro v8 w8 hf8 hg8 hb8; have hx8 := ((Mvs.ofExt ((HX67.out).al (.cells (PS.cells (.slice ao7 PS.os.length co7) (.slice ad7 nd7 cd7)) 51))).tr (Mvs.mono (mvs_of_grown hg8) (fun j _ hj => hb8 j hj))).ext (S := fun j => W6.heap.size ≤ j) (Ext.rfl' _) (fun k h => h))
        go_roundw
        case rel => exact ⟨i + 1, AT + SZ, by go_num, by rw [HAT.out, Nat.succ_mul], by omega, by omega, by rw [HMAP.out]; exact hf8, hx8⟩
        case measure => simp [intOf]; omega
      · go_wp2_with fail
        have hfit2 : AT + SZ ≤ DD := by omega
        have hc := HPC.out SZ Wr hfit2 hxr
        dsimp only [Sg.cells] at hc
        refine hc.mono ?_
        clear hc hfit2
        rintro e w7 ⟨vo', vd', rfl, ho7, hd7, hx7⟩
        have hmap : (List.range (i + 1)).map (pieceAt S SZ) = (List.range i).map (pieceAt S SZ) ++ [pieceS S AT SZ] := by
          rw [List.range_succ, List.map_append, List.map_cons, List.map_nil]
          unfold pieceAt
          rw [HSD.out, HDD.out, ← HAT.out, Nat.min_eq_left (by omega)]
        generalize pieceS S AT SZ = PS at *
        obtain ⟨ao7, co7, rfl⟩ := ho7.rdo.shape
        obtain ⟨ad7, nd7, cd7, rfl⟩ := hd7.rd.shape
        have HFS7 := Lib.hid (hfs.keep (Keep.ofExt hx7))
        have HO7 := Lib.hid (ho7.lowS (base' := W6.heap.size) hxr.size)
        have HD7 := Lib.hid (hd7.low (base' := W6.heap.size) hxr.size)
        have hx67 := hxr.tr hx7
        have hs67 := hx67.size
        have HMAP := Lib.hid hmap
        have HX67 := Lib.hid hx67
        clear HPC hov e8 s0 s1 s2 s3 s4 s5 s6 s7 s8 ho7 hd7 hx7 hfs hx67 hmap hxr HL HR HAC
        go_wp2_with (at_builtin; go_must (refine wpList_appS rfl (.tmp 81) (.tmp 92) rfl W6.heap.size _ _ rfl (HFS7.out.keep (Keep.ofExt (Ext.new _ _))) _ rfl PS _ _ (HO7.out.keep (Keep.ofExt (Ext.new _ _))) (Fr.kept HD7.out (Ext.new _ _)) (heap_alloc_new _ _) (by simp; omega) (by simp; omega) ?_); intro v8 w8 hf8 hg8 hb8; have hx8 := ((Mvs.ofExt ((HX67.out).al (.cells (PS.cells (.slice ao7 PS.os.length co7) (.slice ad7 nd7 cd7)) 51))).tr (Mvs.mono (mvs_of_grown hg8) (fun j _ hj => hb8 j hj))).ext (S := fun j => W6.heap.size ≤ j) (Ext.rfl' _) (fun k h => h))
        go_roundw
        case rel => exact ⟨i + 1, AT + SZ, by go_num, by rw [HAT.out, Nat.succ_mul], by omega, by omega, by rw [HMAP.out]; exact hf8, hx8⟩
        case measure => simp [intOf]; omega
    · obtain rfl : i = CN := by omega
      have hdt : decide (i < i) = false := by simp
      rw [hdt]
      have HFS := Lib.hid (hfs.lowS (base' := w.heap.size) (by omega))
      have HXE := Lib.hid hov.2.2
      clear hdt hfs hov e8 hxr
      go_wp2_with fail
      refine bodyPost_ret (v := .tuple #[.slice au i cu, .int .i64 0]) (by simp [results, Try.results36, go_sem]) rfl ?_
      rw [HL.out]
      exact ⟨_, rfl, HFS.out, HXE.out⟩
end Go.Proofs.Ytgbbpibcmpeneaa
