/-
  Proved here: what culvertref06.Parse, Same and May compute. Conditions: numbers within their kinds.
-/
import Derived.Test.YtjaffcbadgpolaaRef6P
import Derived.Test.YtjaffcbadgpolaaTcpQ
import Derived.Test.YtjaffcbadgpolaaRegion
namespace Go.Proofs.Ytjaffcbadgpolaa
open Go.ChangeShapes Go.WideShapes Go.ChangeAt Go.RowKit Go.Cul Go.Loose
set_option linter.unusedVariables false
attribute [local go_sem] Loose.Still Loose.Upon Loose.vUpon

theorem take2 {l : List Int} {p : Nat} (h : p + 2 ≤ l.length) : (l.drop p).take 2 = [l.getD p 0, l.getD (p + 1) 0] := by
  rw [List.drop_eq_getElem_cons (show p < l.length by omega), List.drop_eq_getElem_cons (show p + 1 < l.length by omega)]
  rw [List.take_succ_cons, List.take_succ_cons, List.take_zero]
  simp [List.getD, show p < l.length by omega, show p + 1 < l.length by omega]
theorem take4 {l : List Int} {p : Nat} (h : p + 4 ≤ l.length) : (l.drop p).take 4 = [l.getD p 0, l.getD (p + 1) 0, l.getD (p + 2) 0, l.getD (p + 3) 0] := by
  rw [List.drop_eq_getElem_cons (show p < l.length by omega), List.drop_eq_getElem_cons (show p + 1 < l.length by omega), List.drop_eq_getElem_cons (show p + 1 + 1 < l.length by omega), List.drop_eq_getElem_cons (show p + 1 + 1 + 1 < l.length by omega)]
  rw [List.take_succ_cons, List.take_succ_cons, List.take_succ_cons, List.take_succ_cons, List.take_zero]
  simp [List.getD, show p < l.length by omega, show p + 1 < l.length by omega, show p + 2 < l.length by omega, show p + 3 < l.length by omega]
theorem num2 {l : List Int} {p : Nat} (h : p + 2 ≤ l.length) : num ((l.drop p).take 2) = be16 l p := by
  rw [take2 h]; simp [num, be16]
theorem num4 {l : List Int} {p : Nat} (h : p + 4 ≤ l.length) : num ((l.drop p).take 4) = be32 l p := by
  rw [take4 h]; simp [num, be32]; omega

theorem rnum2_any (v : Value) (l : List Int) (p : Nat) (w : World) (hv : Rd .u8 w v l) (hb : Byt l) (hp : p + 2 ≤ l.length) :
    Calls Try.prog 50 #[v, .int .i64 p, .int .i64 2] w fun e w' => e = .returned (.int .u32 (be16 l p)) ∧ Ext w w' := by
  have h := rnum6_any v l p 2 w hv hb (by decide) hp
  rw [num2 hp] at h
  exact h
theorem rnum4_any (v : Value) (l : List Int) (p : Nat) (w : World) (hv : Rd .u8 w v l) (hb : Byt l) (hp : p + 4 ≤ l.length) :
    Calls Try.prog 50 #[v, .int .i64 p, .int .i64 4] w fun e w' => e = .returned (.int .u32 (be32 l p)) ∧ Ext w w' := by
  have h := rnum6_any v l p 4 w hv hb (by decide) hp
  rw [num4 hp] at h
  exact h

theorem r6may_any (g : Sg) (vo vd : Value) (w : World) (hg : g.ok) (hvo : RdO w vo g.os) (hvd : Rd .u8 w vd g.data) (hn : g.data.length ≤ 140737488351232) (hon : g.os.length ≤ 1000000000) :
    Calls Try.prog 22 #[.agg (g.cells vo vd)] w fun e w' => e = .returned (.bool (tmay g)) ∧ Ext w w' := by
  have hS := Lib.hid (tmay_iff g 0 0)
  have hP := fun (W : World) (hx : Ext w W) => r6put_any 0 0 g vo vd W hg (hvo.ext hx) (hvd.ext hx) (by decide) (by decide) hn hon
  generalize tput 0 0 g = TP at *
  obtain ⟨L, E⟩ := TP
  dsimp only at hP hS
  obtain ⟨a1, a2, a3, a4, a5, a6, a7, os, data⟩ := g
  simp only [Sg.cells] at *
  obtain ⟨ao, co, rfl⟩ := hvo.shape
  obtain ⟨ad, nd, cd, rfl⟩ := hvd.shape
  have HP := Lib.hid hP
  have hx0 := Lib.hid (Ext.new w (.cells #[.int .u16 a1, .int .u16 a2, .int .u32 a3, .int .u32 a4, .int .u8 a5, .int .u16 a6, .int .u16 a7, .slice ao os.length co, .slice ad nd cd] 27))
  clear hP hvo hvd hg
  go_enter Try.func22, Try.ntmps22
  go_wp2_with fail
  refine (HP.out _ hx0.out).mono ?_
  rintro e w1 ⟨u, rfl, hu, hx1⟩
  obtain ⟨au, cu, rfl, -, -, -⟩ := id hu.rd
  clear hu
  rcases hE : (E == 0) with _ | _
  · have hT : Hid (tmay ⟨a1, a2, a3, a4, a5, a6, a7, os, data⟩ = false) := by unfold Hid; rw [hS.out]; simpa using hE
    go_wp2_with fail
    go_ret
    exact ⟨by rw [hT.out]; rfl, hx0.out.tr hx1⟩
  · have hT : Hid (tmay ⟨a1, a2, a3, a4, a5, a6, a7, os, data⟩ = true) := by unfold Hid; rw [hS.out]; simpa using hE
    go_wp2_with fail
    go_ret
    exact ⟨by rw [hT.out]; rfl, hx0.out.tr hx1⟩

set_option maxHeartbeats 1000000 in
theorem r6parse_any (s d : Int) (v : Value) (l : List Int) (w : World) (hv : Rd .u8 w v l) (hb : Byt l) (hs : 0 ≤ s ∧ s ≤ 4294967295) (hd : 0 ≤ d ∧ d ≤ 4294967295) (hl : l.length ≤ 140737488351232) :
    Calls Try.prog 19 #[.int .u32 s, .int .u32 d, v] w fun e w' => ∃ vo vd, e = .returned (.tuple #[.agg ((tpar s d l).1.cells vo vd), .int .i64 (tpar s d l).2]) ∧ RdO w' vo (tpar s d l).1.os ∧ Rd .u8 w' vd (tpar s d l).1.data ∧ Ext w w' := by
  have hno : ∀ (w' : World), RdO w' (.slice none 0 0) Sg.none.os := fun w' => (FrO.nil w' 0).rdo
  have hnd : ∀ (w' : World), Rd .u8 w' (.slice none 0 0) Sg.none.data := fun w' => Rd.nil .u8 w'
  have hP : tpar s d l = if terr s d l = 0 then (tseg l, 0) else (Sg.none, terr s d l) := rfl
  have hE : terr s d l = if 1480 < l.length then 3 else if l.length < 20 then 4 else if toff l < 20 then 5 else if l.length < toff l then 4 else if csum (pseu s d 6 l.length ++ l) ≠ 65535 then 20 else if (opar (topt l)).2 ≠ 0 then 5 else 0 := rfl
  obtain ⟨a, cap, rfl, hc1, hc2, hr⟩ := id hv
  unfold maxLen at hc2
  have HB := Lib.hid hb
  have HR := Lib.hid hr
  have HV := Lib.hid hv
  have HP := Lib.hid hP
  have HE := Lib.hid hE
  have HNO := Lib.hid hno
  have HND := Lib.hid hnd
  clear hb hr hv hP hE hno hnd
  have HZ : ∀ n : Int, n ≠ 0 → terr s d l = n → tpar s d l = (Sg.none, n) := fun n h0 h => by rw [HP.out, h, if_neg h0]
  replace HZ := Lib.hid HZ
  have hxx : ∀ (W : World), Ext w ((w.alloc W.heap[0]!).alloc W.heap[0]!) := fun W => (Ext.new _ _).al _
  clear hxx
  by_cases h1 : 1480 < l.length
  · have hT := Lib.hid (HZ.out 3 (by decide) (by rw [HE.out, if_pos h1]))
    have h1' : (1480 : Int) < (l.length : Int) := by omega
    clear h1
    go_enter Try.func19, Try.ntmps19
    go_wp2_with fail
    refine bodyPost_ret (v := .tuple #[.agg (Sg.none.cells (.slice none 0 0) (.slice none 0 0)), .int .i64 3]) (by simp [results, Try.results19, go_sem, Sg.none]) rfl ?_
    rw [hT.out]
    refine ⟨_, _, rfl, HNO.out _, HND.out _, ?_⟩
    repeat (first | with_reducible exact Below.refl _ _ | with_reducible assumption | with_reducible exact Ext.drN (Ext.rfl' _) _ | with_reducible refine Below.setCell ?_ ?_ _ | with_reducible refine Ext.al ?_ _ | with_reducible refine Ext.drN ?_ _ | with_reducible refine Ext.dr ?_ | exact Nat.le_refl _ | omega | (dsimp only; omega) | (show _ ≤ _; omega) | (simp; done) | (simp; omega))
  by_cases h2 : l.length < 20
  · have hT := Lib.hid (HZ.out 4 (by decide) (by rw [HE.out, if_neg h1, if_pos h2]))
    have h1' : ¬ (1480 : Int) < (l.length : Int) := by omega
    have h2' : (l.length : Int) < 20 := by omega
    clear h1 h2
    go_enter Try.func19, Try.ntmps19
    go_wp2_with fail
    refine bodyPost_ret (v := .tuple #[.agg (Sg.none.cells (.slice none 0 0) (.slice none 0 0)), .int .i64 4]) (by simp [results, Try.results19, go_sem, Sg.none]) rfl ?_
    rw [hT.out]
    refine ⟨_, _, rfl, HNO.out _, HND.out _, ?_⟩
    repeat (first | with_reducible exact Below.refl _ _ | with_reducible assumption | with_reducible exact Ext.drN (Ext.rfl' _) _ | with_reducible refine Below.setCell ?_ ?_ _ | with_reducible refine Ext.al ?_ _ | with_reducible refine Ext.drN ?_ _ | with_reducible refine Ext.dr ?_ | exact Nat.le_refl _ | omega | (dsimp only; omega) | (show _ ≤ _; omega) | (simp; done) | (simp; omega))
  rcases HR.out with h0 | ⟨b, o, rfl, hrw⟩
  · rw [h0] at h2; simp at h2
  have c12 := hrw 12 (by omega)
  have c13 := hrw 13 (by omega)
  clear hrw
  have h12 := HB.out.at 12
  have hto : toff l = (l.getD 12 0 / 16).toNat * 4 := rfl
  have htt : topt l = (l.drop 20).take (toff l - 20) := rfl
  have hts : tseg l = ⟨be16 l 0, be16 l 2, be32 l 4, be32 l 8, l.getD 13 0, be16 l 14, be16 l 18, (opar (topt l)).1, l.drop (toff l)⟩ := rfl
  have hcut := fun (h20 : 20 ≤ toff l) (hle : toff l ≤ l.length) => HV.out.cut 20 (toff l - 20) (toff l) (by omega) hle
  have hdrp := fun (hle : toff l ≤ l.length) => HV.out.cut (toff l) (l.length - toff l) l.length (by omega) (Nat.le_refl _)
  have hnI : l.getD 12 0 / 16 * 4 = (toff l : Int) := by rw [hto]; omega
  generalize hN : toff l = N at *
  have HN := Lib.hid hN
  generalize l.getD 12 0 = x12 at *
  have HTT := Lib.hid htt
  have HTS := Lib.hid hts
  have HNI := Lib.hid hnI
  have HCUT := Lib.hid hcut
  have HDRP := Lib.hid hdrp
  clear hto htt hts hN hcut hdrp hnI
  have hy1 : ¬ (1480 : Int) < (l.length : Int) := by omega
  have hy2 : ¬ (l.length : Int) < 20 := by omega
  have hy3 : (12 : Int) < (l.length : Int) := by omega
  have hN60 : (N : Int) ≤ 60 := by have := HNI.out; omega
  go_enter Try.func19, Try.ntmps19
  have hW0 : ∀ n : Int, Ext w ((w.alloc (.cells (Sg.none.cells (.slice none 0 0) (.slice none 0 0)) 27)).alloc (.cells (Sg.none.cells (.slice none 0 0) (.slice none 0 0)) 27)) := fun _ => (Ext.new _ _).al _
  clear hW0
  go_upto_region 6 with (fail)
  generalize hW : World.alloc (World.alloc w _) _ = W
  have hxW : Ext w W := by rw [← hW]; exact (Ext.new _ _).al _
  have k6 : W.heap[w.heap.size]? = some (.cells (Sg.none.cells (.slice none 0 0) (.slice none 0 0)) 27) := by rw [← hW]; simp only [heap_alloc_at, World.size_alloc]; repeat (first | rfl | rw [if_pos (by first | trivial | omega)] | rw [if_neg (by omega)])
  have k8 : W.heap[w.heap.size + 1]? = some (.cells (Sg.none.cells (.slice none 0 0) (.slice none 0 0)) 27) := by rw [← hW]; simp only [heap_alloc_at, World.size_alloc]; repeat (first | rfl | rw [if_pos (by first | trivial | omega)] | rw [if_neg (by omega)])
  clear hW
  simp only [Sg.cells, Sg.none] at k6 k8
  have hnq := HNI.out
  have HK := Lib.hid hxW
  have c12 := hxW.cell c12
  have c13 := hxW.cell c13
  by_cases h3 : N < 20
  · have hT := Lib.hid (HZ.out 5 (by decide) (by rw [HE.out, if_neg h1, if_neg h2, if_pos h3]))
    have h3' : (N : Int) < 20 := by omega
    clear h1 h2 h3
    have y0 := cell_blk k8 0
    have y1 := cell_blk k8 1
    have y2 := cell_blk k8 2
    have y3 := cell_blk k8 3
    have y4 := cell_blk k8 4
    have y5 := cell_blk k8 5
    have y6 := cell_blk k8 6
    have y7 := cell_blk k8 7
    have y8 := cell_blk k8 8
    simp at y0 y1 y2 y3 y4 y5 y6 y7 y8
    have z0 := cell_blk k6 0
    have z1 := cell_blk k6 1
    have z2 := cell_blk k6 2
    have z3 := cell_blk k6 3
    have z4 := cell_blk k6 4
    have z5 := cell_blk k6 5
    have z6 := cell_blk k6 6
    have z7 := cell_blk k6 7
    have z8 := cell_blk k6 8
    simp at z0 z1 z2 z3 z4 z5 z6 z7 z8
    have f6 := fz_blk k6
    go_wp2_with fail
    refine bodyPost_ret (v := .tuple #[.agg (Sg.none.cells (.slice none 0 0) (.slice none 0 0)), .int .i64 5]) (by simp [results, Try.results19, go_sem, Sg.none, z0, z1, z2, z3, z4, z5, z6, z7, z8]) rfl ?_
    rw [hT.out]
    refine ⟨_, _, rfl, HNO.out _, HND.out _, ?_⟩
    repeat (first | with_reducible exact Below.refl _ _ | with_reducible assumption | with_reducible exact Ext.drN (Ext.rfl' _) _ | with_reducible refine Below.setCell ?_ ?_ _ | with_reducible refine Ext.al ?_ _ | with_reducible refine Ext.drN ?_ _ | with_reducible refine Ext.dr ?_ | exact Nat.le_refl _ | omega | (dsimp only; omega) | (show _ ≤ _; omega) | (simp; done) | (simp; omega))
  have h3' : ¬ (N : Int) < 20 := by omega
  by_cases h4 : l.length < N
  · have hT := Lib.hid (HZ.out 4 (by decide) (by rw [HE.out, if_neg h1, if_neg h2, if_neg h3, if_pos h4]))
    have h4' : (l.length : Int) < (N : Int) := by omega
    clear h1 h2 h3 h4
    have y0 := cell_blk k8 0
    have y1 := cell_blk k8 1
    have y2 := cell_blk k8 2
    have y3 := cell_blk k8 3
    have y4 := cell_blk k8 4
    have y5 := cell_blk k8 5
    have y6 := cell_blk k8 6
    have y7 := cell_blk k8 7
    have y8 := cell_blk k8 8
    simp at y0 y1 y2 y3 y4 y5 y6 y7 y8
    have z0 := cell_blk k6 0
    have z1 := cell_blk k6 1
    have z2 := cell_blk k6 2
    have z3 := cell_blk k6 3
    have z4 := cell_blk k6 4
    have z5 := cell_blk k6 5
    have z6 := cell_blk k6 6
    have z7 := cell_blk k6 7
    have z8 := cell_blk k6 8
    simp at z0 z1 z2 z3 z4 z5 z6 z7 z8
    have f6 := fz_blk k6
    go_wp2_with fail
    refine bodyPost_ret (v := .tuple #[.agg (Sg.none.cells (.slice none 0 0) (.slice none 0 0)), .int .i64 4]) (by simp [results, Try.results19, go_sem, Sg.none, z0, z1, z2, z3, z4, z5, z6, z7, z8]) rfl ?_
    rw [hT.out]
    refine ⟨_, _, rfl, HNO.out _, HND.out _, ?_⟩
    repeat (first | with_reducible exact Below.refl _ _ | with_reducible assumption | with_reducible exact Ext.drN (Ext.rfl' _) _ | with_reducible refine Below.setCell ?_ ?_ _ | with_reducible refine Ext.al ?_ _ | with_reducible refine Ext.drN ?_ _ | with_reducible refine Ext.dr ?_ | exact Nat.le_refl _ | omega | (dsimp only; omega) | (show _ ≤ _; omega) | (simp; done) | (simp; omega))
  have h4' : ¬ (l.length : Int) < (N : Int) := by omega
  have hpl := pseu_len s d 6 l.length
  have hcsb : Hid (Byt (pseu s d 6 l.length ++ l)) := (pseu_byt _ hs hd (by decide)).app HB.out
  have hcsl : Hid ((pseu s d 6 l.length ++ l).length ≤ 281474976710656) := by unfold Hid; rw [List.length_append]; omega
  generalize hPL : pseu s d 6 l.length ++ l = PL at *
  have HPL := Lib.hid hPL
  clear hPL hpl
  generalize hC : csum PL = C at *
  have HC := Lib.hid hC
  clear hC
  go_wp2_with fail
  refine (rwhole_any s d _ l W (HV.out.ext hxW) hs hd (by omega)).mono ?_
  rw [HPL.out]
  rintro e w1 ⟨u, rfl, hu, hx1⟩
  obtain ⟨au, nu, cu, rfl⟩ := hu.rd.shape
  have hur := hu.rd
  clear hu
  go_wp2_with fail
  refine (rsum_any _ PL _ hur hcsb.out hcsl.out).mono ?_
  rw [HC.out]
  rintro e w2 ⟨rfl, rfl⟩
  have k6 := hx1.block k6
  have k8 := hx1.block k8
  have c13 := hx1.cell c13
  have hlt6 := lt_of_block k6
  have hxW := hxW.tr hx1
  clear hx1 hur
  by_cases h5 : C ≠ 65535
  · have hT := Lib.hid (HZ.out 20 (by decide) (by rw [HE.out, if_neg h1, if_neg h2, if_neg h3, if_neg h4, if_pos h5]))
    have h5' : (C != 65535) = true := by simpa using h5
    clear h1 h2 h3 h4 h5
    have y0 := cell_blk k8 0
    have y1 := cell_blk k8 1
    have y2 := cell_blk k8 2
    have y3 := cell_blk k8 3
    have y4 := cell_blk k8 4
    have y5 := cell_blk k8 5
    have y6 := cell_blk k8 6
    have y7 := cell_blk k8 7
    have y8 := cell_blk k8 8
    simp at y0 y1 y2 y3 y4 y5 y6 y7 y8
    have z0 := cell_blk k6 0
    have z1 := cell_blk k6 1
    have z2 := cell_blk k6 2
    have z3 := cell_blk k6 3
    have z4 := cell_blk k6 4
    have z5 := cell_blk k6 5
    have z6 := cell_blk k6 6
    have z7 := cell_blk k6 7
    have z8 := cell_blk k6 8
    simp at z0 z1 z2 z3 z4 z5 z6 z7 z8
    have f6 := fz_blk k6
    go_wp2_with fail
    refine bodyPost_ret (v := .tuple #[.agg (Sg.none.cells (.slice none 0 0) (.slice none 0 0)), .int .i64 20]) (by simp [results, Try.results19, go_sem, Sg.none, z0, z1, z2, z3, z4, z5, z6, z7, z8]) rfl ?_
    rw [hT.out]
    refine ⟨_, _, rfl, HNO.out _, HND.out _, ?_⟩
    repeat (first | with_reducible exact Below.refl _ _ | with_reducible assumption | with_reducible exact Ext.drN (Ext.rfl' _) _ | with_reducible refine Below.setCell ?_ ?_ _ | with_reducible refine Ext.al ?_ _ | with_reducible refine Ext.drN ?_ _ | with_reducible refine Ext.dr ?_ | exact Nat.le_refl _ | omega | (dsimp only; omega) | (show _ ≤ _; omega) | (simp; done) | (simp; omega))
  have hE5 := HE.out
  rw [if_neg h1, if_neg h2, if_neg h3, if_neg h4, if_neg h5] at hE5
  replace hE5 := Lib.hid hE5
  have h5' := Classical.not_not.1 h5
  subst h5'
  have hct : Rd .u8 w (.slice (if cap = 20 then some (⟨b, o, none⟩ : Addr) else some ⟨b, o + 20, none⟩) (N - 20) (cap - 20)) ((l.drop 20).take (N - 20)) := HCUT.out (by omega) (by omega)
  have hdt := HDRP.out (by omega)
  rw [show Option.map (fun x : Addr => x.add N) (some ⟨b, o, none⟩) = some ⟨b, o + N, none⟩ from by simp [Addr.add]; omega] at hdt
  rw [List.take_of_length_le (by rw [List.length_drop]; omega)] at hdt
  rw [← HTT.out] at hct
  have htb : Byt (topt l) := by rw [HTT.out]; exact (HB.out.drop _).take _
  have htl : (topt l).length ≤ 140737488351232 := by rw [HTT.out, List.length_take, List.length_drop]; omega
  have hdl : (l.drop N).length ≤ 1480 := by rw [List.length_drop]; omega
  have HPA := Lib.hid (fun (v : Value) (W : World) (h : Rd .u8 W v (topt l)) => r5parse_any v (topt l) W h htb htl)
  clear h1 h2 h3 h4 h5 htb htl
  generalize topt l = T at *
  generalize hoP : opar T = OP at *
  obtain ⟨O, E⟩ := OP
  dsimp only at *
  have hcT : Hid (Ext w W) := HK.out
  generalize hsa : (if cap = 20 then some (⟨b, o, none⟩ : Addr) else some ⟨b, o + 20, none⟩) = sa at *
  generalize hsb : (if cap = N then some (⟨b, o, none⟩ : Addr) else some ⟨b, o + N, none⟩) = sb at *
  have g1 : (N : Int) ≤ cap := by omega
  have g2 : (20 : Int) ≤ (N : Int) := by omega
  go_upto_region 13 with (fail)
  go_wp2_with fail
  refine (HPA.out _ w2 (hct.ext hxW)).mono ?_
  rintro e w3 ⟨uo, rfl, hfo, hx3⟩
  obtain ⟨ao, co, rfl⟩ := hfo.rdo.shape
  have k6 := hx3.block k6
  have k8 := hx3.block k8
  have c13 := hx3.cell c13
  have hw23 := hx3.size
  have hxW := hxW.tr hx3
  clear hx3 hct
  by_cases hE0 : E ≠ 0
  · have hT := Lib.hid (HZ.out 5 (by decide) (by rw [hE5.out, if_pos hE0]))
    have hE0' : (E != 0) = true := by simpa using hE0
    clear hE0
    have y0 := cell_blk k8 0
    have y1 := cell_blk k8 1
    have y2 := cell_blk k8 2
    have y3 := cell_blk k8 3
    have y4 := cell_blk k8 4
    have y5 := cell_blk k8 5
    have y6 := cell_blk k8 6
    have y7 := cell_blk k8 7
    have y8 := cell_blk k8 8
    simp at y0 y1 y2 y3 y4 y5 y6 y7 y8
    have z0 := cell_blk k6 0
    have z1 := cell_blk k6 1
    have z2 := cell_blk k6 2
    have z3 := cell_blk k6 3
    have z4 := cell_blk k6 4
    have z5 := cell_blk k6 5
    have z6 := cell_blk k6 6
    have z7 := cell_blk k6 7
    have z8 := cell_blk k6 8
    simp at z0 z1 z2 z3 z4 z5 z6 z7 z8
    have f6 := fz_blk k6
    go_wp2_with fail
    refine bodyPost_ret (v := .tuple #[.agg (Sg.none.cells (.slice none 0 0) (.slice none 0 0)), .int .i64 5]) (by simp [results, Try.results19, go_sem, Sg.none, z0, z1, z2, z3, z4, z5, z6, z7, z8]) rfl ?_
    rw [hT.out]
    refine ⟨_, _, rfl, HNO.out _, HND.out _, ?_⟩
    repeat (first | with_reducible exact Below.refl _ _ | with_reducible assumption | with_reducible exact Ext.drN (Ext.rfl' _) _ | with_reducible refine Below.setCell ?_ ?_ _ | with_reducible refine Ext.al ?_ _ | with_reducible refine Ext.drN ?_ _ | with_reducible refine Ext.dr ?_ | exact Nat.le_refl _ | omega | (dsimp only; omega) | (show _ ≤ _; omega) | (simp; done) | (simp; omega))
  have hT0 : terr s d l = 0 := by rw [hE5.out, if_neg hE0]
  have hT := Lib.hid (HP.out.trans (if_pos hT0))
  rw [HTS.out] at hT
  have hE0' := Classical.not_not.1 hE0
  subst hE0'
  have hr0 := Lib.hid (fun (W : World) (hx : Ext w W) => rnum2_any _ l 0 W (HV.out.ext hx) HB.out (by omega))
  have hr2 := Lib.hid (fun (W : World) (hx : Ext w W) => rnum2_any _ l 2 W (HV.out.ext hx) HB.out (by omega))
  have hr4 := Lib.hid (fun (W : World) (hx : Ext w W) => rnum4_any _ l 4 W (HV.out.ext hx) HB.out (by omega))
  have hr8 := Lib.hid (fun (W : World) (hx : Ext w W) => rnum4_any _ l 8 W (HV.out.ext hx) HB.out (by omega))
  have hr14 := Lib.hid (fun (W : World) (hx : Ext w W) => rnum2_any _ l 14 W (HV.out.ext hx) HB.out (by omega))
  have hr18 := Lib.hid (fun (W : World) (hx : Ext w W) => rnum2_any _ l 18 W (HV.out.ext hx) HB.out (by omega))
  have hb0 := be16_bd HB.out 0
  have hb2 := be16_bd HB.out 2
  have hb14 := be16_bd HB.out 14
  have hb18 := be16_bd HB.out 18
  generalize be16 l 0 = A0 at *
  generalize be16 l 2 = A2 at *
  generalize be32 l 4 = B4 at *
  generalize be32 l 8 = B8 at *
  generalize be16 l 14 = A14 at *
  generalize be16 l 18 = A18 at *
  generalize l.getD 13 0 = x13 at *
  generalize l.drop N = D at *
  have hw0 : IntKind.u16.wrap A0 = A0 := by rw [IntKind.wrap_u16]; omega
  have hw2 : IntKind.u16.wrap A2 = A2 := by rw [IntKind.wrap_u16]; omega
  have hw14 : IntKind.u16.wrap A14 = A14 := by rw [IntKind.wrap_u16]; omega
  have hw18 : IntKind.u16.wrap A18 = A18 := by rw [IntKind.wrap_u16]; omega
  have g3 : (13 : Int) < (l.length : Int) := by omega
  have g4 : (N : Int) ≤ (l.length : Int) := by omega
  clear HE hE5 HP HZ HR HCUT HDRP HTT hT0 hE0
  go_upto_region 17 with (fail)
  refine wp_region_tail 26 [(1, is (.int .u32 A0)), (4, is (.int .u32 A2)), (7, is (.int .u32 B4)), (9, is (.int .u32 B8)), (14, is (.int .u32 A14)), (17, is (.int .u32 A18)), (24, fun v w' => Own w' w3.heap.size 5 .u8 v D)] ?_ (by kernel_rfl) (by kernel_rfl) (by kernel_rfl) ?_
  · exact lasts_is (lasts_is (lasts_is (lasts_is (lasts_is (lasts_is (lasts_cons (fun _ _ _ hx h => Own.kept h hx) lasts_nil))))))
  simp only [List.take, List.drop]
  iterate 1
    apply wpL_none rfl rfl
    · intro w' hw' hn'; go_simp; exact rfl
    intro K hK; go_simp; refine hK _ _ ?_; clear hK K
  apply wpL_some rfl rfl
  · intro w' hw' hn'
    go_simp
    refine ⟨Ext.rfl' _, ?_⟩
    refine (hr0.out _ (hxW.tr hw')).mono ?_
    rintro e w2 ⟨rfl, hx⟩
    exact ⟨_, rfl, hx, rfl⟩
  intro v w' hw' hD' hv
  obtain rfl : v = _ := hv
  clear hw' hD' w'
  intro K hK; go_simp; refine hK _ _ ?_; clear hK K
  iterate 2
    apply wpL_none rfl rfl
    · intro w' hw' hn'; go_simp; exact rfl
    intro K hK; go_simp; refine hK _ _ ?_; clear hK K
  apply wpL_some rfl rfl
  · intro w' hw' hn'
    go_simp
    refine ⟨Ext.rfl' _, ?_⟩
    refine (hr2.out _ (hxW.tr hw')).mono ?_
    rintro e w2 ⟨rfl, hx⟩
    exact ⟨_, rfl, hx, rfl⟩
  intro v w' hw' hD' hv
  obtain rfl : v = _ := hv
  clear hw' hD' w'
  intro K hK; go_simp; refine hK _ _ ?_; clear hK K
  iterate 2
    apply wpL_none rfl rfl
    · intro w' hw' hn'; go_simp; exact rfl
    intro K hK; go_simp; refine hK _ _ ?_; clear hK K
  apply wpL_some rfl rfl
  · intro w' hw' hn'
    go_simp
    refine ⟨Ext.rfl' _, ?_⟩
    refine (hr4.out _ (hxW.tr hw')).mono ?_
    rintro e w2 ⟨rfl, hx⟩
    exact ⟨_, rfl, hx, rfl⟩
  intro v w' hw' hD' hv
  obtain rfl : v = _ := hv
  clear hw' hD' w'
  intro K hK; go_simp; refine hK _ _ ?_; clear hK K
  iterate 1
    apply wpL_none rfl rfl
    · intro w' hw' hn'; go_simp; exact rfl
    intro K hK; go_simp; refine hK _ _ ?_; clear hK K
  apply wpL_some rfl rfl
  · intro w' hw' hn'
    go_simp
    refine ⟨Ext.rfl' _, ?_⟩
    refine (hr8.out _ (hxW.tr hw')).mono ?_
    rintro e w2 ⟨rfl, hx⟩
    exact ⟨_, rfl, hx, rfl⟩
  intro v w' hw' hD' hv
  obtain rfl : v = _ := hv
  clear hw' hD' w'
  intro K hK; go_simp; refine hK _ _ ?_; clear hK K
  iterate 2
    apply wpL_none rfl rfl
    · intro w' hw' hn'; go_simp; exact rfl
    intro K hK; go_simp; refine hK _ _ ?_; clear hK K
  iterate 1
    apply wpL_none rfl rfl
    · intro w' hw' hn'; have c13 := Ext.cell hw' c13; go_simp; exact rfl
    intro K hK; go_simp; refine hK _ _ ?_; clear hK K
  iterate 1
    apply wpL_none rfl rfl
    · intro w' hw' hn'; go_simp; exact rfl
    intro K hK; go_simp; refine hK _ _ ?_; clear hK K
  apply wpL_some rfl rfl
  · intro w' hw' hn'
    go_simp
    refine ⟨Ext.rfl' _, ?_⟩
    refine (hr14.out _ (hxW.tr hw')).mono ?_
    rintro e w2 ⟨rfl, hx⟩
    exact ⟨_, rfl, hx, rfl⟩
  intro v w' hw' hD' hv
  obtain rfl : v = _ := hv
  clear hw' hD' w'
  intro K hK; go_simp; refine hK _ _ ?_; clear hK K
  iterate 2
    apply wpL_none rfl rfl
    · intro w' hw' hn'; go_simp; exact rfl
    intro K hK; go_simp; refine hK _ _ ?_; clear hK K
  apply wpL_some rfl rfl
  · intro w' hw' hn'
    go_simp
    refine ⟨Ext.rfl' _, ?_⟩
    refine (hr18.out _ (hxW.tr hw')).mono ?_
    rintro e w2 ⟨rfl, hx⟩
    exact ⟨_, rfl, hx, rfl⟩
  intro v w' hw' hD' hv
  obtain rfl : v = _ := hv
  clear hw' hD' w'
  intro K hK; go_simp; refine hK _ _ ?_; clear hK K
  iterate 6
    apply wpL_none rfl rfl
    · intro w' hw' hn'; go_simp; exact rfl
    intro K hK; go_simp; refine hK _ _ ?_; clear hK K
  apply wpL_some rfl rfl
  · intro w' hw' hn'
    refine upon_app_own isU8 (.tmp 72) (.tmp 75) (by rfl) w3.heap.size (.slice none 0 0) [] (by rfl) (Own.nil _ _ _ _) (.slice sb (l.length - N) (cap - N)) D (by rfl) (hdt.ext (hxW.tr hw')) (by simp; omega) (by simp [maxLen]; omega) hw'.size (fun v' w'' q1 q2 q3 q4 => ⟨nil_grow q2 (Ext.rfl' _), by simpa using q1⟩)
  intro v24 w24 hw24 hD24 hv24
  obtain ⟨a24, n24, c24, rfl⟩ := hv24.rd.shape
  clear hw24 hD24 hv24 w24
  intro K hK; go_simp; refine hK _ _ ?_; clear hK K
  iterate 1
    apply wpL_none rfl rfl
    · intro w' hw' hn'; go_simp; exact rfl
    intro K hK; go_simp; refine hK _ _ ?_; clear hK K
  refine wpL_nil ?_
  intro w' hw' hD'
  have hv24 : Own w' w3.heap.size 5 .u8 (.slice a24 n24 c24) D := by have := hD' 24; simpa [Loose.upd] using this
  have k6 := Ext.block hw' k6
  have z0 := cell_blk k6 0
  have z1 := cell_blk k6 1
  have z2 := cell_blk k6 2
  have z3 := cell_blk k6 3
  have z4 := cell_blk k6 4
  have z5 := cell_blk k6 5
  have z6 := cell_blk k6 6
  have z7 := cell_blk k6 7
  have z8 := cell_blk k6 8
  simp at z0 z1 z2 z3 z4 z5 z6 z7 z8
  have f6 := fz_blk k6
  have hxw := hxW.tr hw'
  have hfo' := hfo.keep (Keep.ofExt hw')
  have hB : w.heap.size < w2.heap.size := hlt6
  apply wpVL_step rfl
  intro K hK
  go_simp
  refine hK _ _ ?_
  clear hK K
  iterate 1
    apply wpVL_step rfl
    intro K hK
    go_simp
    refine hK _ _ ?_
    clear hK K
  refine wpVL_nil ?_
  have hfin : ∀ w'' : World, Mvs (fun k => k = w.heap.size) w' w'' → RdO w'' (.slice ao O.length co) O ∧ Rd .u8 w'' (.slice a24 n24 c24) D ∧ Ext w w'' := fun w'' hmv => by
    have hkp := Keep.ofMvs hmv (base := w2.heap.size) (fun k hk => by omega)
    exact ⟨(hfo'.keep hkp).rdo, (Own.keep (hv24.low hw23) hkp).rd, hmv.ext hxw (fun k hk => by omega)⟩
  have HFIN := Lib.hid hfin
  clear hfin hfo hfo' hv24 hD' hxw
  go_wp2_with fail
  refine bodyPost_ret (v := .tuple #[.agg #[.int .u16 A0, .int .u16 A2, .int .u32 B4, .int .u32 B8, .int .u8 x13, .int .u16 A14, .int .u16 A18, .slice ao O.length co, .slice a24 n24 c24], .int .i64 0]) (by simp [results, Try.results19, go_sem, z0, z1, z2, z3, z4, z5, z6, z7, z8]) rfl ?_
  rw [hT.out]
  refine ⟨_, _, rfl, HFIN.out _ ?_⟩
  repeat (first | with_reducible exact Mvs.refl _ _ | refine Mvs.tr ?_ (Mvs.set _ _ _ rfl))
end Go.Proofs.Ytjaffcbadgpolaa
