/-
  Proved here: what (shift.Shift).options computes: sov. Condition: numbers within their kinds, at most 50000 options.
-/
import Derived.Test.YtgbbpibcmpeneaaShO
namespace Go.Proofs.Ytgbbpibcmpeneaa
set_option maxRecDepth 200000
open Go.ChangeShapes Go.WideShapes Go.ChangeAt Go.RowKit Go.Cul Go.Loose
set_option linter.unusedVariables false
attribute [local go_sem] Loose.Still Loose.Upon Loose.vUpon

theorem sovG_drop {x : Shf} {t : Bool} {os : List Op1} {i : Nat} (h : i < os.length) : sovG x t (os.drop i) = (sone x t (os.getD i (0, []))).1 ++ sovG x (sone x t (os.getD i (0, []))).2 (os.drop (i + 1)) := by
  rw [List.drop_eq_getElem_cons h]
  simp [sovG, List.getD, h]
theorem sone_len (x : Shf) (t : Bool) (o : Op1) : (sone x t o).1.length ≤ 1 := by
  unfold sone; repeat' split
  all_goals simp
theorem sovG_len (x : Shf) : ∀ (os : List Op1) (t : Bool), (sovG x t os).length ≤ os.length
  | [], _ => by simp [sovG]
  | o :: r, t => by
    have h1 := sone_len x t o
    have h2 := sovG_len x r (sone x t o).2
    simp only [sovG, List.length_append, List.length_cons]; omega

theorem SO.keep {base B5 B6 : Nat} {acc : List Op1} {t : Bool} {w w' : World} (h : SO base B5 B6 acc t w) (hx : Ext w w') : SO base B5 B6 acc t w' := by
  obtain ⟨v, k5, hf, k6⟩ := h
  exact ⟨v, hx.block k5, hf.keep (Keep.ofExt hx), hx.block k6⟩
theorem SO.low {base base' B5 B6 : Nat} {acc : List Op1} {t : Bool} {w : World} (h : SO base B5 B6 acc t w) (hb : base' ≤ base) : SO base' B5 B6 acc t w := by
  obtain ⟨v, k5, hf, k6⟩ := h
  exact ⟨v, k5, hf.lowS hb, k6⟩

theorem sopt_any (x : Shf) (hx : x.ok) (k : Int) (D : List Int) (u : Value) (acc : List Op1) (t : Bool) (base B5 B6 B2 : Nat) (w : World) (hk : 0 ≤ k ∧ k ≤ 255) (hkk : keepK (k, D) = true) (hD : Byt D) (hl : D.length ≤ 1000000) (hu : Rd .u8 w u D)
    (hs : SO base B5 B6 acc t w) (k2 : w.heap[B2]? = some (.cells x.cells 40)) (hb : B5 < base ∧ B6 < base ∧ B2 < base ∧ B5 ≠ B6 ∧ B2 ≠ B5 ∧ B2 ≠ B6) (hacc : acc.length ≤ 50000) (hbase : base ≤ w.heap.size) :
    Calls Try.prog 50 #[.agg #[.int .u8 k, u], .pointer (some ⟨B5, 0, none⟩), .pointer (some ⟨B6, 0, none⟩), .pointer (some ⟨B2, 0, none⟩)] w fun e w' => e = .returned (.tuple #[]) ∧ SO base B5 B6 (acc ++ (sone x t (k, D)).1) (sone x t (k, D)).2 w' ∧ Mvs (fun j => j = B5 ∨ j = B6 ∨ base ≤ j) w w' := by
  by_cases h5 : k = 5
  · subst h5
    exact sopt_sack x hx D u acc t base B5 B6 B2 w hD (by omega) hu hs k2 hb hacc hbase
  · rw [sone_other hkk h5]
    exact (sopt_other x k D u acc t base B5 B6 B2 w hk h5 (by omega) hu hs ⟨hb.1, hb.2.1, hb.2.2.2.1⟩ hacc hbase).mono (by rintro e w' ⟨h1, h2, h3⟩; exact ⟨h1, h2, h3.mono (fun j _ hj => hj.elim .inl (fun h => .inr (.inr h)))⟩)

set_option maxHeartbeats 2000000 in
set_option maxRecDepth 100000 in
theorem sopts_any (x : Shf) (hx : x.ok) (v : Value) (os : List Op1) (w : World) (hv : RdO w v os) (hby : BytO os) (hdl : ∀ o ∈ os, o.2.length ≤ 1000000) (hn : os.length ≤ 50000) :
    Calls Try.prog 46 #[.agg x.cells, v] w fun e w' => ∃ u, e = .returned u ∧ FrO w' w.heap.size u (sov x os) ∧ Ext w w' := by
  obtain ⟨a, cap, rfl, hc1, hc2, hr⟩ := id hv
  unfold maxLen at hc2
  have HX := Lib.hid hx
  have HR := Lib.hid hr
  have HBY := Lib.hid hby
  have HDL := Lib.hid hdl
  have HSV : Hid (sov x os = sovG x false os) := Lib.hid rfl
  generalize sov x os = SV at *
  generalize hxc : x.cells = xc at *
  have HXC := Lib.hid hxc
  clear hr hv hx hby hxc hdl
  go_enter Try.func46, Try.ntmps46
  go_wp2_with fail
  have hx1 := Ext.new w (.cells xc 40)
  have hx2 := Ext.new (w.alloc (.cells xc 40)) (.cells #[.slice none 0 0] 49)
  have hx3 := Ext.new ((w.alloc (.cells xc 40)).alloc (.cells #[.slice none 0 0] 49)) (.cells #[.bool false] 4)
  have k2 := (hx2.tr hx3).block (heap_alloc_new w (.cells xc 40))
  have k5 := hx3.block (heap_alloc_new (w.alloc (.cells xc 40)) (.cells #[.slice none 0 0] 49))
  have k6 := heap_alloc_new ((w.alloc (.cells xc 40)).alloc (.cells #[.slice none 0 0] 49)) (.cells #[.bool false] 4)
  have hm0 : Mvs (fun j => w.heap.size ≤ j) w _ := Mvs.ofExt (hx1.tr (hx2.tr hx3))
  simp only [World.size_alloc] at k5 k6
  have hs0 : SO (w.heap.size + 3) (w.heap.size + 1) (w.heap.size + 1 + 1) [] false _ := ⟨_, k5, FrO.nil _ _, k6⟩
  have hz0 : w.heap.size + 3 ≤ (((w.alloc (.cells xc 40)).alloc (.cells #[.slice none 0 0] 49)).alloc (.cells #[.bool false] 4)).heap.size := by simp only [World.size_alloc]; omega
  clear hx1 hx2 hx3 k5 k6
  generalize ((w.alloc (.cells xc 40)).alloc (.cells #[.slice none 0 0] 49)).alloc (.cells #[.bool false] 4) = W0 at *
  have HS0 := Lib.hid hs0
  have HM0 := Lib.hid hm0
  clear hs0 hm0
  go_loopw [13] (fun iv wr => ∃ (i : Nat) (acc : List Op1) (t : Bool), i ≤ os.length ∧ iv = .int .i64 i ∧ SO (w.heap.size + 3) (w.heap.size + 1) (w.heap.size + 1 + 1) acc t wr ∧ SV = acc ++ sovG x t (os.drop i) ∧ acc.length ≤ i ∧ Mvs (fun j => w.heap.size ≤ j) w wr ∧ wr.heap[w.heap.size]? = some (.cells xc 40) ∧ w.heap.size + 3 ≤ wr.heap.size) (fun iv _ => os.length - (intOf iv).toNat)
  case atStart => exact ⟨0, [], false, Nat.zero_le _, rfl, HS0.out, by rw [HSV.out]; rfl, Nat.le_refl _, HM0.out, k2, hz0⟩
  case round =>
    clear k2 hz0 HS0 HM0
    obtain ⟨i, acc, t, hi, rfl, hso, hsv, hal, hm, k2, hz⟩ := hrel
    have hxw : Ext w wr := hm.ext (Ext.rfl' w) (fun k h => h)
    by_cases hlt : i < os.length
    · rcases HR.out with h0 | ⟨b, o, rfl, hrw⟩
      · rw [h0] at hlt; simp at hlt
      obtain ⟨u, e0, e1, hu⟩ := hrw i hlt
      clear hrw
      have e0 := hxw.cell e0
      have e1 := hxw.cell e1
      have hu := hu.ext hxw
      have hsd := sovG_drop (x := x) (t := t) hlt
      have hmem : os.getD i (0, []) ∈ os := by rw [List.getD_eq_getElem?_getD, List.getElem?_eq_getElem hlt]; exact List.getElem_mem hlt
      have hbk := HBY.out _ hmem
      have hdl := HDL.out _ hmem
      generalize os.getD i (0, []) = y at *
      obtain ⟨kx, D⟩ := y
      dsimp only at e0 hu hbk hdl
      have hkr := hbk.1
      have HBD := Lib.hid hbk.2
      obtain ⟨au, nu, cu, rfl⟩ := hu.shape
      have HU := Lib.hid hu
      have HSO := Lib.hid hso
      have HSD := Lib.hid hsd
      have HSVi := Lib.hid hsv
      have HMw := Lib.hid hm
      have HXw := Lib.hid hxw
      clear hu hso hsd hsv hm hxw hbk hmem
      have hskip : ∀ h : keepK (kx, D) = false, Hid (sone x t (kx, D) = ([], t)) := fun h => by unfold sone; rw [if_neg (by rw [h]; simp)]; exact Lib.hid rfl
      by_cases h4 : 4 < kx
      · by_cases h8 : kx = 8
        · have HSK := hskip (by subst h8; rfl)
          have h8' : (kx != 8) = false := by simp [h8]
          clear hskip h8
          go_wp2_with fail
          go_roundw
          case rel => exact ⟨i + 1, acc, t, by omega, by go_num, HSO.out.keep (Ext.new _ _), by rw [HSVi.out, HSD.out, HSK.out]; rfl, by omega, HMw.out.tr (Mvs.ofExt (Ext.new _ _)), (Ext.new _ _).block k2, by simp; omega⟩
          case measure => simp [intOf]; omega
        · have hkk : keepK (kx, D) = true := by simp [keepK, h4, h8]
          have h8' : (kx != 8) = true := by simp [h8]
          clear hskip h8
          go_wp2_with fail
          refine (sopt_any x HX.out kx D _ acc t (w.heap.size + 3) (w.heap.size + 1) (w.heap.size + 1 + 1) w.heap.size _ hkr hkk HBD.out hdl (HU.out.ext (Ext.new _ _)) (HSO.out.keep (Ext.new _ _)) (by rw [HXC.out]; exact (Ext.new _ _).block k2) (by omega) (by omega) (by simp; omega)).mono ?_
          rintro e w2 ⟨rfl, hso2, hm2⟩
          have hl1 := sone_len x t (kx, D)
          have hm2 := hm2.mono (S' := fun j => w.heap.size + 1 ≤ j) (fun j _ hj => by omega)
          have k2' := hm2.keep ((Ext.new wr (.cells #[.int .u8 kx, .slice au nu cu] 98)).block k2) (by omega)
          have hz2 := hm2.size
          simp only [World.size_alloc] at hz2
          have hmf := HMw.out.tr ((Mvs.ofExt (Ext.new wr (.cells #[.int .u8 kx, .slice au nu cu] 98))).tr (hm2.mono (fun j _ hj => by omega)))
          have hsvf := HSVi.out
          rw [HSD.out, ← List.append_assoc] at hsvf
          have HSO2 := Lib.hid hso2
          have HMF := Lib.hid hmf
          have HSF := Lib.hid hsvf
          clear hm2 hso2 hmf hsvf
          go_wp2_with fail
          go_roundw
          case rel => exact ⟨i + 1, _, _, by omega, by go_num, HSO2.out, HSF.out, by simp; omega, HMF.out, k2', by omega⟩
          case measure => simp [intOf]; omega
      · have HSK := hskip (by simp [keepK, h4])
        clear hskip
        go_wp2_with fail
        go_roundw
        case rel => exact ⟨i + 1, acc, t, by omega, by go_num, HSO.out.keep (Ext.new _ _), by rw [HSVi.out, HSD.out, HSK.out]; rfl, by omega, HMw.out.tr (Mvs.ofExt (Ext.new _ _)), (Ext.new _ _).block k2, by simp; omega⟩
        case measure => simp [intOf]; omega
    · obtain rfl : i = os.length := by omega
      rw [List.drop_length] at hsv
      simp only [sovG, List.append_nil] at hsv
      obtain ⟨u, k5, hf, k6⟩ := hso
      obtain ⟨av, cv, rfl⟩ := hf.rdo.shape
      have HF := Lib.hid hf
      subst hsv
      clear hf k6
      have y0 := cell_blk k5 0
      simp at y0
      go_wp2_with fail
      go_ret
      exact ⟨_, rfl, HF.out.lowS (by omega), hxw⟩
end Go.Proofs.Ytgbbpibcmpeneaa
