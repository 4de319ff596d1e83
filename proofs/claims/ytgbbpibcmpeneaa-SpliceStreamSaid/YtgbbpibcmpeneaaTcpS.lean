/-
  Proved here: what tcp.Same and tcp.May compute. Condition: numbers within their kinds.
-/
import Derived.Test.YtgbbpibcmpeneaaTcpW
import Derived.Test.YtgbbpibcmpeneaaOptsS
import Derived.Deep.Cut
namespace Go.Proofs.Ytgbbpibcmpeneaa
set_option maxRecDepth 200000
open Go.ChangeShapes Go.WideShapes Go.ChangeAt Go.RowKit Go.Cul Go.Loose
set_option linter.unusedVariables false

def tsame (g h : Sg) : Bool := (g.sp == h.sp) && (g.dp == h.dp) && ((g.seq == h.seq) && (g.ack == h.ack) && (g.f == h.f) && (g.win == h.win) && (g.urg == h.urg)) && decide (g.os = h.os) && decide (g.data = h.data)
theorem tsame_iff (g h : Sg) : tsame g h = true ↔ g = h := by
  obtain ⟨a1, a2, a3, a4, a5, a6, a7, a8, a9⟩ := g
  obtain ⟨b1, b2, b3, b4, b5, b6, b7, b8, b9⟩ := h
  unfold tsame
  simp only [Bool.and_eq_true, beq_iff_eq, decide_eq_true_eq, Sg.mk.injEq]
  constructor
  · rintro ⟨⟨⟨⟨h1, h2⟩, ⟨⟨⟨h3, h4⟩, h5⟩, h6⟩, h7⟩, h8⟩, h9⟩; exact ⟨h1, h2, h3, h4, h5, h6, h7, h8, h9⟩
  · rintro ⟨h1, h2, h3, h4, h5, h6, h7, h8, h9⟩; exact ⟨⟨⟨⟨h1, h2⟩, ⟨⟨⟨h3, h4⟩, h5⟩, h6⟩, h7⟩, h8⟩, h9⟩

def tmay (g : Sg) : Bool := decide ((oput g.os).2 = 0) && decide (20 + (oput g.os).1.length + g.data.length ≤ 1480)
theorem tmay_iff (g : Sg) (s d : Int) : tmay g = decide ((tput s d g).2 = 0) := by
  unfold tmay tput
  by_cases h : (oput g.os).2 = 0
  · rw [if_neg (by simp [h])]
    by_cases h2 : 1480 < 20 + (oput g.os).1.length + g.data.length
    · rw [if_pos h2]; simp [h]; omega
    · rw [if_neg h2]; simp [h]; omega
  · rw [if_pos h]; simp [h]

theorem tmay_any (g : Sg) (vo vd : Value) (w : World) (hg : g.ok) (hvo : RdO w vo g.os) (hvd : Rd .u8 w vd g.data) (hn : g.data.length ≤ 140737488351232) :
    Calls Try.prog 13 #[.agg (g.cells vo vd)] w fun e w' => e = .returned (.bool (tmay g)) ∧ Ext w w' := by
  have hS : Hid (tmay g = (decide ((oput g.os).2 = 0) && decide (20 + (oput g.os).1.length + g.data.length ≤ 1480))) := rfl
  have hol := (oput_len g.os).1
  have HO := fun (w : World) (h : RdO w vo g.os) => oput_any vo g.os w h hg.os
  obtain ⟨a1, a2, a3, a4, a5, a6, a7, os, data⟩ := g
  simp only [Sg.cells] at *
  obtain ⟨ao, co, rfl⟩ := hvo.shape
  obtain ⟨ad, cd, rfl, hd1, hd2, -⟩ := id hvd
  unfold maxLen at hd2
  generalize oput os = OE at *
  obtain ⟨O, E⟩ := OE
  dsimp only at hol HO
  clear hg
  have hx0 := Ext.new w (.cells #[.int .u16 a1, .int .u16 a2, .int .u32 a3, .int .u32 a4, .int .u8 a5, .int .u16 a6, .int .u16 a7, .slice ao os.length co, .slice ad data.length cd] 51)
  have hc := HO _ (hvo.ext hx0)
  have HX := Lib.hid hx0
  have HC := Lib.hid hc
  clear hx0 hc HO
  by_cases hE : E = 0
  · subst hE
    go_enter Try.func13, Try.ntmps13
    go_wp2_with fail
    refine HC.out.mono ?_
    rintro e w1 ⟨u, rfl, hu, hx1⟩
    obtain ⟨a1', c1, rfl, -, -, -⟩ := id hu.rd
    have kx := hx1.block (heap_alloc_new w _)
    have e8 := cell_blk kx 8
    simp at e8
    clear hu
    go_wp2_with fail
    go_ret
    refine ⟨?_, HX.out.tr hx1⟩
    rw [hS.out]
    refine ret_bool ?_
    simp
    omega
  · have hE' : (E == 0) = false := by simp [hE]
    have hS2 : Hid (tmay (Sg.mk a1 a2 a3 a4 a5 a6 a7 os data) = false) := by unfold Hid; rw [hS.out]; simp [hE]
    clear hE
    go_enter Try.func13, Try.ntmps13
    go_wp2_with fail
    refine HC.out.mono ?_
    rintro e w1 ⟨u, rfl, hu, hx1⟩
    go_wp2_with fail
    go_ret
    exact ⟨by rw [hS2.out]; rfl, HX.out.tr hx1⟩
end Go.Proofs.Ytgbbpibcmpeneaa
