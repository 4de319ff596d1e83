/-
  Proved here: what the laid variable of plain's protocols gives the walks.
-/
import Derived.Test.YtgknjokjpaodlaaDoorPlainC
import Derived.Deep.Slices
import Derived.LaidMore
import Derived.MakeChecks
namespace Go.Proofs.YtgknjokjpaodlaaDoor
open Go.ChangeShapes Go.WideShapes Go.ChangeAt Go.RowKit Go.Cul
set_option linter.unusedVariables false

abbrev laidK : List (String × DataW Unit) := [("culvert/plain.known", Rows.laid_culvert_plain_known)]

/-- The door's own heap meets the condition. -/
theorem door_met (os : Os) (args : Array Value) : laidMetH Tryd.prog laidK ((World.doorLaid Tryd.prog 400 os).forCall (fun _ _ => 0) ⟨#[], args, []⟩).memory :=
  laidMetH_of_parts3 (fuel := 8) (laidMet_of_run' 8 (by kernel_rfl) (by kernel_rfl)) (by kernel_rfl) (by kernel_rfl)

theorem kn_of_laid {W : World} (h : laidMetH Tryd.prog laidK W) : Kn W := by
  rw [MakeChecks.laidMetH_plain _ _ _ (by kernel_rfl)] at h
  obtain ⟨ps, ⟨g, t, cs, fu, p, q, hg, ht, hv, hd, _, _⟩, _⟩ := h
  obtain rfl := Option.some.inj ((show Tryd.prog.globalNamed "culvert/plain.known" = some 0 by kernel_rfl).symm.trans hg)
  obtain rfl := Option.some.inj ((show (Tryd.prog.globals[0]?).map (·.type) = some 23 by kernel_rfl).symm.trans ht)
  rcases Deep.open_slice1 Tryd.underlying23 (show Tryd.prog.cellsOf 5 = 1 by kernel_rfl) hd with ⟨_, hx⟩ | ⟨a, len, cap, m, n, V, D, Pl, hcs, _, hl, hm, hmm, hx, hcell⟩
  · simp [Rows.laid_culvert_plain_known] at hx
  simp only [Rows.laid_culvert_plain_known, Prod.mk.injEq, DataW.slice.injEq] at hx
  obtain ⟨⟨hD, hsp⟩, _⟩ := hx
  have hlen : len = 3 := by have := congrArg List.length hD; simpa using this.symm
  subst hlen
  have hv0 : W.cell? ⟨0, 0, none⟩ = some (.slice (some a) 3 cap) := by
    have := World.var?_cell hg hv 0
    rw [Array.eq_one_of_toList hcs] at this
    simpa using this
  have hm3 : 3 ≤ m := by rw [hmm]; split <;> omega
  have hval : ∀ i x, i < 3 → D i = .lit (.int .u8 x) → W.cell? (a.add i) = some (.int .u8 x) := by
    intro i x hi hDi
    obtain ⟨h1, h2⟩ := hcell i (by omega)
    obtain ⟨k, e1, e2, _⟩ := DataW.trod_int Tryd.underlying5 h2
    have e3 : D i = .lit (.int .u8 k) := congrArg Prod.fst e2
    rw [hDi] at e3
    obtain rfl : x = k := by simpa using e3
    rw [h1]
    simpa using e1
  have hD' : D 0 = .lit (.int .u8 1) ∧ D 1 = .lit (.int .u8 6) ∧ D 2 = .lit (.int .u8 17) := by
    have : (List.range 3).map D = [D 0, D 1, D 2] := rfl
    rw [this] at hD
    simp only [List.cons.injEq, and_true] at hD
    exact ⟨hD.1.symm, hD.2.1.symm, hD.2.2.symm⟩
  have v0 := hval 0 1 (by omega) hD'.1
  have v1 := hval 1 6 (by omega) hD'.2.1
  have v2 := hval 2 17 (by omega) hD'.2.2
  obtain ⟨b, off, spot⟩ := a
  have hspot : spot = none := by simpa [Addr.add] using World.cell?_spot v0
  subst hspot
  have hadd : ∀ i, (⟨b, off, none⟩ : Addr).add i = ⟨b, off + i, none⟩ := fun i => by unfold Addr.add; split <;> simp_all
  rw [hadd] at v0 v1 v2
  refine ⟨_, hv0, some ⟨b, off, none⟩, cap, rfl, hl, hm, .inr ⟨b, off, rfl, fun i hi => ?_⟩⟩
  have hi : i < 3 := hi
  rcases (by omega : i = 0 ∨ i = 1 ∨ i = 2) with rfl | rfl | rfl
  · exact v0
  · exact v1
  · exact v2
end Go.Proofs.YtgknjokjpaodlaaDoor
