/-
  Proved here: what opts' Mss, Scale, SackOk, WithMss, WithScale, PermitSack compute.
-/
import Derived.Test.YtgbbpibcmpeneaaOptF
import Derived.Deep.Cut
namespace Go.Proofs.Ytgbbpibcmpeneaa
set_option maxRecDepth 200000
open Go.ChangeShapes Go.WideShapes Go.ChangeAt Go.RowKit Go.Cul Go.Loose
set_option linter.unusedVariables false
attribute [local go_sem] Loose.Still Loose.Upon Loose.vUpon

theorem fr_setO {w : World} {base : Nat} {e : TypeId} {k : IntKind} {v : Value} {l : List Int} (h : Fr w base e k v l) {a : Addr} (ha : a.block < base) {u : Value} : Fr (w.setCell a u) base e k v l := by
  rcases h with h | h
  · refine .inl (h.other (fun he => ?_) u)
    have := (h.block _ he).1
    omega
  · exact .inr h
theorem rd_2 {kd : IntKind} {w : World} {u : Value} {l : List Int} (h : Rd kd w u l) (hn : l.length = 2) : ∃ b o cap, u = .slice (some ⟨b, o, none⟩) 2 cap ∧ 2 ≤ cap ∧ w.cell? ⟨b, o, none⟩ = some (.int kd (l.getD 0 0)) ∧ w.cell? ⟨b, o + 1, none⟩ = some (.int kd (l.getD 1 0)) := by
  obtain ⟨b, o, cap, h1, h2, h3, h4⟩ := Rd.two (k := 0) (l := l) (kd := kd) (w := w) (u := u) (by rw [List.drop_zero, List.take_of_length_le (by omega)]; exact h) (by omega)
  exact ⟨b, o, cap, h1, h2, h3, h4⟩
theorem rd_1 {kd : IntKind} {w : World} {u : Value} {l : List Int} (h : Rd kd w u l) (hn : l.length = 1) : ∃ b o cap, u = .slice (some ⟨b, o, none⟩) 1 cap ∧ 1 ≤ cap ∧ w.cell? ⟨b, o, none⟩ = some (.int kd (l.getD 0 0)) := by
  obtain ⟨b, o, cap, h1, h2, h3⟩ := Rd.one (k := 0) (l := l) (kd := kd) (w := w) (u := u) (by rw [List.drop_zero, List.take_of_length_le (by omega)]; exact h) (by omega)
  exact ⟨b, o, cap, h1, h2, h3⟩

end Go.Proofs.Ytgbbpibcmpeneaa
