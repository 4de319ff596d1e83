/-
  Proved here: what opts' Mss, Scale, SackOk, WithMss, WithScale, PermitSack compute.
-/
import Derived.Test.YtmcaknmdalbpoaaOptF
import Derived.Deep.Cut
namespace Go.Proofs.Ytmcaknmdalbpoaa
set_option maxRecDepth 16000
open Go.ChangeShapes Go.WideShapes Go.ChangeAt Go.RowKit Go.Cul Go.Loose
set_option linter.unusedVariables false
attribute [local go_sem] Loose.Still Loose.Upon Loose.vUpon

theorem fr_setO {w : World} {base : Nat} {e : TypeId} {k : IntKind} {v : Value} {l : List Int} (h : Fr w base e k v l) {a : Addr} (ha : a.block < base) {u : Value} : Fr (w.setCell a u) base e k v l := by
  rcases h with h | h
  · refine .inl (h.other (fun he => ?_) u)
    have := (h.block _ he).1
    omega
  · exact .inr h
theorem rd_2 {kd : IntKind} {w : World} {u : Value} {l : List Int} (h : Rd kd w u l) (hn : l.length = 2) : ∃ b o cap, u = .slice (some ⟨b, o, none⟩) 2 cap ∧ 2 ≤ cap ∧ w.cell? ⟨b, o, none⟩ = some (.int kd (l.getD 0 0)) ∧ w.cell? ⟨b, o + 1, none⟩ = some (.int kd (l.getD 1 0)) := by
  obtain ⟨b, o, cap, h1, h2, h3, h4⟩ := Rd.two (k := 0) (l := l) (kd := kd) (w := w) (u := u) (by rw [List.drop_zero, List.take_of_length_le (by omega)]; exact h) (by omega)
  exact ⟨b, o, cap, h1, h2, h3, h4⟩
theorem rd_1 {kd : IntKind} {w : World} {u : Value} {l : List Int} (h : Rd kd w u l) (hn : l.length = 1) : ∃ b o cap, u = .slice (some ⟨b, o, none⟩) 1 cap ∧ 1 ≤ cap ∧ w.cell? ⟨b, o, none⟩ = some (.int kd (l.getD 0 0)) := by
  obtain ⟨b, o, cap, h1, h2, h3⟩ := Rd.one (k := 0) (l := l) (kd := kd) (w := w) (u := u) (by rw [List.drop_zero, List.take_of_length_le (by omega)]; exact h) (by omega)
  exact ⟨b, o, cap, h1, h2, h3⟩

theorem withmss_any (n : Int) (w : World) (hn : 0 ≤ n ∧ n ≤ 65535) :
    Calls Try.prog 15 #[.int .u16 n] w fun e w' => ∃ u, e = .returned (.agg #[.int .u8 2, u]) ∧ Fr w' w.heap.size 5 .u8 u (by2 n) ∧ Ext w w' := by
  go_enter Try.func15, Try.ntmps15
  go_wp2_with fail
  refine (wu16_any _ [] n _ (Rd.nil _ _) (by decide) hn).mono ?_
  rintro e w1 ⟨u, rfl, hu, hx1⟩
  have k0 : w1.heap[w.heap.size]? = some (.cells #[.int .u8 0, .slice none 0 0] 46) := hx1.block (heap_alloc_new _ _)
  obtain ⟨au, nu, cu, rfl⟩ := hu.rd.shape
  have hx0 : Ext w w1 := Ext.tr (Ext.new _ _) hx1
  have hu2 : Fr w1 (w.heap.size + 1) 5 .u8 (.slice au nu cu) (by2 n) := .inl (by simpa using hu)
  clear hu hx1
  have c0 := cell_blk k0 0
  have c1 := cell_blk k0 1
  simp at c0 c1
  have hz := fz_blk k0
  have k2 := set_blk (set_blk k0 0 (.int .u8 2)) 1 (.slice au nu cu)
  simp at k2
  have hfin : ∀ w'' : World, Fr w'' (w.heap.size + 1) 5 .u8 (.slice au nu cu) (by2 n) → Fr w'' w.heap.size 5 .u8 (.slice au nu cu) (by2 n) := fun _ h => h.low (by omega)
  clear k0
  go_wp2_with fail
  refine bodyPost_ret (v := .agg #[.int .u8 2, .slice au nu cu]) (by have c0 := cell_blk k2 0; have c1 := cell_blk k2 1; simp at c0 c1; simp [results, Try.results15, go_sem, c0, c1]) rfl ?_
  refine ⟨_, rfl, hfin _ (fr_setO (fr_setO hu2 (by simp)) (by simp)), ?_⟩
  · repeat (first | with_reducible exact Below.refl _ _ | with_reducible assumption | with_reducible exact Ext.drN (Ext.rfl' _) _ | with_reducible refine Below.setCell ?_ ?_ _ | with_reducible refine Ext.al ?_ _ | with_reducible refine Ext.drN ?_ _ | with_reducible refine Ext.dr ?_ | exact Nat.le_refl _ | omega | (dsimp only; omega) | (show _ ≤ _; omega) | (simp; done) | (simp; omega))
theorem permit_any (w : World) :
    Calls Try.prog 16 #[] w fun e w' => e = .returned (.agg #[.int .u8 4, .slice none 0 0]) ∧ Ext w w' := by
  go_enter Try.func16, Try.ntmps16
  go_upto_region 1 with (fail)
  have k0 := heap_alloc_new w (.cells #[.int .u8 0, .slice none 0 0] 46)
  have hx0 := Ext.new w (.cells #[.int .u8 0, .slice none 0 0] 46)
  generalize World.alloc w _ = w1 at *
  have c0 := cell_blk k0 0
  have c1 := cell_blk k0 1
  simp at c0 c1
  have hz := fz_blk k0
  have k2 := set_blk (set_blk k0 0 (.int .u8 4)) 1 (.slice none 0 0)
  simp at k2
  clear k0
  go_wp2_with fail
  refine bodyPost_ret (v := .agg #[.int .u8 4, .slice none 0 0]) (by have c0 := cell_blk k2 0; have c1 := cell_blk k2 1; simp at c0 c1; simp [results, Try.results16, go_sem, c0, c1]) rfl ?_
  refine ⟨rfl, ?_⟩
  · repeat (first | with_reducible exact Below.refl _ _ | with_reducible assumption | with_reducible exact Ext.drN (Ext.rfl' _) _ | with_reducible refine Below.setCell ?_ ?_ _ | with_reducible refine Ext.al ?_ _ | with_reducible refine Ext.drN ?_ _ | with_reducible refine Ext.dr ?_ | exact Nat.le_refl _ | omega | (dsimp only; omega) | (show _ ≤ _; omega) | (simp; done) | (simp; omega))
end Go.Proofs.Ytmcaknmdalbpoaa
