/-
  Proved here: how arguments that are slices of integers, or slices of such slices, read in memory, and how long they are. Over any program.
-/
import Derived.Test.YtbaidlkjbdeceaaGreatRows
import Derived.Test.YtbaidlkjbdeceaaGreatCore
import Derived.OpenShut
import Derived.SizedLaws
import Derived.JoinedCond
namespace Go.Cul
open Go Go.RowKit Go.ChangeShapes Go.WideShapes Go.ChangeAt
set_option linter.unusedVariables false

section
variable {H : Type} {enc : TypeId × Value → H} {P : Program} {w : World}

abbrev T0 (enc : TypeId × Value → H) (P : Program) (w : World) (t : TypeId) (v : Value) (d : DataW H) (p : List MemPlace) : Prop := DataW.Trod enc P w 0 (fun _ => true) true t v d p

theorem lt_of_trod {t : TypeId} {v : Value} {d : DataW H} {p : List MemPlace} (h : T0 enc P w t v d p) : ∀ x ∈ p, x.block < w.heap.size := by
  obtain ⟨m, hm⟩ := h; exact DataW.trod_lt m _ _ _ hm

/-- The datum of a slice of integers. -/
def IsInts (k : IntKind) (d : DataW H) (l sp : List Int) : Prop := (d = .nil ∧ l = []) ∨ d = .slice (lits k l) (lits k sp)

theorem open_rd_cells {k : IntKind} {t e : TypeId} (ht : P.underlying t = some (.slice e)) (he : P.underlying e = some (.int k)) (hc : P.cellsOf e = 1) {fuel : Nat} {cs : List Value} {d : DataW H} {p : List MemPlace}
    (h : DataW.trod enc P w 0 (fun _ => true) true fuel t cs = some (d, p)) : ∃ v l sp, cs = [v] ∧ Rd k w v l ∧ (∀ x ∈ l, (Lit.int k x).wf = true) ∧ IsInts k d l sp := by
  rcases open_ints ht he hc h with ⟨hcs, hx⟩ | ⟨a, l, c, zs, hcs, _, hl, hm, hz, hx, hcell, hwz⟩
  · simp only [Prod.mk.injEq] at hx
    exact ⟨_, [], [], hcs, Rd.nil k w, by simp, .inl ⟨hx.1, rfl⟩⟩
  · simp only [Prod.mk.injEq] at hx
    simp only [if_true] at hz
    have hlen : (zs.take l).length = l := by rw [List.length_take]; omega
    refine ⟨_, zs.take l, zs.drop l, hcs, ⟨some a, c, by rw [hlen], by rw [hlen]; exact hl, hm, ?_⟩, fun x hx => hwz x (List.mem_of_mem_take hx), .inr hx.1⟩
    rw [hlen]
    by_cases h0 : l = 0
    · left; subst h0; simp
    · right
      obtain ⟨b, off, spot⟩ := a
      have h1 := hcell 0 (by omega)
      have hspot : spot = none := by simpa [Addr.add] using World.cell?_spot h1
      subst hspot
      refine ⟨b, off, rfl, fun i hi => ?_⟩
      have h2 := hcell i (by omega)
      have h3 : (⟨b, off, none⟩ : Addr).add i = ⟨b, off + i, none⟩ := by unfold Addr.add; split <;> simp_all
      rw [h3] at h2
      rw [h2]
      simp [List.getD, hi]

theorem open_rd {k : IntKind} {t e : TypeId} (ht : P.underlying t = some (.slice e)) (he : P.underlying e = some (.int k)) (hc : P.cellsOf e = 1) {v : Value} {d : DataW H} {p : List MemPlace}
    (hv : ∃ a len cap, v = .slice a len cap) (h : T0 enc P w t v d p) : ∃ l sp, Rd k w v l ∧ (∀ x ∈ l, (Lit.int k x).wf = true) ∧ IsInts k d l sp := by
  obtain ⟨fuel, hf⟩ := h
  obtain ⟨u, l, sp, hcs, h1, h2, h3⟩ := open_rd_cells ht he hc hf
  obtain ⟨a, len, cap, rfl⟩ := hv
  simp only [Value.cells] at hcs
  obtain rfl : u = .slice a len cap := by simpa using hcs.symm
  exact ⟨l, sp, h1, h2, h3⟩

theorem sized_ints {k : IntKind} {ts : List TypeId} {ds : List (DataW H)} (hsz : (DataW.weightsEach P ts ds).all (· ≤ reachBytes) = true) {j : Nat} {t e : TypeId} {d : DataW H} {l sp : List Int} (hd : IsInts k d l sp) (ht : ts[j]? = some t)
    (hj : ds[j]? = some d) (hu : P.underlying t = some (.slice e)) {n : Nat} (hb : P.bytesOf e = n) : l.length * n ≤ 140737488351232 := by
  rcases hd with ⟨_, rfl⟩ | rfl
  · simp
  · have := sized_slice hsz ht hj hu
    rw [hb] at this
    simp only [lits, List.length_map, reachBytes] at this
    have h2 : l.length * n ≤ (l.length + sp.length) * n := Nat.mul_le_mul_right _ (by omega)
    omega

theorem byt_of_wf {l : List Int} (h : ∀ x ∈ l, (Lit.int .u8 x).wf = true) : Byt l := by
  intro x hx
  have := h x hx
  simp [Lit.wf, IntKind.min, IntKind.max, IntKind.signed, IntKind.bits] at this
  exact ⟨by omega, by omega⟩

/-- The datum of a slice of slices of integers. -/
def IsRows (k : IntKind) (d : DataW H) (ls : List (List Int)) : Prop :=
  (d = .nil ∧ ls = []) ∨ ∃ (es : List (DataW H)) (sps : List (List Int)) (rest : List (DataW H)), d = .slice es rest ∧ es.length = ls.length ∧ sps.length = ls.length ∧ ∀ i, i < ls.length → ∃ x, es[i]? = some x ∧ IsInts k x (ls.getD i []) (sps.getD i [])

theorem open_rds {k : IntKind} {t t' e : TypeId} (ht : P.underlying t = some (.slice t')) (ht' : P.underlying t' = some (.slice e)) (he : P.underlying e = some (.int k)) (hc : P.cellsOf e = 1) (hc' : P.cellsOf t' = 1) {v : Value} {d : DataW H} {p : List MemPlace}
    (hv : ∃ a len cap, v = .slice a len cap) (h : T0 enc P w t v d p) : ∃ ls, Rds k w v ls ∧ (∀ l ∈ ls, ∀ x ∈ l, (Lit.int k x).wf = true) ∧ IsRows k d ls := by
  obtain ⟨fuel, hf⟩ := h
  obtain ⟨a0, len0, cap0, rfl⟩ := hv
  rcases DataW.trod_slice ht hf with ⟨hcs, hx⟩ | ⟨a, len, cap, elems, rest, n, _, hcs, hx, hb, hl, hm, hlen, hel, hsp, hns⟩
  · simp only [Value.cells] at hcs
    obtain ⟨rfl, rfl, rfl⟩ : a0 = none ∧ len0 = 0 ∧ cap0 = 0 := by simpa using hcs
    simp only [Prod.mk.injEq] at hx
    exact ⟨[], ⟨none, 0, rfl, Nat.le_refl _, by decide, .inl rfl⟩, by simp, .inl ⟨hx.1, rfl⟩⟩
  · simp only [Value.cells] at hcs
    obtain ⟨rfl, rfl, rfl⟩ : a0 = some a ∧ len0 = len ∧ cap0 = cap := by simpa using hcs
    simp only [Prod.mk.injEq] at hx
    have each : ∀ i, i < elems.length → ∃ r : Value × List Int × List Int, w.cell? (a.add i) = some r.1 ∧ Rd k w r.1 r.2.1 ∧ (∀ x ∈ r.2.1, (Lit.int k x).wf = true) ∧ ∃ y q, elems[i]? = some (y, q) ∧ IsInts k y r.2.1 r.2.2 := by
      intro i hi
      have h1 := hel i (by omega)
      rw [hc', Nat.mul_one] at h1
      obtain ⟨⟨y, q⟩, hy⟩ : ∃ y, elems[i]? = some y := ⟨elems[i], by simp [hi]⟩
      rw [hy] at h1
      obtain ⟨cs, hcs, htr⟩ := Option.bind_eq_some_iff.1 h1
      obtain ⟨u, l, sp, rfl, h2, h3, h4⟩ := open_rd_cells ht' he hc htr
      exact ⟨(u, l, sp), cell_of_cells?_one hcs, h2, h3, y, q, hy, h4⟩
    have each' : ∀ i, ∃ r : Value × List Int × List Int, i < elems.length → w.cell? (a.add i) = some r.1 ∧ Rd k w r.1 r.2.1 ∧ (∀ x ∈ r.2.1, (Lit.int k x).wf = true) ∧ ∃ y q, elems[i]? = some (y, q) ∧ IsInts k y r.2.1 r.2.2 := by
      intro i
      by_cases hi : i < elems.length
      · obtain ⟨r, hr⟩ := each i hi; exact ⟨r, fun _ => hr⟩
      · exact ⟨default, fun h => absurd h hi⟩
    obtain ⟨f, hf⟩ := Classical.axiomOfChoice each'
    have hat : ∀ i, i < elems.length → ((List.range elems.length).map fun i => (f i).2.1).getD i [] = (f i).2.1 := fun i hi => by simp [List.getD, hi]
    have hat' : ∀ i, i < elems.length → ((List.range elems.length).map fun i => (f i).2.2).getD i [] = (f i).2.2 := fun i hi => by simp [List.getD, hi]
    refine ⟨(List.range elems.length).map fun i => (f i).2.1, ⟨some a, cap0, by simp [hlen], by simp; omega, hm, ?_⟩, ?_, .inr ⟨elems.map (·.1), (List.range elems.length).map fun i => (f i).2.2, rest.map (·.1), hx.1, by simp, by simp, ?_⟩⟩
    · by_cases h0 : elems.length = 0
      · left; simp [h0]
      · right
        obtain ⟨b, off, spot⟩ := a
        have h1 := (hf 0 (by omega)).1
        have hspot : spot = none := by simpa [Addr.add] using World.cell?_spot h1
        subst hspot
        refine ⟨b, off, rfl, fun i hi => ?_⟩
        have hi : i < elems.length := by simpa using hi
        have h2 := hf i hi
        have h3 : (⟨b, off, none⟩ : Addr).add i = ⟨b, off + i, none⟩ := by unfold Addr.add; split <;> simp_all
        rw [h3] at h2
        exact ⟨_, h2.1, by rw [hat i hi]; exact h2.2.1⟩
    · intro l hl
      obtain ⟨i, hi, rfl⟩ := List.mem_map.1 hl
      exact (hf i (List.mem_range.1 hi)).2.2.1
    · intro i hi
      have hi : i < elems.length := by simpa using hi
      obtain ⟨y, q, hy, h4⟩ := (hf i hi).2.2.2
      exact ⟨y, by simp [hy], by rw [hat i hi, hat' i hi]; exact h4⟩
theorem wf_u8 {x : Int} (h : (Lit.int .u8 x).wf = true) : 0 ≤ x ∧ x ≤ 255 := by simp [Lit.wf, IntKind.min, IntKind.max, IntKind.signed, IntKind.bits] at h; exact ⟨by omega, by omega⟩
theorem wf_u16 {x : Int} (h : (Lit.int .u16 x).wf = true) : 0 ≤ x ∧ x ≤ 65535 := by simp [Lit.wf, IntKind.min, IntKind.max, IntKind.signed, IntKind.bits] at h; exact ⟨by omega, by omega⟩
theorem wf_u32 {x : Int} (h : (Lit.int .u32 x).wf = true) : 0 ≤ x ∧ x ≤ 4294967295 := by simp [Lit.wf, IntKind.min, IntKind.max, IntKind.signed, IntKind.bits] at h; exact ⟨by omega, by omega⟩
theorem wf_u64 {x : Int} (h : (Lit.int .u64 x).wf = true) : 0 ≤ x ∧ x ≤ 18446744073709551615 := by simp [Lit.wf, IntKind.min, IntKind.max, IntKind.signed, IntKind.bits] at h; exact ⟨by omega, by omega⟩
theorem wf_i64 {x : Int} (h : (Lit.int .i64 x).wf = true) : -9223372036854775808 ≤ x ∧ x ≤ 9223372036854775807 := by simp [Lit.wf, IntKind.min, IntKind.max, IntKind.signed, IntKind.bits] at h; exact ⟨by omega, by omega⟩
end
end Go.Cul
