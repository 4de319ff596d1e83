/-
  Proved here: how arguments of struct types, and slices of structs, read in memory, field by field. Over any program.
-/
import Derived.Test.YtbaidlkjbdeceaaGreatFrame
import Derived.Deep.Slices
namespace Go.Cul
open Go Go.RowKit Go.ChangeShapes Go.WideShapes Go.ChangeAt
set_option linter.unusedVariables false

/-- Shapes of types: 'more' and 'done' list a struct's fields. -/
inductive Sh where
  | int (k : IntKind)
  | bool
  | ints (k : IntKind) (bytes : Nat)
  | agg (n : Nat) (fs : Sh)
  | more (n : Nat) (s : Sh) (rest : Sh)
  | done
  | rows (n bytes : Nat) (s : Sh)
  | arr (m n : Nat) (s : Sh)

/-- The cells read so. -/
def Reads (w : World) : Sh → List Value → Prop
  | .int k, cs => ∃ x : Int, cs = [.int k x] ∧ (Lit.int k x).wf = true
  | .bool, cs => ∃ b : Bool, cs = [.bool b]
  | .ints k bytes, cs => ∃ (v : Value) (l : List Int), cs = [v] ∧ Rd k w v l ∧ (∀ x ∈ l, (Lit.int k x).wf = true) ∧ l.length * bytes ≤ 140737488351232
  | .agg _ f, cs => Reads w f cs
  | .more _ s r, cs => ∃ c1 c2 : List Value, cs = c1 ++ c2 ∧ Reads w s c1 ∧ Reads w r c2
  | .done, cs => cs = []
  | .rows n bytes s, cs => ∃ (v : Value) (a : Option Addr) (m cap : Nat), cs = [v] ∧ v = .slice a m cap ∧ m ≤ cap ∧ cap ≤ maxLen ∧ m * bytes ≤ 140737488351232 ∧
      (m = 0 ∨ ∃ b o, a = some ⟨b, o, none⟩ ∧ ∀ i, i < m → ∃ es : List Value, es.length = n ∧ (∀ j, j < n → w.cell? ⟨b, o + i * n + j, none⟩ = es[j]?) ∧ Reads w s es)
  | .arr m n s, cs => ∃ es : List (List Value), es.length = m ∧ cs = es.flatten ∧ ∀ e ∈ es, Reads w s e

/-- No list of fields. -/
def Sh.whole : Sh → Bool
  | .more _ _ _ => false
  | .done => false
  | _ => true

/-- A type has a shape (from a cell on, for the fields of a struct). -/
def okSh (P : Program) : Sh → TypeId → Nat → List Field → Bool
  | .int k, t, _, _ => match P.underlying t with | some (.int k') => decide (k' = k) && decide (P.cellsOf t = 1) | _ => false
  | .bool, t, _, _ => match P.underlying t with | some .bool => decide (P.cellsOf t = 1) | _ => false
  | .ints k bytes, t, _, _ => match P.underlying t with
    | some (.slice e) => (match P.underlying e with | some (.int k') => decide (k' = k) | _ => false) && decide (P.cellsOf e = 1) && decide (P.bytesOf e = bytes) && decide (P.cellsOf t = 1)
    | _ => false
  | .agg n f, t, _, _ => match P.underlying t with | some (.struct fs) => decide (P.cellsOf t = n) && !f.whole && okSh P f t 0 fs.toList | _ => false
  | .more n s r, t, o, f :: fs => decide (f.offset = o) && decide (P.cellsOf f.type = n) && decide (o + n ≤ P.cellsOf t) && s.whole && !r.whole && okSh P s f.type 0 [] && okSh P r t (o + n) fs
  | .more _ _ _, _, _, [] => false
  | .done, t, o, fs => fs.isEmpty && decide (P.cellsOf t = o)
  | .rows n bytes s, t, _, _ => match P.underlying t with
    | some (.slice e) => decide (P.cellsOf e = n) && decide (P.bytesOf e = bytes) && decide (0 < n) && s.whole && okSh P s e 0 [] && decide (P.cellsOf t = 1)
    | _ => false
  | .arr m n s, t, _, _ => match P.underlying t with
    | some (.array m' e) => decide (m' = m) && decide (P.cellsOf e = n) && s.whole && okSh P s e 0 [] && decide (P.cellsOf t = m * n)
    | _ => false

section
variable {H : Type} {enc : TypeId × Value → H} {P : Program} {w : World}

abbrev Tr (enc : TypeId × Value → H) (P : Program) (w : World) (fuel : Nat) (t : TypeId) (cs : List Value) (y : DataW H × List MemPlace) : Prop := DataW.trod enc P w 0 (fun _ => true) true fuel t cs = some y

theorem weights_all {e : TypeId} : ∀ {ds : List (DataW H)} {d : DataW H}, d ∈ ds → ∀ n ∈ d.weights P e, n ∈ DataW.weightsAll P e ds
  | d0 :: ds, d, hd, n, hn => by
    simp only [DataW.weightsAll, List.mem_append]
    rcases List.mem_cons.1 hd with rfl | hd
    · exact .inl hn
    · exact .inr (weights_all hd n hn)

/-- What is known of a shape's cells ahead: of a field list, each field's reading; else the reading. -/
def Got (enc : TypeId × Value → H) (P : Program) (w : World) (s : Sh) (t : TypeId) (o : Nat) (fs : List Field) (cs : List Value) : Prop :=
  match s with
  | .more _ _ _ | .done => cs.length + o = P.cellsOf t ∧ ∀ f ∈ fs, ∃ fuel y, o ≤ f.offset → (Tr enc P w fuel f.type ((cs.drop (f.offset - o)).take (P.cellsOf f.type)) y ∧ ∀ n ∈ y.1.weights P f.type, n ≤ reachBytes)
  | _ => ∃ fuel y, Tr enc P w fuel t cs y ∧ ∀ n ∈ y.1.weights P t, n ≤ reachBytes

theorem chunks_of {α : Type} : ∀ (m n : Nat) (cs : List α), cs.length = m * n → cs = ((List.range m).map fun i => (cs.drop (i * n)).take n).flatten
  | 0, n, cs, h => by
    rw [Nat.zero_mul] at h
    simpa using List.eq_nil_of_length_eq_zero h
  | m + 1, n, cs, h => by
    have hl : (cs.drop n).length = m * n := by rw [List.length_drop, h, Nat.succ_mul]; omega
    have ih := chunks_of m n (cs.drop n) hl
    rw [List.range_succ_eq_map, List.map_cons, List.flatten_cons, List.map_map, Nat.zero_mul, List.drop_zero]
    have e : ((fun i => (cs.drop (i * n)).take n) ∘ Nat.succ) = fun i => ((cs.drop n).drop (i * n)).take n := by
      funext i
      simp only [Function.comp, List.drop_drop]
      rw [Nat.succ_mul, Nat.add_comm]
    rw [e, ← ih, List.take_append_drop]

theorem got_whole {s : Sh} (h : s.whole = true) {t : TypeId} {o : Nat} {fs : List Field} {cs : List Value} {fuel : Nat} {y : DataW H × List MemPlace} (hy : Tr enc P w fuel t cs y) (hw : ∀ n ∈ y.1.weights P t, n ≤ reachBytes) : Got enc P w s t o fs cs := by
  cases s <;> first | exact ⟨fuel, y, hy, hw⟩ | cases h

theorem reads_of : ∀ (s : Sh) (t : TypeId) (o : Nat) (fs : List Field) (cs : List Value), okSh P s t o fs = true → Got enc P w s t o fs cs → Reads w s cs
  | .int k, t, o, fs, cs, hs, hg => by
    simp only [okSh] at hs
    split at hs
    · rename_i k' hu
      simp only [Bool.and_eq_true, decide_eq_true_eq] at hs
      obtain ⟨rfl, hc⟩ := hs
      obtain ⟨fuel, y, hy, _⟩ := hg
      obtain ⟨n, h1, _, h2⟩ := DataW.trod_int hu hy
      exact ⟨n, h1, h2⟩
    · cases hs
  | .bool, t, o, fs, cs, hs, hg => by
    simp only [okSh] at hs
    split at hs
    · rename_i hu
      obtain ⟨fuel, y, hy, _⟩ := hg
      obtain ⟨b, h1, _⟩ := DataW.trod_bool hu hy
      exact ⟨b, h1⟩
    · cases hs
  | .ints k bytes, t, o, fs, cs, hs, hg => by
    simp only [okSh] at hs
    split at hs
    · rename_i e hu
      simp only [Bool.and_eq_true, decide_eq_true_eq] at hs
      obtain ⟨⟨⟨h1, h2⟩, h3⟩, h4⟩ := hs
      split at h1
      · rename_i k' hue
        have h1 := of_decide_eq_true h1
        subst h1
        obtain ⟨fuel, y, hy, hw⟩ := hg
        obtain ⟨v, l, sp, hcs, hr, hwf, hd⟩ := open_rd_cells hu hue h2 (cs := cs) (d := y.1) (p := y.2) hy
        refine ⟨v, l, hcs, hr, hwf, ?_⟩
        rcases hd with ⟨_, rfl⟩ | hd
        · simp
        · have := hw ((l.length + sp.length) * bytes) (by rw [hd]; simp [DataW.weights, hu, lits, h3])
          simp only [reachBytes] at this
          have h5 : l.length * bytes ≤ (l.length + sp.length) * bytes := Nat.mul_le_mul_right _ (by omega)
          omega
      · cases h1
    · cases hs
  | .agg n f, t, o, fs, cs, hs, hg => by
    simp only [okSh] at hs
    split at hs
    · rename_i fs' hu
      simp only [Bool.and_eq_true, decide_eq_true_eq] at hs
      obtain ⟨⟨h1, h3⟩, h2⟩ := hs
      obtain ⟨fuel, y, hy, hw⟩ := hg
      obtain ⟨xs, m, _, hx, hl, hlen, hf⟩ := DataW.trod_struct hu hy
      have hh : cs.length + 0 = P.cellsOf t ∧ ∀ f ∈ fs'.toList, ∃ fuel y, 0 ≤ f.offset → (Tr enc P w fuel f.type ((cs.drop (f.offset - 0)).take (P.cellsOf f.type)) y ∧ ∀ n ∈ y.1.weights P f.type, n ≤ reachBytes) := by
        refine ⟨by omega, fun f hf' => ?_⟩
        obtain ⟨i, hi, hfi⟩ := List.getElem_of_mem hf'
        have hfi' : fs'[i]? = some f := by rw [← Array.getElem?_toList]; rw [List.getElem?_eq_getElem hi, hfi]
        have hxi := hf i f hfi'
        have hix : i < xs.length := by rw [hlen]; simpa using hi
        rw [List.getElem?_eq_getElem hix] at hxi
        refine ⟨m, xs[i], fun _ => ⟨by simpa [Tr] using hxi, fun n hn => hw n ?_⟩⟩
        rw [hx]
        simp only [DataW.weights, hu]
        refine DataW.weights_mem_each (j := i) (t := f.type) (d := xs[i].1) ?_ ?_ n hn
        · rw [List.getElem?_map, List.getElem?_eq_getElem hi, hfi]; rfl
        · rw [List.getElem?_map, List.getElem?_eq_getElem hix]; rfl
      cases f with
      | more a b c => exact reads_of (.more a b c) t 0 fs'.toList cs h2 hh
      | done => exact reads_of .done t 0 fs'.toList cs h2 hh
      | _ => simp [Sh.whole] at h3
    · cases hs
  | .more n s r, t, o, f :: fs, cs, hs, hg => by
    simp only [okSh, Bool.and_eq_true, decide_eq_true_eq] at hs
    obtain ⟨⟨⟨⟨⟨⟨h1, h2⟩, h5⟩, h6⟩, h7⟩, h3⟩, h4⟩ := hs
    obtain ⟨hl, hall⟩ := hg
    refine ⟨cs.take n, cs.drop n, (List.take_append_drop n cs).symm, ?_, ?_⟩
    · obtain ⟨fuel, y, hy⟩ := hall f (List.mem_cons_self ..)
      obtain ⟨hy, hw⟩ := hy (by omega)
      rw [h1, Nat.sub_self, List.drop_zero, h2] at hy
      exact reads_of s f.type 0 [] _ h3 (got_whole h6 hy hw)
    · have hg' : (cs.drop n).length + (o + n) = P.cellsOf t ∧ ∀ f ∈ fs, ∃ fuel y, o + n ≤ f.offset → (Tr enc P w fuel f.type (((cs.drop n).drop (f.offset - (o + n))).take (P.cellsOf f.type)) y ∧ ∀ n ∈ y.1.weights P f.type, n ≤ reachBytes) := by
        refine ⟨by rw [List.length_drop]; omega, fun f' hf' => ?_⟩
        obtain ⟨fuel, y, hy⟩ := hall f' (List.mem_cons_of_mem _ hf')
        refine ⟨fuel, y, fun ho => ?_⟩
        have := hy (by omega)
        rw [List.drop_drop, show n + (f'.offset - (o + n)) = f'.offset - o from by omega]
        exact this
      cases r with
      | more a b c => exact reads_of (.more a b c) t (o + n) fs _ h4 hg'
      | done => exact reads_of .done t (o + n) fs _ h4 hg'
      | _ => simp [Sh.whole] at h7
  | .more _ _ _, _, _, [], _, hs, _ => by simp [okSh] at hs
  | .done, t, o, fs, cs, hs, hg => by
    simp only [okSh, Bool.and_eq_true, decide_eq_true_eq] at hs
    have := hg.1
    exact List.eq_nil_of_length_eq_zero (by omega)
  | .rows n bytes s, t, o, fs, cs, hs, hg => by
    simp only [okSh] at hs
    split at hs
    · rename_i e hu
      simp only [Bool.and_eq_true, decide_eq_true_eq] at hs
      obtain ⟨⟨⟨⟨⟨h1, h2⟩, h3⟩, h4⟩, h5⟩, h6⟩ := hs
      obtain ⟨fuel, y, hy, hw⟩ := hg
      rcases Deep.open_slice hu hy with ⟨hcs, _⟩ | ⟨a, len, cap, m, f', D, Pl, hcs, _, hl, hm, hz, hx, hel⟩
      · exact ⟨_, none, 0, 0, hcs, rfl, Nat.le_refl _, by decide, by simp, .inl rfl⟩
      · simp only [if_true] at hz
        have hsz := hw ((len + (cap - len)) * bytes) (by rw [hx]; simp [DataW.weights, hu, h2, hz])
        simp only [reachBytes] at hsz
        have h7 : len * bytes ≤ (len + (cap - len)) * bytes := Nat.mul_le_mul_right _ (by omega)
        refine ⟨_, some a, len, cap, hcs, rfl, hl, hm, by omega, ?_⟩
        by_cases h0 : len = 0
        · exact .inl h0
        right
        obtain ⟨b, off, spot⟩ := a
        have hspot : spot = none := by
          obtain ⟨es0, hc0, _⟩ := hel 0 (by omega)
          obtain ⟨_, hl0, hc0'⟩ := World.cells?_some hc0
          have h8 := hc0' 0 (by omega)
          have h9 : 0 < es0.length := by omega
          rw [List.getElem?_eq_getElem h9] at h8
          have := World.cell?_spot h8
          simpa [Addr.add] using this
        subst hspot
        have hadd : ∀ i, (⟨b, off, none⟩ : Addr).add i = ⟨b, off + i, none⟩ := fun i => by unfold Addr.add; split <;> simp_all
        have hadd2 : ∀ c i, (⟨b, c, none⟩ : Addr).add i = ⟨b, c + i, none⟩ := fun c i => by unfold Addr.add; split <;> simp_all
        refine ⟨b, off, rfl, fun i hi => ?_⟩
        obtain ⟨es, hc, hy'⟩ := hel i (by omega)
        obtain ⟨_, hle, hce⟩ := World.cells?_some hc
        rw [h1] at hc hce hle
        refine ⟨es, hle, fun j hj => ?_, ?_⟩
        · rw [← hce j hj, hadd, hadd2]
        · refine reads_of s e 0 [] es h5 (got_whole h4 hy' fun q hq => hw q ?_)
          rw [hx]
          simp only [DataW.weights, hu]
          refine List.mem_cons_of_mem _ (List.mem_append_left _ (weights_all (d := D i) (List.mem_map.2 ⟨i, by simpa using hi, rfl⟩) q hq))
    · cases hs
  | .arr m n s, t, o, fs, cs, hs, hg => by
    simp only [okSh] at hs
    split at hs
    · rename_i m' e hu
      simp only [Bool.and_eq_true, decide_eq_true_eq] at hs
      obtain ⟨⟨⟨⟨h1, h2⟩, h3⟩, h4⟩, h5⟩ := hs
      subst h1
      obtain ⟨fuel, y, hy, hw⟩ := hg
      obtain ⟨xs, f', _, hx, hl, hlen, hf⟩ := DataW.trod_array hu hy
      refine ⟨(List.range m').map fun i => (cs.drop (i * n)).take n, by simp, ?_, ?_⟩
      · exact chunks_of m' n cs (by omega)
      · intro e' he'
        obtain ⟨i, hi, rfl⟩ := List.mem_map.1 he'
        have hi : i < m' := by simpa using hi
        have hxi := hf i hi
        have hix : i < xs.length := by omega
        rw [List.getElem?_eq_getElem hix, h2] at hxi
        refine reads_of s e 0 [] _ h4 (got_whole h3 hxi fun q hq => hw q ?_)
        rw [hx]
        simp only [DataW.weights, hu]
        exact weights_all (d := xs[i].1) (List.mem_map.2 ⟨xs[i], List.getElem_mem hix, rfl⟩) q hq
    · cases hs

/-- An argument reads as its shape says. -/
theorem open_sh {ts : List TypeId} {ds : List (DataW H)} (hsz : (DataW.weightsEach P ts ds).all (· ≤ reachBytes) = true) {j : Nat} {t : TypeId} {v : Value} {d : DataW H} {p : List MemPlace} (ht : ts[j]? = some t) (hj : ds[j]? = some d)
    (h : T0 enc P w t v d p) (s : Sh) (hs : s.whole = true) (hok : okSh P s t 0 [] = true) : Reads w s v.cells.toList := by
  obtain ⟨fuel, hf⟩ := h
  refine reads_of s t 0 [] _ hok (got_whole hs hf fun n hn => ?_)
  have := List.all_eq_true.1 hsz n (DataW.weights_mem_each ht hj n hn)
  simpa using this
end

theorem int_wf {k : IntKind} {x : Int} (h : (Lit.int k x).wf = true) : k.min ≤ x ∧ x ≤ k.max := by
  simpa [Lit.wf] using h
end Go.Cul
