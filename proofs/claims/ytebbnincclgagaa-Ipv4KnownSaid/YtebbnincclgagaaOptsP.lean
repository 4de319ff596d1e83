/-
  Proved here: what opts.Put computes. Conditions: numbers within their kinds, at most 2^47 - 4096 bytes.
-/
import Derived.Test.YtebbnincclgagaaOpts
import Derived.Test.YtebbnincclgagaaRegion
import Derived.Test.YtebbnincclgagaaTailA
import Derived.Deep.Cut
namespace Go.Proofs.Ytebbnincclgagaa
set_option maxRecDepth 16000
open Go.ChangeShapes Go.WideShapes Go.ChangeAt Go.RowKit Go.Cul Go.Loose
set_option linter.unusedVariables false
attribute [local go_sem] Loose.Still Loose.Upon Loose.vUpon

theorem neg_and3 : ∀ n : Nat, n ≤ 40 → bits .and .i64 (-(n : Int)) 3 = (pad n : Nat) := by
  have h : ∀ n : Fin 41, bits .and .i64 (-((n : Nat) : Int)) 3 = (pad n : Nat) := by decide +kernel
  intro n hn
  exact h ⟨n, by omega⟩

theorem run_app2 {P : Program} {k : IntKind} {t e : TypeId} {bytes : Nat} (is : IS P k t e bytes) (w : World) (base : Nat) (ty : TypeId) (v : Value) (l : List Int) (hown : Own w base e k v l) (u : Value) (r : List Int) (hr : Rd k w u r)
    (hlen : (l.length + r.length) * bytes ≤ 140737488355328) (h63 : l.length + r.length ≤ maxLen) (hbase : base ≤ w.heap.size) :
    ∃ v' w', (Builtin.append_ #[t, t] ty #[v, u]).run P w = .ok v' w' ∧ Own w' base e k v' (l ++ r) ∧ w.grownBy w' v.ownBlock ∧ (v'.ownBlock = v.ownBlock ∨ v'.ownBlock = some w.heap.size) ∧ Own w' base e k v l := by
  obtain ⟨v', w', hrun, h2, h3, h4⟩ := run_app is w base ty v l hown u r hr hlen h63 hbase
  obtain ⟨v2, w2, hrun2, -, h5⟩ := run_app_keep is w base ty v l (.inl hown) u r hr hlen h63 hbase
  rw [hrun] at hrun2
  cases hrun2
  exact ⟨v', w', hrun, h2, h3, h4, h5.own hown (Nat.le_refl _)⟩

theorem vupon_app {P : Program} {k : IntKind} {t e : TypeId} {bytes : Nat} (is : IS P k t e bytes) {o : Oper} {a : Act} {w : World} (s x : Operand)
    (ho : o.op = .call { callee := .builtin .append, args := #[s, x], argTypes := #[t, t] }) (base : Nat) (v : Value) (l : List Int) (hs : a.eval s = v) (hv : Own w base e k v l) (u : Value) (r : List Int) (hx : a.eval x = u) (hr : Rd k w u r)
    (hlen : (l.length + r.length) * bytes ≤ 140737488355328) (h63 : l.length + r.length ≤ maxLen) (hbase : base ≤ w.heap.size) {K : Act → World → Prop}
    (h : ∀ v' w', Own w' base e k v' (l ++ r) → w.grownBy w' v.ownBlock → (v'.ownBlock = v.ownBlock ∨ v'.ownBlock = some w.heap.size) → K (a.put o.dst v') w') : Loose.vUpon P o a K ((execOp a.eval o).run P w) := by
  obtain ⟨v', w', hrun, h2, h3, h4⟩ := run_app is w base o.type v l hv u r hr hlen h63 hbase
  unfold execOp
  simp only [ho, resolve, invoke, builtin, Sem.run_bind, Sem.run_pure, Result.andThen_ok, List.map_toArray, List.map_cons, List.map_nil, hs, hx, hrun, Loose.vUpon]
  exact h v' w' h2 h3 h4
theorem upon_app_own {P : Program} {k : IntKind} {t e : TypeId} {bytes : Nat} (is : IS P k t e bytes) {o : Oper} {a : Act} {w : World} (s x : Operand)
    (ho : o.op = .call { callee := .builtin .append, args := #[s, x], argTypes := #[t, t] }) (base : Nat) (v : Value) (l : List Int) (hs : a.eval s = v) (hv : Own w base e k v l) (u : Value) (r : List Int) (hx : a.eval x = u) (hr : Rd k w u r)
    (hlen : (l.length + r.length) * bytes ≤ 140737488355328) (h63 : l.length + r.length ≤ maxLen) (hbase : base ≤ w.heap.size) {T : World → World → Prop} {S : Value → World → Prop}
    (h : ∀ v' w', Own w' base e k v' (l ++ r) → w.grownBy w' v.ownBlock → (v'.ownBlock = v.ownBlock ∨ v'.ownBlock = some w.heap.size) → Own w' base e k v l → T w w' ∧ S v' w') : Loose.Upon P T S w ((execOp a.eval o).run P w) := by
  obtain ⟨v', w', hrun, h2, h3, h4, h5⟩ := run_app2 is w base o.type v l hv u r hr hlen h63 hbase
  unfold execOp
  simp only [ho, resolve, invoke, builtin, Sem.run_bind, Sem.run_pure, Result.andThen_ok, List.map_toArray, List.map_cons, List.map_nil, hs, hx, hrun, Loose.Upon]
  exact h v' w' h2 h3 h4 h5
theorem mvs_of_grown {w w' : World} {r : Option Nat} (h : w.grownBy w' r) : Mvs (fun k => r = some k) w w' := ⟨h.os, h.tape, h.output, h.size, fun k hk hS => h.block k hk (fun e => hS e.symm)⟩

/-- Only the own slice's block may have turned, and it is still owned. -/
def Grw (base : Nat) (v : Value) (l : List Int) (a b : World) : Prop := Mvs (fun k => v.ownBlock = some k) a b ∧ (Own a base 5 .u8 v l → Own b base 5 .u8 v l)
theorem Grw.refl (base : Nat) (v : Value) (l : List Int) (w : World) : Grw base v l w w := ⟨Mvs.refl _ _, fun h => h⟩
theorem Grw.ofExt {base : Nat} {v : Value} {l : List Int} {a b : World} (h : Ext a b) : Grw base v l a b := ⟨Mvs.ofExt h, fun k => k.kept h⟩
theorem Grw.tr {base : Nat} {v : Value} {l : List Int} {a b c : World} (h : Grw base v l a b) (k : Grw base v l b c) : Grw base v l a c := ⟨h.1.tr k.1, fun q => k.2 (h.2 q)⟩

theorem rd_blk2 {w : World} {g : Nat} {x y : Int} {t : TypeId} {k : IntKind} (h : w.heap[g]? = some (.cells #[.int k x, .int k y] t)) : Rd k w (.slice (some ⟨g, 0, none⟩) 2 2) [x, y] := by
  refine ⟨_, 2, rfl, Nat.le_refl _, by decide, .inr ⟨g, 0, rfl, fun i hi => ?_⟩⟩
  have hi : i < 2 := by simpa using hi
  rcases (by omega : i = 0 ∨ i = 1) with rfl | rfl
  · rw [Nat.zero_add, cell_blk h 0]; rfl
  · rw [Nat.zero_add, cell_blk h 1]; rfl
/-- A new slice of two numbers. -/
def New2 (N : Nat) (x y : Int) (t : TypeId) (v : Value) (w : World) : Prop := ∃ g, N ≤ g ∧ v = .slice (some ⟨g, 0, none⟩) 2 2 ∧ w.heap[g]? = some (.cells #[.int .u8 x, .int .u8 y] t)

theorem flat_take_le (os : List Op1) (k : Nat) : (flat (os.take k)).length ≤ (flat os).length := by
  conv => rhs; rw [← List.take_append_drop k os, flat_app, List.length_append]
  omega
theorem isInt : Try.prog.underlying 3 = some (.int .i64) := by kernel_rfl

end Go.Proofs.Ytebbnincclgagaa
