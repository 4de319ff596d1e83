/-
  Proved here: what tcp.Put computes. Conditions: numbers within their kinds, at most 2^47 - 4096 bytes.
-/
import Derived.Test.YtgbbpibcmpeneaaOptsP
import Derived.Test.YtgbbpibcmpeneaaCore
import Derived.Test.YtgbbpibcmpeneaaPlain
import Derived.Test.YtgbbpibcmpeneaaUdp
namespace Go.Proofs.Ytgbbpibcmpeneaa
set_option maxRecDepth 200000
open Go.ChangeShapes Go.WideShapes Go.ChangeAt Go.RowKit Go.Cul Go.Loose
set_option linter.unusedVariables false
attribute [local go_sem] Loose.Still Loose.Upon Loose.vUpon

/-- A segment. -/
structure Sg where
  sp : Int
  dp : Int
  seq : Int
  ack : Int
  f : Int
  win : Int
  urg : Int
  os : List Op1
  data : List Int
structure Sg.ok (g : Sg) : Prop where
  sp : 0 ≤ g.sp ∧ g.sp ≤ 65535
  dp : 0 ≤ g.dp ∧ g.dp ≤ 65535
  seq : 0 ≤ g.seq ∧ g.seq ≤ 4294967295
  ack : 0 ≤ g.ack ∧ g.ack ≤ 4294967295
  f : 0 ≤ g.f ∧ g.f ≤ 255
  win : 0 ≤ g.win ∧ g.win ≤ 65535
  urg : 0 ≤ g.urg ∧ g.urg ≤ 65535
  os : BytO g.os
  data : Byt g.data
abbrev Sg.cells (g : Sg) (vo vd : Value) : Array Value := #[.int .u16 g.sp, .int .u16 g.dp, .int .u32 g.seq, .int .u32 g.ack, .int .u8 g.f, .int .u16 g.win, .int .u16 g.urg, vo, vd]
def Sg.none : Sg := ⟨0, 0, 0, 0, 0, 0, 0, [], []⟩

/-- The bytes of a segment with a field. -/
def Sg.pre (g : Sg) (n : Int) : List Int := by2 g.sp ++ by2 g.dp ++ by4 g.seq ++ by4 g.ack ++ [n / 4 * 16, g.f] ++ by2 g.win
def Sg.lay (g : Sg) (o : List Int) (f : Int) : List Int := g.pre (20 + o.length) ++ by2 f ++ by2 g.urg ++ o ++ g.data
def Sg.field (g : Sg) (s d : Int) (o : List Int) : Int := 65535 - csum (pseu s d 6 (20 + o.length + g.data.length) ++ g.lay o 0)
/-- A segment's bytes, the error. -/
def tput (s d : Int) (g : Sg) : List Int × Int :=
  if (oput g.os).2 ≠ 0 then ([], (oput g.os).2) else if 1480 < 20 + (oput g.os).1.length + g.data.length then ([], 3) else (g.lay (oput g.os).1 (g.field s d (oput g.os).1), 0)

theorem _root_.Go.Cul.Mvs.grown {S : Nat → Prop} {W w w' : World} {r : Option Nat} (hm : Mvs S W w) (hg : w.grownBy w' r) (hr : ∀ j, r = some j → W.heap.size ≤ j) : Mvs S W w' :=
  ⟨hg.os.trans hm.os, hg.tape.trans hm.tape, hg.output.trans hm.output, Nat.le_trans hm.size hg.size, fun k hk hS => (hg.block k (Nat.lt_of_lt_of_le hk hm.size) (fun e => by have := hr k e.symm; omega)).trans (hm.block k hk hS)⟩
/-- Where an append's slice may lie. -/
theorem at_ne {v v' : Value} {N B : Nat} (h : v'.ownBlock = v.ownBlock ∨ v'.ownBlock = some N) (hv : v.ownBlock ≠ some B) (hB : B < N) : v'.ownBlock ≠ some B := by
  rcases h with h | h
  · rw [h]; exact hv
  · rw [h]; intro he; cases he; omega
theorem at_ge {v v' : Value} {N M : Nat} (h : v'.ownBlock = v.ownBlock ∨ v'.ownBlock = some N) (hv : ∀ j, v.ownBlock = some j → M ≤ j) (hB : M ≤ N) : ∀ j, v'.ownBlock = some j → M ≤ j := by
  intro j hj
  rcases h with h | h
  · rw [h] at hj; exact hv j hj
  · rw [h] at hj; cases hj; exact hB

theorem quo4 (n : Int) (h : 20 ≤ n ∧ n ≤ 60) : IntKind.u8.wrap (n.tdiv 4) = n / 4 ∧ IntKind.u8.wrap (n / 4 * 16) = n / 4 * 16 := by
  have h1 : n.tdiv 4 = n / 4 := Int.tdiv_eq_ediv_of_nonneg (by omega)
  rw [h1]
  simp [IntKind.wrap, IntKind.bits, IntKind.signed]
  omega

theorem vupon_copy {P : Program} {k : IntKind} {t e : TypeId} {bytes : Nat} (is : IS P k t e bytes) {o : Oper} {a : Act} {w : World} (s x : Operand)
    (ho : o.op = .call { callee := .builtin .copy, args := #[s, x], argTypes := #[t, t] }) (base g n cap : Nat) (l : List Int) (hown : Own w base e k (.slice (some ⟨g, 0, none⟩) n cap) l) (p m dc : Nat) (hs : a.eval s = .slice (some ⟨g, p, none⟩) m dc)
    (u : Value) (r : List Int) (hx : a.eval x = u) (hr : Rd k w u r) (hr0 : 0 < r.length) (hm : r.length ≤ m) (hp : p + m ≤ l.length) {K : Act → World → Prop}
    (h : ∀ v' w', Own w' base e k (.slice (some ⟨g, 0, none⟩) n cap) (l.take p ++ r ++ l.drop (p + r.length)) → Mvs (fun j => j = g) w w' → K (a.put o.dst v') w') : Loose.vUpon P o a K ((execOp a.eval o).run P w) := by
  obtain ⟨v', w', hrun, h2, h3⟩ := run_copy_mine is w base o.type g n cap l hown p m dc u r hr hr0 hm hp
  unfold execOp
  simp only [ho, resolve, invoke, builtin, Sem.run_bind, Sem.run_pure, Result.andThen_ok, List.map_toArray, List.map_cons, List.map_nil, hs, hx, hrun, Loose.vUpon]
  exact h v' w' h2 h3

theorem pre_byt {g : Sg} (hg : g.ok) {n : Int} (hn : 20 ≤ n ∧ n ≤ 60) : Byt (g.pre n) := by
  unfold Sg.pre
  refine ((((Byt.app ?_ ?_).app ?_).app ?_).app ?_).app ?_
  · exact by2_byt _ hg.sp
  · exact by2_byt _ hg.dp
  · exact by4_byt _ hg.seq
  · exact by4_byt _ hg.ack
  · intro x hx
    simp only [List.mem_cons, List.not_mem_nil, or_false] at hx
    rcases hx with rfl | rfl
    · omega
    · exact hg.f
  · exact by2_byt _ hg.win
theorem lay_byt {g : Sg} (hg : g.ok) {O : List Int} (hO : Byt O) (hl : O.length ≤ 40) {f : Int} (hf : 0 ≤ f ∧ f ≤ 65535) : Byt (g.lay O f) := by
  unfold Sg.lay
  refine (((Byt.app ?_ ?_).app ?_).app ?_).app ?_
  · exact pre_byt hg (by omega)
  · exact by2_byt _ hf
  · exact by2_byt _ hg.urg
  · exact hO
  · exact hg.data
theorem lay_len (g : Sg) (O : List Int) (f : Int) : (g.lay O f).length = 20 + O.length + g.data.length := by
  simp only [Sg.lay, Sg.pre, by2, by4, List.length_append, List.length_cons, List.length_nil]

theorem tput_err {s d : Int} {g : Sg} {O : List Int} {E : Int} (h : oput g.os = (O, E)) (he : E ≠ 0) : tput s d g = ([], E) := by unfold tput; rw [h]; rw [if_pos he]
theorem tput_long {s d : Int} {g : Sg} {O : List Int} (h : oput g.os = (O, 0)) (hl : 1480 < 20 + O.length + g.data.length) : tput s d g = ([], 3) := by unfold tput; rw [h]; rw [if_neg (by simp), if_pos hl]
theorem tput_fit {s d : Int} {g : Sg} {O : List Int} (h : oput g.os = (O, 0)) (hl : ¬ 1480 < 20 + O.length + g.data.length) : tput s d g = (g.lay O (g.field s d O), 0) := by unfold tput; rw [h]; rw [if_neg (by simp), if_neg hl]

end Go.Proofs.Ytgbbpibcmpeneaa
