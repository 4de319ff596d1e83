/-
  Proved here: what the laws' few and awake compute.
-/
import Derived.Test.YtgbbpibcmpeneaaOptK
namespace Go.Proofs.Ytgbbpibcmpeneaa
set_option maxRecDepth 200000
open Go.ChangeShapes Go.WideShapes Go.ChangeAt Go.RowKit Go.Cul Go.Loose
set_option linter.unusedVariables false
attribute [local go_sem] Loose.Still Loose.Upon Loose.vUpon

def few1 (o : Op1) : Op1 := (o.1, o.2.take 300)
def fewM (os : List Op1) : List Op1 := (os.take 20).map few1
theorem fewM_len (os : List Op1) : (fewM os).length ≤ 20 := by unfold fewM; rw [List.length_map, List.length_take]; omega
theorem fewM_byt {os : List Op1} (h : BytO os) : BytO (fewM os) := by
  intro o ho
  obtain ⟨x, hx, rfl⟩ := List.mem_map.1 ho
  have h1 := h x (List.mem_of_mem_take hx)
  exact ⟨h1.1, h1.2.take _⟩
theorem RdO.take {w : World} {a : Option Addr} {n cap : Nat} {os : List Op1} (h : RdO w (.slice a n cap) os) {m : Nat} (hm : m ≤ os.length) : RdO w (.slice a m cap) (os.take m) := by
  obtain ⟨a', cap', he, h1, h2, h3⟩ := h
  cases he
  have hl : (os.take m).length = m := by rw [List.length_take]; omega
  refine ⟨a, cap, by rw [hl], by omega, h2, ?_⟩
  rcases h3 with h3 | ⟨b, o, rfl, h3⟩
  · left; rw [h3]; simp
  · refine .inr ⟨b, o, rfl, fun i hi => ?_⟩
    rw [hl] at hi
    have hg : (os.take m).getD i (0, []) = os.getD i (0, []) := by simp [List.getD, hi]
    rw [hg]
    exact h3 i (by omega)

theorem wpList_appM {w : World} {ops : Array Oper} {rest : List Oper} {o : Oper} {a : Act} {Q : Exit → Act → World → Prop} (hgd : o.guard = none) (s x : Operand)
    (ho : o.op = .call { callee := .builtin .append, args := #[s, x], argTypes := #[49, 49] }) (base : Nat) (v : Value) (os : List Op1) (hs : a.eval s = v) (hv : MiO w base v os) (u : Value) (rs : List Op1) (hx : a.eval x = u) (hr : SrcO base w u rs)
    (hn : os.length + rs.length ≤ 100000) (hbase : base ≤ w.heap.size)
    (h : ∀ v' w', MiO w' base v' (os ++ rs) → (∀ w0 : World, w0.heap.size ≤ base → Ext w0 w → Ext w0 w') → wpList Try.prog ops Q rest (a.put o.dst v') w') : wpList Try.prog ops Q (o :: rest) a w :=
  wpList_plain hgd fun _ hK => by
    obtain ⟨v', w', hrun, h2, h3⟩ := run_appM w base o.type v os hv u rs hr hn hbase
    unfold Oper.wp execOp
    simp only [ho, resolve, invoke, builtin, Sem.run_bind, Sem.run_pure, Result.andThen_ok, List.map_toArray, List.map_cons, List.map_nil, hs, hx, hrun]
    exact hK _ _ (h v' w' h2 h3)

theorem fr_take {w : World} {base : Nat} {e : TypeId} {k : IntKind} {a : Option Addr} {n cap : Nat} {l : List Int} (h : Fr w base e k (.slice a n cap) l) {q : Nat} (hq : q ≤ l.length) : Fr w base e k (.slice a q cap) (l.take q) := by
  have hl : (l.take q).length = q := by rw [List.length_take]; omega
  rcases h with h | ⟨a', h1, rfl⟩
  · rcases h.2 with ⟨h1, h0⟩ | ⟨g, cap', cur, h1, hb, hh, hn, hm, hsz, htk⟩
    · cases h1
      obtain rfl : q = 0 := by omega
      exact .inr ⟨none, rfl, by simp⟩
    · cases h1
      refine .inl ⟨by simp, .inr ⟨g, cap, cur, by rw [hl], hb, hh, by rw [hl]; omega, hm, hsz, ?_⟩⟩
      rw [hl, List.map_take, ← htk, List.take_take, Nat.mul_one, Nat.mul_one, Nat.min_eq_left hq]
  · cases h1
    obtain rfl : q = 0 := by simpa using hq
    exact .inr ⟨a, rfl, by simp⟩

/-- The first i are cut. -/
def cutTo (os : List Op1) (i : Nat) : List Op1 := (os.take i).map few1 ++ os.drop i
theorem cutTo_len (os : List Op1) (i : Nat) : (cutTo os i).length = os.length := by unfold cutTo; simp only [List.length_append, List.length_map, List.length_take, List.length_drop]; omega
theorem cutTo_at {os : List Op1} {i : Nat} (h : i < os.length) : (cutTo os i).getD i (0, []) = os.getD i (0, []) := by
  unfold cutTo
  have hl : ((os.take i).map few1).length = i := by rw [List.length_map, List.length_take]; omega
  simp only [List.getD, List.getElem?_append_right (show ((os.take i).map few1).length ≤ i by omega), hl, Nat.sub_self, List.getElem?_drop, Nat.add_zero]
theorem cutTo_set {os : List Op1} {i : Nat} (h : i < os.length) : (cutTo os i).set i ((os.getD i (0, [])).1, (os.getD i (0, [])).2.take 300) = cutTo os (i + 1) := by
  unfold cutTo
  have hl : ((os.take i).map few1).length = i := by rw [List.length_map, List.length_take]; omega
  rw [List.set_append_right _ _ (by omega), hl, Nat.sub_self, List.drop_eq_getElem_cons h, List.set_cons_zero, take_succ_getD' (0, []) os i h, List.map_append]
  simp only [List.map_cons, List.map_nil, few1, List.append_assoc, List.singleton_append]

theorem oput_lit (os : List Op1) (L : List Int) (E : Int) (he : oput os = (L, E)) (v : Value) (w : World) (hv : RdO w v os) (hb : BytO os) :
    Calls Try.prog 23 #[v] w fun e w' => ∃ u, e = .returned (.tuple #[u, .int .i64 E]) ∧ Own w' w.heap.size 5 .u8 u L ∧ Ext w w' := by
  have h := oput_any v os w hv hb
  rw [he] at h
  exact h
theorem rdo_1 {w : World} {b : Nat} {k : Int} {u : Value} {l : List Int} {t : TypeId} (hb : w.heap[b]? = some (.cells #[.int .u8 k, u] t)) (hu : Rd .u8 w u l) : RdO w (.slice (some ⟨b, 0, none⟩) 1 1) [(k, l)] := by
  refine ⟨_, 1, rfl, by simp, by decide, .inr ⟨b, 0, rfl, fun i hi => ?_⟩⟩
  obtain rfl : i = 0 := by simpa using hi
  refine ⟨u, ?_, ?_, ?_⟩
  · rw [cell_blk hb]; rfl
  · rw [cell_blk hb]; rfl
  · exact hu
theorem byto_1 {k : Int} {l : List Int} (hk : 0 ≤ k ∧ k ≤ 255) (hl : Byt l) : BytO [(k, l)] := fun o ho => by
  obtain rfl : o = (k, l) := by simpa using ho
  exact ⟨hk, hl⟩

end Go.Proofs.Ytgbbpibcmpeneaa
