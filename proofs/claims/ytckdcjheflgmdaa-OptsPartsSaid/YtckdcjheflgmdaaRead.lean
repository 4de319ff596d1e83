/-
  Proved here: wire.Read's deferred closure (a frame that returns; a frame that panics with givesUp), and wire.Read over whatever closure.
-/
import Derived.Test.YtckdcjheflgmdaaRows
import Derived.Test.YtckdcjheflgmdaaRdr
import Derived.Defers
import Derived.Recover
import Derived.Laws.Pointers
import Derived.Lib.Builder
namespace Go.Proofs.Ytckdcjheflgmdaa
set_option maxRecDepth 16000
open Go.ChangeShapes Go.WideShapes Go.ChangeAt Go.RowKit Go.Cul
set_option linter.unusedVariables false

theorem read1_idle (B Br Be : Nat) (v : Value) (w : World) (hr : w.cell? ⟨Br, 0, none⟩ = some (rp B)) (hc : w.cell? ⟨B, 2, none⟩ = some v) (hz : w.frozen? ⟨B, 2, none⟩ = false) :
    CallsD Try.prog 65 #[.pointer (some ⟨Br, 0, none⟩), .pointer (some ⟨Be, 0, none⟩)] .returning w fun e u' w' => e = .returned (.tuple #[]) ∧ u' = .returning ∧ w' = w.setCell ⟨B, 2, none⟩ (.bool false) := by
  refine callsD_of_wpS Try.func65 rfl fun c₀ cs hu => ?_
  apply wpS_seq
  apply wpS_region
  simp [wpOpsS, go_sem, recoverD, hu, hr, hc, hz, Try.ntmps65, Exit.thenS]
  apply wpS_seq
  apply wpS_region
  simp [wpOpsS, go_sem, recoverD, hu, Exit.thenS, Array.replicate]
  refine wpS_of_wp ?_
  go_wp2
  cases c₀
  simp_all [bodyPostS, results, Try.results65]

theorem read1_gone (B Br Be : Nat) (x : Int) (v ve : Value) (w : World) (hr : w.cell? ⟨Br, 0, none⟩ = some (rp B)) (hc : w.cell? ⟨B, 2, none⟩ = some v) (hz : w.frozen? ⟨B, 2, none⟩ = false)
    (he : w.cell? ⟨Be, 0, none⟩ = some ve) (hze : w.frozen? ⟨Be, 0, none⟩ = false) (hrB : Br ≠ B) (heB : Be ≠ B) :
    CallsD Try.prog 65 #[.pointer (some ⟨Br, 0, none⟩), .pointer (some ⟨Be, 0, none⟩)] (.panicking [{ v := gone B x, recovered := false }]) w fun e u' w' => e = .returned (.tuple #[]) ∧ u' = .panicking [{ v := gone B x, recovered := true }] ∧ ∃ o, w' = ((w.setCell ⟨B, 2, none⟩ (.bool false)).alloc o).setCell ⟨Be, 0, none⟩ (.int .i64 x) := by
  have hel : Be < w.heap.size := lt_of_cell he
  have hr' : (w.setCell ⟨B, 2, none⟩ (.bool false)).cell? ⟨Br, 0, none⟩ = some (rp B) := by rw [World.cell?_setCell_other _ _ _ _ (by intro h; cases h)]; exact hr
  have he' : (w.setCell ⟨B, 2, none⟩ (.bool false)).cell? ⟨Be, 0, none⟩ = some ve := by rw [World.cell?_setCell_other _ _ _ _ (by intro h; cases h)]; exact he
  have hze' : (w.setCell ⟨B, 2, none⟩ (.bool false)).frozen? ⟨Be, 0, none⟩ = false := by simpa using hze
  refine callsD_of_wpS Try.func65 rfl fun c₀ cs hu => ?_
  apply wpS_seq
  apply wpS_region
  simp [wpOpsS, go_sem, recoverD, hu, hr, hc, hz, Try.ntmps65, Exit.thenS]
  apply wpS_seq
  apply wpS_region
  simp [wpOpsS, go_sem, recoverD, hu, Exit.thenS, Array.replicate]
  refine wpS_of_wp ?_
  clear hr hc hz he hze
  simp only [gone, rp] at *
  generalize hW : w.setCell ⟨B, 2, none⟩ (.bool false) = W at hr' he' hze' ⊢
  have hxo := fun (o : Obj) => Ext.new W o
  have hra := fun (o : Obj) => (hxo o).cell hr'
  have hea := fun (o : Obj) => (hxo o).cell he'
  have hza : ∀ (o : Obj), (W.alloc o).frozen? ⟨Be, 0, none⟩ = false := fun o => by rw [Below.frozen (hxo o) (lt_of_cell he')]; exact hze'
  clear hxo hel hr' he' hze'
  have hta : ∀ (w : World) (V : Value), (Instr.typeAssert (.iface 103 V) 20 103 true).run Try.prog w = .ok (.tuple #[V, .bool true]) w := fun w V => by simp [Instr.typeAssert, go_sem]
  have hne : ∀ w : World, (binOp .neq 71 (.pointer (some ⟨B, 0, none⟩)) (.pointer (some ⟨B, 0, none⟩))).run Try.prog w = .ok (.bool false) w := fun w => Go.Lib.run_neq_ptr_same w ⟨B, 0, none⟩ (by rfl) (by rfl)
  go_wp2
  exact ⟨rfl, _, rfl, _, by simp [results, Try.results65], rfl, rfl, _, rfl⟩

/-- What Read leaves alone behind its closure: what was there when Read began, and what the closure made. -/
structure Out (w w1 w2 w' : World) : Prop where
  os : w'.os = w2.os
  tape : w'.tape = w2.tape
  output : w'.output = w2.output
  size : w2.heap.size ≤ w'.heap.size
  block : ∀ k, k < w2.heap.size → (k < w.heap.size ∨ w1.heap.size ≤ k) → w'.heap[k]? = w2.heap[k]?

/-- What Read asks of its closure: of what Read made, only the reader has turned. -/
structure In (w w1 : World) (B : Nat) (l : List Int) (w2 : World) : Prop where
  rdr : ∃ bv k, Rdr w2 B bv l k
  size : w1.heap.size ≤ w2.heap.size
  block : ∀ k, w.heap.size ≤ k → k < w1.heap.size → k ≠ B → w2.heap[k]? = w1.heap[k]?

theorem run_equalIn_func_nil {P : Program} (w : World) (d : Nat) (t : TypeId) (fn : Fn) (a b : Array Value) (x y : Array TypeId) (z : Bool) (h : P.underlying t = some (.func x y z)) : (Op.equalIn (d + 1) t (.func fn a b) .nilFunc).run P w = .ok false w := by
  simp [Op.equalIn, run_underlying h]

theorem run_eql_func_nil {P : Program} (w : World) (t : TypeId) (fn : Fn) (a b : Array Value) (x y : Array TypeId) (z : Bool) (h : P.underlying t = some (.func x y z)) : (binOp .eql t (.func fn a b) .nilFunc).run P w = .ok (.bool false) w := by
  have e : (Op.equal t (.func fn a b) .nilFunc).run P w = .ok false w := run_equalIn_func_nil w 9999 t fn a b x y z h
  simp only [binOp]
  simp [e]

/-- A slice that is empty, or lies in memory from a block on. -/
def Away (v : Value) (l : List Int) (base : Nat) : Prop := l = [] ∨ ∀ b o n c, v = .slice (some ⟨b, o, none⟩) n c → base ≤ b
theorem _root_.Go.Cul.Fr.away {w : World} {base : Nat} {e : TypeId} {k : IntKind} {v : Value} {l : List Int} (h : Fr w base e k v l) {base' : Nat} (hb : base' ≤ base) : Away v l base' := by
  rcases h with h | ⟨a, rfl, rfl⟩
  · rcases h.2 with ⟨rfl, h0⟩ | ⟨g, cap, cur, rfl, hg, hh, r⟩
    · left; exact List.eq_nil_of_length_eq_zero h0
    · right; intro b o n c he; cases he; omega
  · exact .inl rfl

theorem read_any (F : FuncId) (cap : Array Value) (bv : Value) (l : List Int) (w : World) (hv : Rd .u8 w bv l) (hn : l.length ≤ 140737488355328) (Q : World → Int → World → Prop)
    (hF : ∀ (args : Array Value) (w : World), (callFunc F args).run Try.prog w = .ok (.enter F args) w)
    (hdo : ∀ (B : Nat) (bu : Value) (w1 : World), Ext w w1 → w.heap.size ≤ B → Rdr w1 B bu l 0 → Away bu l w.heap.size → Calls Try.prog F (#[rp B] ++ cap) w1 fun x w2 => In w w1 B l w2 ∧ ((x = .returned (.tuple #[]) ∧ Q w1 0 w2) ∨ ∃ e, x = .panicked [{ v := gone B e, recovered := false }] ∧ Q w1 e w2)) :
    Calls Try.prog 38 #[bv, .func (.func F) #[] cap] w fun x w' => ∃ e w1 w2, x = .returned (.int .i64 e) ∧ Ext w w1 ∧ Q w1 e w2 ∧ Out w w1 w2 w' := by
  have hmf : ∀ (fn : Fn) (first cap : Array Value) (w : World), (Instr.makeFunc fn first cap).run Try.prog w = .ok (.func fn first cap) w := fun _ _ _ _ => rfl
  have hnf : ∀ w : World, (binOp .eql 79 (.func (.func F) #[] cap) .nilFunc).run Try.prog w = .ok (.bool false) w := fun w => run_eql_func_nil w _ _ _ _ _ _ _ (by rfl)
  go_enter_defers Try.func38, Try.ntmps38
  go_wp2_with fail
  refine (bclone_any _ l _ (hv.ext (Ext.new _ _)) hn).mono ?_
  rintro x w1 ⟨u, rfl, hu, hx1⟩
  have hu' := hu.rd
  obtain ⟨a, c, rfl, hc1, hc2, hr⟩ := hu'
  clear hr
  go_wp2_with fail
  have hBe : w1.cell? ⟨w.heap.size, 0, none⟩ = some (.int .i64 0) := hx1.cell (by simp [go_sem])
  have hx0 : Ext w w1 := Ext.tr (Ext.new _ _) hx1
  have hbe : w1.heap[w.heap.size]? = some (.cells #[.int .i64 0] 24) := hx1.block (heap_alloc_new _ _)
  have hs0 : w.heap.size < w1.heap.size := Nat.lt_of_lt_of_le (by simp) hx1.size
  generalize hW : ((w1.alloc (Obj.cells #[Value.slice a l.length c, Value.int IntKind.i64 0, Value.bool true] 101)).alloc (Obj.cells #[Value.pointer (some { block := w1.heap.size, off := 0 })] 71)) = W
  have hxW : Ext w1 W := hW ▸ Ext.tr (Ext.new _ _) (Ext.new _ _)
  have hblk : W.heap[w1.heap.size]? = some (.cells #[Value.slice a l.length c, Value.int IntKind.i64 0, Value.bool true] 101) := by rw [← hW]; exact (Ext.new _ _).block (heap_alloc_new w1 _)
  have hrb : W.heap[w1.heap.size + 1]? = some (.cells #[Value.pointer (some { block := w1.heap.size, off := 0 })] 71) := by
    rw [← hW]
    have h := heap_alloc_new (w1.alloc (Obj.cells #[Value.slice a l.length c, Value.int IntKind.i64 0, Value.bool true] 101)) (Obj.cells #[Value.pointer (some { block := w1.heap.size, off := 0 })] 71)
    rwa [World.size_alloc] at h
  have hsW : W.heap.size = w1.heap.size + 2 := by rw [← hW]; simp
  have hR : Rdr W w1.heap.size (.slice a l.length c) l 0 := ⟨hblk, hu.rd.ext hxW, by omega, hn⟩
  refine (hdo w1.heap.size _ W (Ext.tr hx0 hxW) (Nat.le_of_lt hs0) hR (hu.away (by simp))).mono ?_
  rintro x w2 ⟨hin, hcase⟩
  obtain ⟨bv2, k2, hr2⟩ := hin.rdr
  have hbr2 := hin.block (w1.heap.size + 1) (by omega) (by omega) (by omega)
  have hbe2 := hin.block w.heap.size (by omega) (by omega) (by omega)
  rw [hrb] at hbr2
  rw [hxW.block hbe] at hbe2
  have ce : w2.cell? ⟨w.heap.size, 0, none⟩ = some (.int .i64 0) := by simp [World.cell?, hbe2]
  have fe : w2.frozen? ⟨w.heap.size, 0, none⟩ = false := by simp [World.frozen?, hbe2]
  have cr : w2.cell? ⟨w1.heap.size + 1, 0, none⟩ = some (rp w1.heap.size) := by simp [World.cell?, hbr2]
  have c2 := hr2.c2
  have f2 := hr2.fz 2
  have hsz2 := hin.size
  have hQ : Ext w W := Ext.tr hx0 hxW
  rcases hcase with ⟨rfl, hq⟩ | ⟨e, rfl, hq⟩
  · go_wp2
    refine leaves_cons (f := 65) (args := #[.pointer (some ⟨w1.heap.size + 1, 0, none⟩), .pointer (some ⟨w.heap.size, 0, none⟩)]) (by simp) (by simp [go_sem]) ?_
    refine (read1_idle w1.heap.size (w1.heap.size + 1) w.heap.size (.bool true) _ ?_ ?_ ?_).mono ?_
    · rw [World.cell?_setCell_other _ _ _ _ (by intro h; have := congrArg Addr.block h; simp at this; omega)]; exact cr
    · rw [World.cell?_setCell_other _ _ _ _ (by intro h; have := congrArg Addr.block h; simp at this; omega)]; exact c2
    · simpa [go_sem] using f2
    rintro x u' w3 ⟨rfl, rfl, rfl⟩
    have h3 : ((w2.setCell ⟨w.heap.size, 0, none⟩ (.int .i64 0)).setCell ⟨w1.heap.size, 2, none⟩ (.bool false)).cell? ⟨w.heap.size, 0, none⟩ = some (.int .i64 0) := by
      rw [World.cell?_setCell_other _ _ _ _ (by intro h; have := congrArg Addr.block h; simp at this; omega)]
      exact World.cell?_setCell_same _ _ _ ce
    refine ⟨.int .i64 0, ?_, 0, W, w2, rfl, hQ, hq, ⟨rfl, rfl, rfl, by simp [World.setCell], fun k hk hk' => ?_⟩⟩
    · simp [results, Try.results38, go_sem, h3]
    · rw [Below.heap_setCell _ _ _ _ (by simp; omega), Below.heap_setCell _ _ _ _ (by simp; omega)]
  · refine leaves_cons (f := 65) (args := #[.pointer (some ⟨w1.heap.size + 1, 0, none⟩), .pointer (some ⟨w.heap.size, 0, none⟩)]) (by simp) (by simp [go_sem]) ?_
    refine (read1_gone w1.heap.size (w1.heap.size + 1) w.heap.size e (.bool true) (.int .i64 0) _ cr c2 f2 ce fe (by omega) (by omega)).mono ?_
    rintro x u' w3 ⟨rfl, rfl, o, rfl⟩
    have h3 : (((w2.setCell ⟨w1.heap.size, 2, none⟩ (.bool false)).alloc o).setCell ⟨w.heap.size, 0, none⟩ (.int .i64 e)).cell? ⟨w.heap.size, 0, none⟩ = some (.int .i64 e) := by
      refine World.cell?_setCell_same _ _ _ ((Ext.new _ o).cell (v := .int .i64 0) ?_)
      rw [World.cell?_setCell_other _ _ _ _ (by intro h; have := congrArg Addr.block h; simp at this; omega)]
      exact ce
    refine ⟨.int .i64 e, ?_, e, W, w2, rfl, hQ, hq, ⟨rfl, rfl, rfl, by simp [World.setCell], fun k hk hk' => ?_⟩⟩
    · simp [results, Try.results38, go_sem, h3]
    · rw [Below.heap_setCell _ _ _ _ (by simp; omega), Below.heap_alloc _ _ _ (by simp [World.setCell]; omega), Below.heap_setCell _ _ _ _ (by simp; omega)]
end Go.Proofs.Ytckdcjheflgmdaa
