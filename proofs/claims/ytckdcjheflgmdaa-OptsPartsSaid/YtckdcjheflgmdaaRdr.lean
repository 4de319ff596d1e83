/-
  Proved here: what the methods of an open wire.Reader compute. Condition: at most 2^47 bytes.
-/
import Derived.Test.YtckdcjheflgmdaaRows
import Derived.Test.YtckdcjheflgmdaaLib
import Derived.WalkSpells
import Derived.RegionTactic
import Derived.BigQuiet
import Derived.Handy
import Derived.Deep.DeepMust
namespace Go.Proofs.Ytckdcjheflgmdaa
set_option maxRecDepth 16000
open Go.ChangeShapes Go.WideShapes Go.ChangeAt Go.RowKit Go.Cul
set_option linter.unusedVariables false

/-- As it was, but for block B and what is new. -/
structure Mv (B : Nat) (w w' : World) : Prop where
  os : w'.os = w.os
  tape : w'.tape = w.tape
  output : w'.output = w.output
  size : w.heap.size ≤ w'.heap.size
  block : ∀ k, k < w.heap.size → k ≠ B → w'.heap[k]? = w.heap[k]?

theorem Mv.refl (B : Nat) (w : World) : Mv B w w := ⟨rfl, rfl, rfl, Nat.le_refl _, fun _ _ _ => rfl⟩
theorem Mv.tr {B : Nat} {a b c : World} (h : Mv B a b) (k : Mv B b c) : Mv B a c :=
  ⟨k.os.trans h.os, k.tape.trans h.tape, k.output.trans h.output, Nat.le_trans h.size k.size, fun i hi hB => (k.block i (Nat.lt_of_lt_of_le hi h.size) hB).trans (h.block i hi hB)⟩
theorem Mv.ofExt {B : Nat} {w w' : World} (h : Ext w w') : Mv B w w' := ⟨h.os, h.tape, h.output, h.size, fun k hk _ => Below.block h k hk⟩
theorem Mv.set (B : Nat) (w : World) (o : Nat) (u : Value) : Mv B w (w.setCell ⟨B, o, none⟩ u) :=
  ⟨rfl, rfl, rfl, by simp [World.setCell], fun k _ hk => Below.heap_setCell _ _ _ _ hk⟩

theorem _root_.Go.Cul.Ext.drN {a b : World} (h : Ext a b) (n : Nat) : Ext a (b.drewN n) := Ext.tr h ⟨rfl, rfl, rfl, Nat.le_refl _, fun _ _ => rfl⟩

/-- An open reader: its block, its bytes, how many were read. -/
structure Rdr (w : World) (B : Nat) (bv : Value) (l : List Int) (k : Nat) : Prop where
  blk : w.heap[B]? = some (.cells #[bv, .int .i64 k, .bool true] 101)
  rd : Rd .u8 w bv l
  le : k ≤ l.length
  bound : l.length ≤ 140737488355328

theorem Rdr.c0 {w : World} {B : Nat} {bv : Value} {l : List Int} {k : Nat} (h : Rdr w B bv l k) : w.cell? ⟨B, 0, none⟩ = some bv := by simp [World.cell?, h.blk]
theorem Rdr.c1 {w : World} {B : Nat} {bv : Value} {l : List Int} {k : Nat} (h : Rdr w B bv l k) : w.cell? ⟨B, 1, none⟩ = some (.int .i64 k) := by simp [World.cell?, h.blk]
theorem Rdr.c2 {w : World} {B : Nat} {bv : Value} {l : List Int} {k : Nat} (h : Rdr w B bv l k) : w.cell? ⟨B, 2, none⟩ = some (.bool true) := by simp [World.cell?, h.blk]

theorem Rdr.fz {w : World} {B : Nat} {bv : Value} {l : List Int} {k : Nat} (h : Rdr w B bv l k) (o : Nat) : w.frozen? ⟨B, o, none⟩ = false := by simp [World.frozen?, h.blk]

/-- The value of a reader's pointer. -/
abbrev rp (B : Nat) : Value := .pointer (some ⟨B, 0, none⟩)

theorem shut_open (B : Nat) (bv : Value) (l : List Int) (k : Nat) (w : World) (h : Rdr w B bv l k) : Calls Try.prog 66 #[rp B] w fun e w' => e = .returned (.bool false) ∧ Ext w w' := by
  have c2 := h.c2
  go_enter Try.func66, Try.ntmps66
  go_wp2
  go_ret
  exact ⟨rfl, Ext.rfl' _⟩

theorem Rdr.ext {w w' : World} {B : Nat} {bv : Value} {l : List Int} {k : Nat} (h : Rdr w B bv l k) (hx : Ext w w') : Rdr w' B bv l k := ⟨hx.block h.blk, h.rd.ext hx, h.le, h.bound⟩

theorem left_open (B : Nat) (bv : Value) (l : List Int) (k : Nat) (w : World) (h : Rdr w B bv l k) : Calls Try.prog 40 #[rp B] w fun e w' => e = .returned (.int .i64 (l.length - k)) ∧ Ext w w' := by
  have h' := h
  obtain ⟨a, cap, rfl, hc1, hc2, hr⟩ := h.rd
  clear hr
  have hle := h.le
  have hb := h.bound
  have c0 := h.c0
  have c1 := h.c1
  have hw : IntKind.i64.wrap ((l.length : Int) - k) = l.length - k := by simp [IntKind.wrap, IntKind.bits, IntKind.signed]; omega
  go_enter Try.func40, Try.ntmps40
  go_wp2_with fail
  refine (shut_open B _ l k _ h).mono ?_
  rintro e w1 ⟨rfl, hx1⟩
  have c0' := hx1.cell c0
  have c1' := hx1.cell c1
  clear c0 c1 h h'
  go_wp2
  go_quiet (fail)
  go_wp2
  go_ret
  exact ⟨rfl, hx1.drN _⟩

/-- What a reader that gives up panics with. -/
abbrev gone (B : Nat) (e : Int) : Value := .iface 103 (.agg #[rp B, .int .i64 e])

theorem fail_open (B : Nat) (bv : Value) (l : List Int) (k : Nat) (e : Int) (he : e ≠ 0) (w : World) (h : Rdr w B bv l k) : Calls Try.prog 45 #[rp B, .int .i64 e] w fun x w' => x = .panicked [{ v := gone B e, recovered := false }] ∧ Ext w w' := by
  have hb : (e != 0) = true := by simpa using he
  clear he
  go_enter Try.func45, Try.ntmps45
  go_wp2_with fail
  refine (shut_open B _ l k _ h).mono ?_
  rintro e w1 ⟨rfl, hx1⟩
  go_wp2
  exact ⟨rfl, rfl, hx1⟩

/-- A slice of bytes is not the reader's own block. -/
theorem _root_.Go.Cul.Rd.mv {k : IntKind} {B : Nat} {w w' : World} {v : Value} {l : List Int} (h : Rd k w v l) (hm : Mv B w w') (hB : ∀ o x, w.cell? ⟨B, o, none⟩ ≠ some (.int k x)) : Rd k w' v l := by
  obtain ⟨a, cap, rfl, h1, h2, h3⟩ := h
  refine ⟨a, cap, rfl, h1, h2, ?_⟩
  rcases h3 with h3 | ⟨b, o, rfl, h3⟩
  · exact .inl h3
  · refine .inr ⟨b, o, rfl, fun i hi => ?_⟩
    have hc := h3 i hi
    have hb : b ≠ B := fun e => hB (o + i) _ (e ▸ hc)
    rw [← hc]
    exact World.cell?_of_block (w := w) (hm.block b (lt_of_cell hc) hb)

theorem Rdr.noInts {w : World} {B : Nat} {bv : Value} {l : List Int} {k : Nat} (h : Rdr w B bv l k) : ∀ o x, w.cell? ⟨B, o, none⟩ ≠ some (.int .u8 x) := by
  obtain ⟨a, cap, rfl, h1, h2, h3⟩ := h.rd
  intro o x
  rcases o with _ | _ | _ | o <;> simp [World.cell?, h.blk]

theorem _root_.Go.Cul.Rd.cut {k : IntKind} {w : World} {a : Option Addr} {cap : Nat} {l : List Int} (h : Rd k w (.slice a l.length cap) l) (lo n hi : Nat) (hlo : lo + n = hi) (hhi : hi ≤ l.length) :
    Rd k w (.slice (if cap = lo then a else Option.map (fun x => x.add lo) a) (hi - lo) (cap - lo)) ((l.drop lo).take n) := by
  obtain ⟨a', cap', he, h1, h2, h3⟩ := h
  cases he
  have hlen : ((l.drop lo).take n).length = hi - lo := by simp; omega
  by_cases hn : n = 0
  · subst hn
    refine ⟨_, _, by rw [hlen], by omega, by omega, .inl (by simp)⟩
  · have hne : ¬ cap = lo := by omega
    rw [if_neg hne]
    refine ⟨_, _, by rw [hlen], by omega, by omega, ?_⟩
    rcases h3 with rfl | ⟨b, o, rfl, h3⟩
    · simp at hhi; omega
    · refine .inr ⟨b, o + lo, by simp only [Option.map, Addr.add]; split <;> simp_all, fun i hi' => ?_⟩
      rw [hlen] at hi'
      rw [Nat.add_assoc, h3 (lo + i) (by omega)]
      simp [List.getD, List.getElem?_drop, show i < n by omega]

/-- The reader read on: nothing else has turned. -/
theorem Rdr.put {w : World} {B : Nat} {bv : Value} {l : List Int} {k k' : Nat} (h : Rdr w B bv l k) (hk : k' ≤ l.length) : Rdr (w.setCell ⟨B, 1, none⟩ (.int .i64 k')) B bv l k' := by
  refine ⟨?_, h.rd.mv (Mv.set _ _ _ _) h.noInts, hk, h.bound⟩
  simp [World.setCell, Array.getElem?_modify, h.blk]

theorem take_ok (B : Nat) (bv : Value) (l : List Int) (k n : Nat) (hn : k + n ≤ l.length) (w : World) (h : Rdr w B bv l k) : Calls Try.prog 67 #[rp B, .int .i64 n] w fun x w' => ∃ u, x = .returned u ∧ Rd .u8 w' u ((l.drop k).take n) ∧ Rdr w' B bv l (k + n) ∧ Mv B w w' := by
  have hb := h.bound
  have hle := h.le
  generalize hs : k + n = s at hn
  have hss : (s : Int) = (k : Int) + n := by omega
  have hw1 : IntKind.i64.wrap ((k : Int) + n) = (s : Int) := by rw [IntWalk.i64_in _ (by omega)]; omega
  have hw2 : IntKind.i64.wrap ((s : Int) - n) = (k : Int) := by rw [IntWalk.i64_in _ (by omega)]; omega
  have hneg : ¬ ((n : Int) < 0) := by omega
  have hsh : ¬ ((n : Int) > l.length - k) := by omega
  clear hss
  obtain ⟨a, cap, rfl, hc1, hc2, hr⟩ := h.rd
  clear hr
  go_enter Try.func67, Try.ntmps67
  go_wp2_with fail
  refine (left_open B _ l k _ h).mono ?_
  rintro e w1 ⟨rfl, hx1⟩
  have h1 := h.ext hx1
  clear h
  have c0 := h1.c0
  have c1 := h1.c1
  have fz := h1.fz 1
  go_wp2
  have h2 : Rdr _ B _ l s := h1.put hn
  have hm2 : Mv B w _ := (Mv.ofExt hx1).tr (Mv.set B w1 1 (.int .i64 s))
  clear h1 hx1 c0 c1 fz
  generalize (w1.setCell ⟨B, 1, none⟩ (.int .i64 s)) = w2 at h2 hm2 ⊢
  have c0 := h2.c0
  have c1 := h2.c1
  go_quiet (fail)
  have hcut := h2.rd.cut k n s hs hn
  generalize (Value.slice (if cap = k then a else Option.map (fun x => x.add k) a) (s - k) (cap - k)) = u at hcut ⊢
  go_wp2
  go_ret
  exact ⟨_, rfl, hcut.ext (Ext.drN (Ext.rfl' _) _), h2.ext (Ext.drN (Ext.rfl' _) _), hm2.tr (Mv.ofExt (Ext.drN (Ext.rfl' _) _))⟩

theorem take_short (B : Nat) (bv : Value) (l : List Int) (k n : Nat) (hn : l.length < k + n) (hn63 : n ≤ 140737488355328) (w : World) (h : Rdr w B bv l k) : Calls Try.prog 67 #[rp B, .int .i64 n] w fun x w' => x = .panicked [{ v := gone B 4, recovered := false }] ∧ Ext w w' := by
  have hle := h.le
  have hneg : ¬ ((n : Int) < 0) := by omega
  have hsh : ((n : Int) > l.length - k) := by omega
  go_enter Try.func67, Try.ntmps67
  go_wp2_with fail
  refine (left_open B _ l k _ h).mono ?_
  rintro e w1 ⟨rfl, hx1⟩
  have h1 := h.ext hx1
  clear h
  go_wp2_with fail
  refine (fail_open B _ l k 4 (by decide) _ h1).mono ?_
  rintro e w2 ⟨rfl, hx2⟩
  exact ⟨rfl, rfl, Ext.tr hx1 hx2⟩

theorem _root_.Go.Cul.Rd.two {w : World} {u : Value} {l : List Int} {k : Nat} {kd : IntKind} (h : Rd kd w u ((l.drop k).take 2)) (hn : k + 2 ≤ l.length) : ∃ b o cap, u = .slice (some ⟨b, o, none⟩) 2 cap ∧ 2 ≤ cap ∧ w.cell? ⟨b, o, none⟩ = some (.int kd (l.getD k 0)) ∧ w.cell? ⟨b, o + 1, none⟩ = some (.int kd (l.getD (k + 1) 0)) := by
  have hlen : ((l.drop k).take 2).length = 2 := by simp; omega
  obtain ⟨a, cap, rfl, h1, h2, h3⟩ := h
  rw [hlen] at h1 h3 ⊢
  rcases h3 with h3 | ⟨b, o, rfl, h3⟩
  · rw [h3] at hlen; cases hlen
  · refine ⟨b, o, cap, rfl, h1, ?_, ?_⟩
    · have := h3 0 (by decide)
      simpa [List.getD, List.getElem?_take, List.getElem?_drop] using this
    · have := h3 1 (by decide)
      simpa [List.getD, List.getElem?_take, List.getElem?_drop] using this

theorem _root_.Go.Cul.Byt.getD' {l : List Int} (h : Byt l) (i : Nat) : 0 ≤ l.getD i 0 ∧ l.getD i 0 ≤ 255 := by
  rcases Nat.lt_or_ge i l.length with hi | hi
  · have : l.getD i 0 = l[i] := by simp [List.getD, hi]
    rw [this]; exact h _ (List.getElem_mem hi)
  · have : l.getD i 0 = 0 := by simp [List.getD, List.getElem?_eq_none hi]
    rw [this]; omega

theorem bytes_ok (B : Nat) (bv : Value) (l : List Int) (k n : Nat) (hn : k + n ≤ l.length) (w : World) (h : Rdr w B bv l k) : Calls Try.prog 46 #[rp B, .int .i64 n] w fun x w' => ∃ u, x = .returned u ∧ Fr w' w.heap.size 5 .u8 u ((l.drop k).take n) ∧ Rdr w' B bv l (k + n) ∧ Mv B w w' := by
  have hb := h.bound
  go_enter Try.func46, Try.ntmps46
  go_wp2_with fail
  refine (shut_open B _ l k _ h).mono ?_
  rintro e w1 ⟨rfl, hx1⟩
  have h1 := h.ext hx1
  clear h
  go_wp2_with fail
  refine (take_ok B _ l k n hn _ h1).mono ?_
  rintro e w2 ⟨u, rfl, hr, h2, hm2⟩
  clear h1
  go_wp2_with fail
  refine (bclone_any u _ _ hr (by simp; omega)).mono ?_
  rintro e w3 ⟨u3, rfl, hf3, hx3⟩
  go_wp2
  go_ret
  exact ⟨_, rfl, hf3.low (Nat.le_trans hx1.size hm2.size), h2.ext hx3, (Mv.ofExt hx1).tr (hm2.tr (Mv.ofExt hx3))⟩

theorem rest_ok (B : Nat) (bv : Value) (l : List Int) (k : Nat) (w : World) (h : Rdr w B bv l k) : Calls Try.prog 43 #[rp B] w fun x w' => ∃ u, x = .returned u ∧ Fr w' w.heap.size 5 .u8 u (l.drop k) ∧ Rdr w' B bv l l.length ∧ Mv B w w' := by
  have hle := h.le
  obtain ⟨n, hn⟩ : ∃ n, k + n = l.length := ⟨l.length - k, by omega⟩
  have hc : ((l.length : Int) - k) = (n : Int) := by omega
  have hd : (l.drop k).take n = l.drop k := by rw [List.take_of_length_le]; simp; omega
  go_enter Try.func43, Try.ntmps43
  go_wp2_with fail
  refine (left_open B _ l k _ h).mono ?_
  rw [hc]
  rintro e w1 ⟨rfl, hx1⟩
  have h1 := h.ext hx1
  clear h
  go_wp2_with fail
  refine (bytes_ok B _ l k n (by omega) _ h1).mono ?_
  rw [hd, hn]
  rintro e w2 ⟨u, rfl, hf, h2, hm2⟩
  go_wp2
  go_ret
  exact ⟨_, rfl, hf.low hx1.size, h2, (Mv.ofExt hx1).tr hm2⟩
end Go.Proofs.Ytckdcjheflgmdaa
