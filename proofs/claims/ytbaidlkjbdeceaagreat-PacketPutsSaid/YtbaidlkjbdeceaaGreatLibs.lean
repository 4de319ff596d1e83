/-
  Proved here: uint8 is an integer kind of one byte in this program.
  Proved here: what bytes.Clone, slices.Clone of bytes, bytes.Equal, and wire's U8, U16, U32 compute, at any bytes of at most 2^47 - 4096. Condition: the bounds.
  Proved here: what bytes.Equal computes at any bytes.
  Proved here: what the methods of an open wire.Reader compute. Condition: at most 2^47 bytes.
  Proved here: what U8 and Bytes of an open wire.Reader compute, where there is enough and where there is not. Condition: at most 2^47 bytes.
  Proved here: wire.Read's deferred closure (a frame that returns; a frame that panics with givesUp), and wire.Read over whatever closure.
  Proved here: laws on worlds of which only some blocks have turned, and wire.Read over a closure that turns only some blocks of its caller's.
-/
import Derived.Test.YtbaidlkjbdeceaaGreatRows
import Derived.Test.YtbaidlkjbdeceaaGreatCore
import Derived.WalkSpells
import Derived.RegionTactic
import Derived.Handy
import Derived.Lib.SliceRun
import Derived.Deep.DeepMust
import Derived.BigQuiet
import Derived.Defers
import Derived.Recover
import Derived.Laws.Pointers
import Derived.Lib.Builder
namespace Go.Proofs.YtbaidlkjbdeceaaGreat
set_option maxRecDepth 200000
open Go.RowKit Go.Cul
theorem isU8 : IS Tryz.prog .u8 24 5 1 := ⟨Tryz.underlying24, Tryz.underlying5, info_parts (by kernel_rfl)⟩
end Go.Proofs.YtbaidlkjbdeceaaGreat
namespace Go.Proofs.YtbaidlkjbdeceaaGreat
set_option maxRecDepth 200000
open Go.ChangeShapes Go.WideShapes Go.ChangeAt Go.RowKit Go.Cul
set_option linter.unusedVariables false



theorem bclone_any (v : Value) (l : List Int) (w : World) (hv : Rd .u8 w v l) (hn : l.length ≤ 140737488355328) : Calls Tryz.prog 93 #[v] w fun e w' => ∃ u, e = .returned u ∧ Fr w' w.heap.size 5 .u8 u l ∧ Ext w w' := by
  have hv' := hv
  obtain ⟨a, cap, rfl, hc1, hc2, hr⟩ := hv'
  cases a with
  | none =>
    have hl : l = [] := by
      rcases hr with h | ⟨b, o, h, _⟩
      · exact h
      · cases h
    subst hl
    have hnil := fun (w : World) => Go.Lib.run_eql_slice_nil (P := Tryz.prog) w 24 5 none 0 cap 0 0 (by kernel_rfl)
    simp only [Option.isNone] at hnil
    go_enter Tryz.func93, Tryz.ntmps93
    go_wp2
    go_ret
    exact ⟨_, rfl, .inl (Own.nil _ _ _ _), Ext.rfl' _⟩
  | some ad =>
    clear hr
    have hnil := fun (w : World) => Go.Lib.run_eql_slice_nil (P := Tryz.prog) w 24 5 (some ad) l.length cap 0 0 (by kernel_rfl)
    simp only [Option.isNone] at hnil
    go_enter Tryz.func93, Tryz.ntmps93
    go_wp2_with (at_builtin; go_must (refine wpList_app_fr isU8 rfl (.tmp 5) (.tmp 6) rfl w.heap.size _ [] rfl (.inr ⟨_, rfl, rfl⟩) _ l rfl (hv.ext (Ext.new _ _)) (by simp; omega) (by simp [maxLen]; omega) (by simp) ?_); intro v1 w1 hfr1 hown1 hb1)
    go_ret
    exact ⟨_, rfl, by simpa using hfr1, Below.trans (Ext.new _ _) hb1⟩
theorem sclone_any (v : Value) (l : List Int) (w : World) (hv : Rd .u8 w v l) (hn : l.length ≤ 140737488355328) : Calls Tryz.prog 79 #[v] w fun e w' => ∃ u, e = .returned u ∧ Fr w' w.heap.size 5 .u8 u l ∧ Ext w w' := by
  have hv' := hv
  obtain ⟨a, cap, rfl, hc1, hc2, hr⟩ := hv'
  cases a with
  | none =>
    have hl : l = [] := by
      rcases hr with h | ⟨b, o, h, _⟩
      · exact h
      · cases h
    subst hl
    have hnil := fun (w : World) => Go.Lib.run_eql_slice_nil (P := Tryz.prog) w 24 5 none 0 cap 0 0 (by kernel_rfl)
    simp only [Option.isNone] at hnil
    go_enter Tryz.func79, Tryz.ntmps79
    go_wp2
    go_ret
    exact ⟨_, rfl, .inl (Own.nil _ _ _ _), Ext.rfl' _⟩
  | some ad =>
    clear hr
    have hnil := fun (w : World) => Go.Lib.run_eql_slice_nil (P := Tryz.prog) w 24 5 (some ad) l.length cap 0 0 (by kernel_rfl)
    simp only [Option.isNone] at hnil
    go_enter Tryz.func79, Tryz.ntmps79
    go_wp2_with (at_builtin; go_must (refine wpList_app_fr isU8 rfl (.tmp 5) (.tmp 6) rfl w.heap.size _ [] rfl (.inr ⟨_, rfl, rfl⟩) _ l rfl (hv.ext (Ext.new _ _)) (by simp; omega) (by simp [maxLen]; omega) (by simp) ?_); intro v1 w1 hfr1 hown1 hb1)
    go_ret
    exact ⟨_, rfl, by simpa using hfr1, Below.trans (Ext.new _ _) hb1⟩
end Go.Proofs.YtbaidlkjbdeceaaGreat
namespace Go.Proofs.YtbaidlkjbdeceaaGreat
set_option maxRecDepth 200000
open Go.ChangeShapes Go.WideShapes Go.ChangeAt Go.RowKit Go.Cul
set_option linter.unusedVariables false

theorem nums_back (a : List Int) (ha : Byt a) : (strOfNums a).data.toList.map (fun x => (x.toNat : Int)) = a := by
  rw [strOfNums_data, List.map_map]
  conv => rhs; rw [← List.map_id a]
  refine List.map_congr_left fun x hx => ?_
  have := ha x hx
  simp only [Function.comp, id]
  rw [UInt8.toNat_ofNat']
  omega

theorem beq_any (u v : Value) (a b : List Int) (w : World) (hu : Rd .u8 w u a) (hv : Rd .u8 w v b) (ha : Byt a) (hb : Byt b) : Calls Tryz.prog 8 #[u, v] w fun e w' => e = .returned (.bool (decide (a = b))) ∧ Ext w w' := by
  have h1 := run_conv_rd (P := Tryz.prog) (src := 24) (e := 5) (dst := 9) (by kernel_rfl) (by kernel_rfl) (by kernel_rfl) hu
  have h2 := run_conv_rd (P := Tryz.prog) (src := 24) (e := 5) (dst := 9) (by kernel_rfl) (by kernel_rfl) (by kernel_rfl) hv
  have hq : ((strOfNums a).toList == (strOfNums b).toList) = decide (a = b) := by
    rw [ByteArray.toList_eq, ByteArray.toList_eq, Bool.eq_iff_iff, decide_eq_true_iff, beq_iff_eq]
    refine ⟨fun h => ?_, fun h => by rw [h]⟩
    rw [← nums_back a ha, ← nums_back b hb, h]
  clear ha hb
  go_enter Tryz.func8, Tryz.ntmps8
  go_wp2
  go_ret
  exact ⟨rfl, Ext.rfl' _⟩
end Go.Proofs.YtbaidlkjbdeceaaGreat
namespace Go.Proofs.YtbaidlkjbdeceaaGreat
set_option maxRecDepth 200000
open Go.ChangeShapes Go.WideShapes Go.ChangeAt Go.RowKit Go.Cul
set_option linter.unusedVariables false

/-- As it was, but for block B and what is new. -/
structure Mv (B : Nat) (w w' : World) : Prop where
  os : w'.os = w.os
  tape : w'.tape = w.tape
  output : w'.output = w.output
  size : w.heap.size ≤ w'.heap.size
  block : ∀ k, k < w.heap.size → k ≠ B → w'.heap[k]? = w.heap[k]?

theorem Mv.refl (B : Nat) (w : World) : Mv B w w := ⟨rfl, rfl, rfl, Nat.le_refl _, fun _ _ _ => rfl⟩
theorem Mv.tr {B : Nat} {a b c : World} (h : Mv B a b) (k : Mv B b c) : Mv B a c :=
  ⟨k.os.trans h.os, k.tape.trans h.tape, k.output.trans h.output, Nat.le_trans h.size k.size, fun i hi hB => (k.block i (Nat.lt_of_lt_of_le hi h.size) hB).trans (h.block i hi hB)⟩
theorem Mv.ofExt {B : Nat} {w w' : World} (h : Ext w w') : Mv B w w' := ⟨h.os, h.tape, h.output, h.size, fun k hk _ => Below.block h k hk⟩
theorem Mv.set (B : Nat) (w : World) (o : Nat) (u : Value) : Mv B w (w.setCell ⟨B, o, none⟩ u) :=
  ⟨rfl, rfl, rfl, by simp [World.setCell], fun k _ hk => Below.heap_setCell _ _ _ _ hk⟩

theorem _root_.Go.Cul.Ext.drN {a b : World} (h : Ext a b) (n : Nat) : Ext a (b.drewN n) := Ext.tr h ⟨rfl, rfl, rfl, Nat.le_refl _, fun _ _ => rfl⟩

/-- An open reader: its block, its bytes, how many were read. -/
structure Rdr (w : World) (B : Nat) (bv : Value) (l : List Int) (k : Nat) : Prop where
  blk : w.heap[B]? = some (.cells #[bv, .int .i64 k, .bool true] 129)
  rd : Rd .u8 w bv l
  le : k ≤ l.length
  bound : l.length ≤ 140737488355328

theorem Rdr.c0 {w : World} {B : Nat} {bv : Value} {l : List Int} {k : Nat} (h : Rdr w B bv l k) : w.cell? ⟨B, 0, none⟩ = some bv := by simp [World.cell?, h.blk]
theorem Rdr.c1 {w : World} {B : Nat} {bv : Value} {l : List Int} {k : Nat} (h : Rdr w B bv l k) : w.cell? ⟨B, 1, none⟩ = some (.int .i64 k) := by simp [World.cell?, h.blk]
theorem Rdr.c2 {w : World} {B : Nat} {bv : Value} {l : List Int} {k : Nat} (h : Rdr w B bv l k) : w.cell? ⟨B, 2, none⟩ = some (.bool true) := by simp [World.cell?, h.blk]

theorem Rdr.fz {w : World} {B : Nat} {bv : Value} {l : List Int} {k : Nat} (h : Rdr w B bv l k) (o : Nat) : w.frozen? ⟨B, o, none⟩ = false := by simp [World.frozen?, h.blk]

/-- The value of a reader's pointer. -/
abbrev rp (B : Nat) : Value := .pointer (some ⟨B, 0, none⟩)

theorem shut_open (B : Nat) (bv : Value) (l : List Int) (k : Nat) (w : World) (h : Rdr w B bv l k) : Calls Tryz.prog 92 #[rp B] w fun e w' => e = .returned (.bool false) ∧ Ext w w' := by
  have c2 := h.c2
  go_enter Tryz.func92, Tryz.ntmps92
  go_wp2
  go_ret
  exact ⟨rfl, Ext.rfl' _⟩

theorem Rdr.ext {w w' : World} {B : Nat} {bv : Value} {l : List Int} {k : Nat} (h : Rdr w B bv l k) (hx : Ext w w') : Rdr w' B bv l k := ⟨hx.block h.blk, h.rd.ext hx, h.le, h.bound⟩

theorem left_open (B : Nat) (bv : Value) (l : List Int) (k : Nat) (w : World) (h : Rdr w B bv l k) : Calls Tryz.prog 77 #[rp B] w fun e w' => e = .returned (.int .i64 (l.length - k)) ∧ Ext w w' := by
  have h' := h
  obtain ⟨a, cap, rfl, hc1, hc2, hr⟩ := h.rd
  clear hr
  have hle := h.le
  have hb := h.bound
  have c0 := h.c0
  have c1 := h.c1
  have hw : IntKind.i64.wrap ((l.length : Int) - k) = l.length - k := by simp [IntKind.wrap, IntKind.bits, IntKind.signed]; omega
  go_enter Tryz.func77, Tryz.ntmps77
  go_wp2_with fail
  refine (shut_open B _ l k _ h).mono ?_
  rintro e w1 ⟨rfl, hx1⟩
  have c0' := hx1.cell c0
  have c1' := hx1.cell c1
  clear c0 c1 h h'
  go_wp2
  go_quiet (fail)
  go_wp2
  go_ret
  exact ⟨rfl, hx1.drN _⟩

/-- What a reader that gives up panics with. -/
abbrev gone (B : Nat) (e : Int) : Value := .iface 127 (.agg #[rp B, .int .i64 e])

theorem fail_open (B : Nat) (bv : Value) (l : List Int) (k : Nat) (e : Int) (he : e ≠ 0) (w : World) (h : Rdr w B bv l k) : Calls Tryz.prog 64 #[rp B, .int .i64 e] w fun x w' => x = .panicked [{ v := gone B e, recovered := false }] ∧ Ext w w' := by
  have hb : (e != 0) = true := by simpa using he
  clear he
  go_enter Tryz.func64, Tryz.ntmps64
  go_wp2_with fail
  refine (shut_open B _ l k _ h).mono ?_
  rintro e w1 ⟨rfl, hx1⟩
  go_wp2
  exact ⟨rfl, rfl, hx1⟩

/-- A slice of bytes is not the reader's own block. -/
theorem _root_.Go.Cul.Rd.mv {k : IntKind} {B : Nat} {w w' : World} {v : Value} {l : List Int} (h : Rd k w v l) (hm : Mv B w w') (hB : ∀ o x, w.cell? ⟨B, o, none⟩ ≠ some (.int k x)) : Rd k w' v l := by
  obtain ⟨a, cap, rfl, h1, h2, h3⟩ := h
  refine ⟨a, cap, rfl, h1, h2, ?_⟩
  rcases h3 with h3 | ⟨b, o, rfl, h3⟩
  · exact .inl h3
  · refine .inr ⟨b, o, rfl, fun i hi => ?_⟩
    have hc := h3 i hi
    have hb : b ≠ B := fun e => hB (o + i) _ (e ▸ hc)
    rw [← hc]
    exact World.cell?_of_block (w := w) (hm.block b (lt_of_cell hc) hb)

theorem Rdr.noInts {w : World} {B : Nat} {bv : Value} {l : List Int} {k : Nat} (h : Rdr w B bv l k) : ∀ o x, w.cell? ⟨B, o, none⟩ ≠ some (.int .u8 x) := by
  obtain ⟨a, cap, rfl, h1, h2, h3⟩ := h.rd
  intro o x
  rcases o with _ | _ | _ | o <;> simp [World.cell?, h.blk]

theorem _root_.Go.Cul.Rd.cut {k : IntKind} {w : World} {a : Option Addr} {cap : Nat} {l : List Int} (h : Rd k w (.slice a l.length cap) l) (lo n hi : Nat) (hlo : lo + n = hi) (hhi : hi ≤ l.length) :
    Rd k w (.slice (if cap = lo then a else Option.map (fun x => x.add lo) a) (hi - lo) (cap - lo)) ((l.drop lo).take n) := by
  obtain ⟨a', cap', he, h1, h2, h3⟩ := h
  cases he
  have hlen : ((l.drop lo).take n).length = hi - lo := by simp; omega
  by_cases hn : n = 0
  · subst hn
    refine ⟨_, _, by rw [hlen], by omega, by omega, .inl (by simp)⟩
  · have hne : ¬ cap = lo := by omega
    rw [if_neg hne]
    refine ⟨_, _, by rw [hlen], by omega, by omega, ?_⟩
    rcases h3 with rfl | ⟨b, o, rfl, h3⟩
    · simp at hhi; omega
    · refine .inr ⟨b, o + lo, by simp only [Option.map, Addr.add]; split <;> simp_all, fun i hi' => ?_⟩
      rw [hlen] at hi'
      rw [Nat.add_assoc, h3 (lo + i) (by omega)]
      simp [List.getD, List.getElem?_drop, show i < n by omega]

/-- The reader read on: nothing else has turned. -/
theorem Rdr.put {w : World} {B : Nat} {bv : Value} {l : List Int} {k k' : Nat} (h : Rdr w B bv l k) (hk : k' ≤ l.length) : Rdr (w.setCell ⟨B, 1, none⟩ (.int .i64 k')) B bv l k' := by
  refine ⟨?_, h.rd.mv (Mv.set _ _ _ _) h.noInts, hk, h.bound⟩
  simp [World.setCell, Array.getElem?_modify, h.blk]

theorem take_ok (B : Nat) (bv : Value) (l : List Int) (k n : Nat) (hn : k + n ≤ l.length) (w : World) (h : Rdr w B bv l k) : Calls Tryz.prog 95 #[rp B, .int .i64 n] w fun x w' => ∃ u, x = .returned u ∧ Rd .u8 w' u ((l.drop k).take n) ∧ Rdr w' B bv l (k + n) ∧ Mv B w w' := by
  have hb := h.bound
  have hle := h.le
  generalize hs : k + n = s at hn
  have hss : (s : Int) = (k : Int) + n := by omega
  have hw1 : IntKind.i64.wrap ((k : Int) + n) = (s : Int) := by rw [IntWalk.i64_in _ (by omega)]; omega
  have hw2 : IntKind.i64.wrap ((s : Int) - n) = (k : Int) := by rw [IntWalk.i64_in _ (by omega)]; omega
  have hneg : ¬ ((n : Int) < 0) := by omega
  have hsh : ¬ ((n : Int) > l.length - k) := by omega
  clear hss
  obtain ⟨a, cap, rfl, hc1, hc2, hr⟩ := h.rd
  clear hr
  go_enter Tryz.func95, Tryz.ntmps95
  go_wp2_with fail
  refine (left_open B _ l k _ h).mono ?_
  rintro e w1 ⟨rfl, hx1⟩
  have h1 := h.ext hx1
  clear h
  have c0 := h1.c0
  have c1 := h1.c1
  have fz := h1.fz 1
  go_wp2
  have h2 : Rdr _ B _ l s := h1.put hn
  have hm2 : Mv B w _ := (Mv.ofExt hx1).tr (Mv.set B w1 1 (.int .i64 s))
  clear h1 hx1 c0 c1 fz
  generalize (w1.setCell ⟨B, 1, none⟩ (.int .i64 s)) = w2 at h2 hm2 ⊢
  have c0 := h2.c0
  have c1 := h2.c1
  go_quiet (fail)
  have hcut := h2.rd.cut k n s hs hn
  generalize (Value.slice (if cap = k then a else Option.map (fun x => x.add k) a) (s - k) (cap - k)) = u at hcut ⊢
  go_wp2
  go_ret
  exact ⟨_, rfl, hcut.ext (Ext.drN (Ext.rfl' _) _), h2.ext (Ext.drN (Ext.rfl' _) _), hm2.tr (Mv.ofExt (Ext.drN (Ext.rfl' _) _))⟩

theorem take_short (B : Nat) (bv : Value) (l : List Int) (k n : Nat) (hn : l.length < k + n) (hn63 : n ≤ 140737488355328) (w : World) (h : Rdr w B bv l k) : Calls Tryz.prog 95 #[rp B, .int .i64 n] w fun x w' => x = .panicked [{ v := gone B 4, recovered := false }] ∧ Ext w w' := by
  have hle := h.le
  have hneg : ¬ ((n : Int) < 0) := by omega
  have hsh : ((n : Int) > l.length - k) := by omega
  go_enter Tryz.func95, Tryz.ntmps95
  go_wp2_with fail
  refine (left_open B _ l k _ h).mono ?_
  rintro e w1 ⟨rfl, hx1⟩
  have h1 := h.ext hx1
  clear h
  go_wp2_with fail
  refine (fail_open B _ l k 4 (by decide) _ h1).mono ?_
  rintro e w2 ⟨rfl, hx2⟩
  exact ⟨rfl, rfl, Ext.tr hx1 hx2⟩

theorem _root_.Go.Cul.Rd.two {w : World} {u : Value} {l : List Int} {k : Nat} {kd : IntKind} (h : Rd kd w u ((l.drop k).take 2)) (hn : k + 2 ≤ l.length) : ∃ b o cap, u = .slice (some ⟨b, o, none⟩) 2 cap ∧ 2 ≤ cap ∧ w.cell? ⟨b, o, none⟩ = some (.int kd (l.getD k 0)) ∧ w.cell? ⟨b, o + 1, none⟩ = some (.int kd (l.getD (k + 1) 0)) := by
  have hlen : ((l.drop k).take 2).length = 2 := by simp; omega
  obtain ⟨a, cap, rfl, h1, h2, h3⟩ := h
  rw [hlen] at h1 h3 ⊢
  rcases h3 with h3 | ⟨b, o, rfl, h3⟩
  · rw [h3] at hlen; cases hlen
  · refine ⟨b, o, cap, rfl, h1, ?_, ?_⟩
    · have := h3 0 (by decide)
      simpa [List.getD, List.getElem?_take, List.getElem?_drop] using this
    · have := h3 1 (by decide)
      simpa [List.getD, List.getElem?_take, List.getElem?_drop] using this

theorem _root_.Go.Cul.Byt.getD' {l : List Int} (h : Byt l) (i : Nat) : 0 ≤ l.getD i 0 ∧ l.getD i 0 ≤ 255 := by
  rcases Nat.lt_or_ge i l.length with hi | hi
  · have : l.getD i 0 = l[i] := by simp [List.getD, hi]
    rw [this]; exact h _ (List.getElem_mem hi)
  · have : l.getD i 0 = 0 := by simp [List.getD, List.getElem?_eq_none hi]
    rw [this]; omega

theorem u16_ok (B : Nat) (bv : Value) (l : List Int) (k : Nat) (hl : Byt l) (hn : k + 2 ≤ l.length) (w : World) (h : Rdr w B bv l k) : Calls Tryz.prog 67 #[rp B] w fun x w' => x = .returned (.int .u16 (l.getD k 0 * 256 + l.getD (k + 1) 0)) ∧ Rdr w' B bv l (k + 2) ∧ Mv B w w' := by
  go_enter Tryz.func67, Tryz.ntmps67
  go_wp2_with fail
  refine (shut_open B _ l k _ h).mono ?_
  rintro e w1 ⟨rfl, hx1⟩
  have h1 := h.ext hx1
  clear h
  go_wp2_with fail
  refine (take_ok B _ l k 2 hn _ h1).mono ?_
  rintro e w2 ⟨u, rfl, hr, h2, hm2⟩
  obtain ⟨b, o, cap, rfl, hcap, c0, c1⟩ := hr.two hn
  clear hr h1
  have hx := hl.getD' k
  have hy := hl.getD' (k + 1)
  generalize hxe : l.getD k 0 = x at hx c0
  generalize hye : l.getD (k + 1) 0 = y at hy c1
  obtain ⟨hx0, hx1'⟩ := hx
  obtain ⟨hy0, hy1'⟩ := hy
  have hor := or8_u16 x y hx0 hx1' hy0 hy1'
  have e1 : IntKind.u16.wrap x = x := by simp [IntKind.wrap, IntKind.bits, IntKind.signed]; omega
  have e2 : IntKind.u16.wrap y = y := by simp [IntKind.wrap, IntKind.bits, IntKind.signed]; omega
  have e3 : IntKind.u16.wrap (x * 256) = x * 256 := by simp [IntKind.wrap, IntKind.bits, IntKind.signed]; omega
  clear hx0 hx1' hy0 hy1' hcap
  go_wp2
  go_quiet (fail)
  go_wp2
  go_ret
  exact ⟨by rw [hxe, hye]; rfl, h2.ext (Ext.drN (Ext.rfl' _) _), (Mv.ofExt hx1).tr (hm2.tr (Mv.ofExt (Ext.drN (Ext.rfl' _) _)))⟩

theorem u16_short (B : Nat) (bv : Value) (l : List Int) (k : Nat) (hn : l.length < k + 2) (w : World) (h : Rdr w B bv l k) : Calls Tryz.prog 67 #[rp B] w fun x w' => x = .panicked [{ v := gone B 4, recovered := false }] ∧ Ext w w' := by
  go_enter Tryz.func67, Tryz.ntmps67
  go_wp2_with fail
  refine (shut_open B _ l k _ h).mono ?_
  rintro e w1 ⟨rfl, hx1⟩
  have h1 := h.ext hx1
  clear h
  go_wp2_with fail
  refine (take_short B _ l k 2 hn (by decide) _ h1).mono ?_
  rintro e w2 ⟨rfl, hx2⟩
  exact ⟨rfl, rfl, Ext.tr hx1 hx2⟩

theorem bytes_ok (B : Nat) (bv : Value) (l : List Int) (k n : Nat) (hn : k + n ≤ l.length) (w : World) (h : Rdr w B bv l k) : Calls Tryz.prog 72 #[rp B, .int .i64 n] w fun x w' => ∃ u, x = .returned u ∧ Fr w' w.heap.size 5 .u8 u ((l.drop k).take n) ∧ Rdr w' B bv l (k + n) ∧ Mv B w w' := by
  have hb := h.bound
  go_enter Tryz.func72, Tryz.ntmps72
  go_wp2_with fail
  refine (shut_open B _ l k _ h).mono ?_
  rintro e w1 ⟨rfl, hx1⟩
  have h1 := h.ext hx1
  clear h
  go_wp2_with fail
  refine (take_ok B _ l k n hn _ h1).mono ?_
  rintro e w2 ⟨u, rfl, hr, h2, hm2⟩
  clear h1
  go_wp2_with fail
  refine (bclone_any u _ _ hr (by simp; omega)).mono ?_
  rintro e w3 ⟨u3, rfl, hf3, hx3⟩
  go_wp2
  go_ret
  exact ⟨_, rfl, hf3.low (Nat.le_trans hx1.size hm2.size), h2.ext hx3, (Mv.ofExt hx1).tr (hm2.tr (Mv.ofExt hx3))⟩

theorem rest_ok (B : Nat) (bv : Value) (l : List Int) (k : Nat) (w : World) (h : Rdr w B bv l k) : Calls Tryz.prog 73 #[rp B] w fun x w' => ∃ u, x = .returned u ∧ Fr w' w.heap.size 5 .u8 u (l.drop k) ∧ Rdr w' B bv l l.length ∧ Mv B w w' := by
  have hle := h.le
  obtain ⟨n, hn⟩ : ∃ n, k + n = l.length := ⟨l.length - k, by omega⟩
  have hc : ((l.length : Int) - k) = (n : Int) := by omega
  have hd : (l.drop k).take n = l.drop k := by rw [List.take_of_length_le]; simp; omega
  go_enter Tryz.func73, Tryz.ntmps73
  go_wp2_with fail
  refine (left_open B _ l k _ h).mono ?_
  rw [hc]
  rintro e w1 ⟨rfl, hx1⟩
  have h1 := h.ext hx1
  clear h
  go_wp2_with fail
  refine (bytes_ok B _ l k n (by omega) _ h1).mono ?_
  rw [hd, hn]
  rintro e w2 ⟨u, rfl, hf, h2, hm2⟩
  go_wp2
  go_ret
  exact ⟨_, rfl, hf.low hx1.size, h2, (Mv.ofExt hx1).tr hm2⟩
end Go.Proofs.YtbaidlkjbdeceaaGreat
namespace Go.Proofs.YtbaidlkjbdeceaaGreat
set_option maxRecDepth 200000
open Go.ChangeShapes Go.WideShapes Go.ChangeAt Go.RowKit Go.Cul
set_option linter.unusedVariables false

theorem _root_.Go.Cul.Rd.one {w : World} {u : Value} {l : List Int} {k : Nat} {kd : IntKind} (h : Rd kd w u ((l.drop k).take 1)) (hn : k + 1 ≤ l.length) : ∃ b o cap, u = .slice (some ⟨b, o, none⟩) 1 cap ∧ 1 ≤ cap ∧ w.cell? ⟨b, o, none⟩ = some (.int kd (l.getD k 0)) := by
  have hlen : ((l.drop k).take 1).length = 1 := by simp; omega
  obtain ⟨a, cap, rfl, h1, h2, h3⟩ := h
  rw [hlen] at h1 h3 ⊢
  rcases h3 with h3 | ⟨b, o, rfl, h3⟩
  · rw [h3] at hlen; cases hlen
  · refine ⟨b, o, cap, rfl, h1, ?_⟩
    have := h3 0 (by decide)
    simpa [List.getD, List.getElem?_take, List.getElem?_drop] using this

theorem u8_ok (B : Nat) (bv : Value) (l : List Int) (k : Nat) (hn : k + 1 ≤ l.length) (w : World) (h : Rdr w B bv l k) : Calls Tryz.prog 69 #[rp B] w fun x w' => x = .returned (.int .u8 (l.getD k 0)) ∧ Rdr w' B bv l (k + 1) ∧ Mv B w w' := by
  go_enter Tryz.func69, Tryz.ntmps69
  go_wp2_with fail
  refine (shut_open B _ l k _ h).mono ?_
  rintro e w1 ⟨rfl, hx1⟩
  have h1 := h.ext hx1
  clear h
  go_wp2_with fail
  refine (take_ok B _ l k 1 hn _ h1).mono ?_
  rintro e w2 ⟨u, rfl, hr, h2, hm2⟩
  obtain ⟨b, o, cap, rfl, hcap, c0⟩ := hr.one hn
  clear hr h1 hcap
  generalize hxe : l.getD k 0 = x at *
  go_wp2_with fail
  go_ret
  exact ⟨by rw [hxe]; rfl, h2, (Mv.ofExt hx1).tr hm2⟩

theorem u8_short (B : Nat) (bv : Value) (l : List Int) (k : Nat) (hn : l.length < k + 1) (w : World) (h : Rdr w B bv l k) : Calls Tryz.prog 69 #[rp B] w fun x w' => x = .panicked [{ v := gone B 4, recovered := false }] ∧ Ext w w' := by
  go_enter Tryz.func69, Tryz.ntmps69
  go_wp2_with fail
  refine (shut_open B _ l k _ h).mono ?_
  rintro e w1 ⟨rfl, hx1⟩
  have h1 := h.ext hx1
  clear h
  go_wp2_with fail
  refine (take_short B _ l k 1 hn (by decide) _ h1).mono ?_
  rintro e w2 ⟨rfl, hx2⟩
  exact ⟨rfl, rfl, Ext.tr hx1 hx2⟩

theorem bytes_short (B : Nat) (bv : Value) (l : List Int) (k n : Nat) (hn : l.length < k + n) (hn63 : n ≤ 140737488355328) (w : World) (h : Rdr w B bv l k) : Calls Tryz.prog 72 #[rp B, .int .i64 n] w fun x w' => x = .panicked [{ v := gone B 4, recovered := false }] ∧ Ext w w' := by
  go_enter Tryz.func72, Tryz.ntmps72
  go_wp2_with fail
  refine (shut_open B _ l k _ h).mono ?_
  rintro e w1 ⟨rfl, hx1⟩
  have h1 := h.ext hx1
  clear h
  go_wp2_with fail
  refine (take_short B _ l k n hn hn63 _ h1).mono ?_
  rintro e w2 ⟨rfl, hx2⟩
  exact ⟨rfl, rfl, Ext.tr hx1 hx2⟩

theorem join32 (a b : Int) (k : Nat) (ha : 0 ≤ a) (hb : 0 ≤ b) (hb' : b < ((2 ^ k : Nat) : Int)) (hx : a * ((2 ^ k : Nat) : Int) + b ≤ 4294967295) : bits BinOp.or IntKind.u32 (a * ((2 ^ k : Nat) : Int)) b = a * ((2 ^ k : Nat) : Int) + b := by
  obtain ⟨m, rfl⟩ := Int.eq_ofNat_of_zero_le ha
  obtain ⟨n, rfl⟩ := Int.eq_ofNat_of_zero_le hb
  have h1 : (m : Int) * ((2 ^ k : Nat) : Int) = ((m * 2 ^ k : Nat) : Int) := by rw [Int.natCast_mul]
  rw [h1] at hx ⊢
  rw [u32_or _ _ (by omega) (by omega) (by omega) (by omega)]
  have hn : n < 2 ^ k := by omega
  rw [Int.toNat_natCast, Int.toNat_natCast, show m * 2 ^ k ||| n = m * 2 ^ k + n from by rw [Nat.mul_comm, Nat.two_pow_add_eq_or_of_lt hn]]
  omega

theorem _root_.Go.Cul.Rd.four {w : World} {u : Value} {l : List Int} {k : Nat} {kd : IntKind} (h : Rd kd w u ((l.drop k).take 4)) (hn : k + 4 ≤ l.length) : ∃ b o cap, u = .slice (some ⟨b, o, none⟩) 4 cap ∧ 4 ≤ cap ∧ w.cell? ⟨b, o, none⟩ = some (.int kd (l.getD k 0)) ∧ w.cell? ⟨b, o + 1, none⟩ = some (.int kd (l.getD (k + 1) 0)) ∧
    w.cell? ⟨b, o + 2, none⟩ = some (.int kd (l.getD (k + 2) 0)) ∧ w.cell? ⟨b, o + 3, none⟩ = some (.int kd (l.getD (k + 3) 0)) := by
  have hlen : ((l.drop k).take 4).length = 4 := by simp; omega
  obtain ⟨a, cap, rfl, h1, h2, h3⟩ := h
  rw [hlen] at h1 h3 ⊢
  rcases h3 with h3 | ⟨b, o, rfl, h3⟩
  · rw [h3] at hlen; cases hlen
  · refine ⟨b, o, cap, rfl, h1, ?_, ?_, ?_, ?_⟩
    · have := h3 0 (by decide)
      simpa [List.getD, List.getElem?_take, List.getElem?_drop] using this
    · have := h3 1 (by decide)
      simpa [List.getD, List.getElem?_take, List.getElem?_drop] using this
    · have := h3 2 (by decide)
      simpa [List.getD, List.getElem?_take, List.getElem?_drop] using this
    · have := h3 3 (by decide)
      simpa [List.getD, List.getElem?_take, List.getElem?_drop] using this

/-- The number of four bytes at a place. -/
def be32 (l : List Int) (k : Nat) : Int := l.getD k 0 * 16777216 + l.getD (k + 1) 0 * 65536 + l.getD (k + 2) 0 * 256 + l.getD (k + 3) 0
theorem be32_bd {l : List Int} (h : Byt l) (k : Nat) : 0 ≤ be32 l k ∧ be32 l k ≤ 4294967295 := by
  have h1 := h.getD' k
  have h2 := h.getD' (k + 1)
  have h3 := h.getD' (k + 2)
  have h4 := h.getD' (k + 3)
  unfold be32; omega

theorem u32_ok (B : Nat) (bv : Value) (l : List Int) (k : Nat) (hl : Byt l) (hn : k + 4 ≤ l.length) (w : World) (h : Rdr w B bv l k) : Calls Tryz.prog 68 #[rp B] w fun x w' => x = .returned (.int .u32 (be32 l k)) ∧ Rdr w' B bv l (k + 4) ∧ Mv B w w' := by
  go_enter Tryz.func68, Tryz.ntmps68
  go_wp2_with fail
  refine (shut_open B _ l k _ h).mono ?_
  rintro e w1 ⟨rfl, hx1⟩
  have h1 := h.ext hx1
  clear h
  go_wp2_with fail
  refine (take_ok B _ l k 4 hn _ h1).mono ?_
  rintro e w2 ⟨u, rfl, hr, h2, hm2⟩
  obtain ⟨b, o, cap, rfl, hcap, c0, c1, c2, c3⟩ := hr.four hn
  clear hr h1
  have q0 := hl.getD' k
  have q1 := hl.getD' (k + 1)
  have q2 := hl.getD' (k + 2)
  have q3 := hl.getD' (k + 3)
  have hbe : Hid (be32 l k = l.getD k 0 * 16777216 + l.getD (k + 1) 0 * 65536 + l.getD (k + 2) 0 * 256 + l.getD (k + 3) 0) := rfl
  generalize l.getD k 0 = x0 at *
  generalize l.getD (k + 1) 0 = x1 at *
  generalize l.getD (k + 2) 0 = x2 at *
  generalize l.getD (k + 3) 0 = x3 at *
  have o1 : bits BinOp.or IntKind.u32 (x0 * 16777216) (x1 * 65536) = x0 * 16777216 + x1 * 65536 := join32 x0 (x1 * 65536) 24 (by omega) (by omega) (by omega) (by omega)
  have o2 : bits BinOp.or IntKind.u32 (x0 * 16777216 + x1 * 65536) (x2 * 256) = x0 * 16777216 + x1 * 65536 + x2 * 256 := by
    have := join32 (x0 * 256 + x1) (x2 * 256) 16 (by omega) (by omega) (by omega) (by omega)
    rw [show (x0 * 256 + x1) * ((2 ^ 16 : Nat) : Int) = x0 * 16777216 + x1 * 65536 by omega] at this
    exact this
  have o3 : bits BinOp.or IntKind.u32 (x0 * 16777216 + x1 * 65536 + x2 * 256) x3 = x0 * 16777216 + x1 * 65536 + x2 * 256 + x3 := by
    have := join32 (x0 * 65536 + x1 * 256 + x2) x3 8 (by omega) (by omega) (by omega) (by omega)
    rw [show (x0 * 65536 + x1 * 256 + x2) * ((2 ^ 8 : Nat) : Int) = x0 * 16777216 + x1 * 65536 + x2 * 256 by omega] at this
    exact this
  have e0 : IntKind.u32.wrap x0 = x0 := by rw [IntKind.wrap_u32]; omega
  have e1 : IntKind.u32.wrap x1 = x1 := by rw [IntKind.wrap_u32]; omega
  have e2 : IntKind.u32.wrap x2 = x2 := by rw [IntKind.wrap_u32]; omega
  have e3 : IntKind.u32.wrap x3 = x3 := by rw [IntKind.wrap_u32]; omega
  have f0 : IntKind.u32.wrap (x0 * 16777216) = x0 * 16777216 := by rw [IntKind.wrap_u32]; omega
  have f1 : IntKind.u32.wrap (x1 * 65536) = x1 * 65536 := by rw [IntKind.wrap_u32]; omega
  have f2 : IntKind.u32.wrap (x2 * 256) = x2 * 256 := by rw [IntKind.wrap_u32]; omega
  clear q0 q1 q2 q3 hcap
  go_wp2_with fail
  go_quiet (fail)
  go_wp2_with fail
  go_ret
  exact ⟨by rw [hbe.out]; rfl, h2.ext (Ext.drN (Ext.rfl' _) _), (Mv.ofExt hx1).tr (hm2.tr (Mv.ofExt (Ext.drN (Ext.rfl' _) _)))⟩
end Go.Proofs.YtbaidlkjbdeceaaGreat
namespace Go.Proofs.YtbaidlkjbdeceaaGreat
set_option maxRecDepth 200000
open Go.ChangeShapes Go.WideShapes Go.ChangeAt Go.RowKit Go.Cul
set_option linter.unusedVariables false

theorem read1_idle (B Br Be : Nat) (v : Value) (w : World) (hr : w.cell? ⟨Br, 0, none⟩ = some (rp B)) (hc : w.cell? ⟨B, 2, none⟩ = some v) (hz : w.frozen? ⟨B, 2, none⟩ = false) :
    CallsD Tryz.prog 94 #[.pointer (some ⟨Br, 0, none⟩), .pointer (some ⟨Be, 0, none⟩)] .returning w fun e u' w' => e = .returned (.tuple #[]) ∧ u' = .returning ∧ w' = w.setCell ⟨B, 2, none⟩ (.bool false) := by
  refine callsD_of_wpS Tryz.func94 rfl fun c₀ cs hu => ?_
  apply wpS_seq
  apply wpS_region
  simp [wpOpsS, go_sem, recoverD, hu, hr, hc, hz, Tryz.ntmps94, Exit.thenS]
  apply wpS_seq
  apply wpS_region
  simp [wpOpsS, go_sem, recoverD, hu, Exit.thenS, Array.replicate]
  refine wpS_of_wp ?_
  go_wp2
  cases c₀
  simp_all [bodyPostS, results, Tryz.results94]

theorem read1_gone (B Br Be : Nat) (x : Int) (v ve : Value) (w : World) (hr : w.cell? ⟨Br, 0, none⟩ = some (rp B)) (hc : w.cell? ⟨B, 2, none⟩ = some v) (hz : w.frozen? ⟨B, 2, none⟩ = false)
    (he : w.cell? ⟨Be, 0, none⟩ = some ve) (hze : w.frozen? ⟨Be, 0, none⟩ = false) (hrB : Br ≠ B) (heB : Be ≠ B) :
    CallsD Tryz.prog 94 #[.pointer (some ⟨Br, 0, none⟩), .pointer (some ⟨Be, 0, none⟩)] (.panicking [{ v := gone B x, recovered := false }]) w fun e u' w' => e = .returned (.tuple #[]) ∧ u' = .panicking [{ v := gone B x, recovered := true }] ∧ ∃ o, w' = ((w.setCell ⟨B, 2, none⟩ (.bool false)).alloc o).setCell ⟨Be, 0, none⟩ (.int .i64 x) := by
  have hel : Be < w.heap.size := lt_of_cell he
  have hr' : (w.setCell ⟨B, 2, none⟩ (.bool false)).cell? ⟨Br, 0, none⟩ = some (rp B) := by rw [World.cell?_setCell_other _ _ _ _ (by intro h; cases h)]; exact hr
  have he' : (w.setCell ⟨B, 2, none⟩ (.bool false)).cell? ⟨Be, 0, none⟩ = some ve := by rw [World.cell?_setCell_other _ _ _ _ (by intro h; cases h)]; exact he
  have hze' : (w.setCell ⟨B, 2, none⟩ (.bool false)).frozen? ⟨Be, 0, none⟩ = false := by simpa using hze
  refine callsD_of_wpS Tryz.func94 rfl fun c₀ cs hu => ?_
  apply wpS_seq
  apply wpS_region
  simp [wpOpsS, go_sem, recoverD, hu, hr, hc, hz, Tryz.ntmps94, Exit.thenS]
  apply wpS_seq
  apply wpS_region
  simp [wpOpsS, go_sem, recoverD, hu, Exit.thenS, Array.replicate]
  refine wpS_of_wp ?_
  clear hr hc hz he hze
  simp only [gone, rp] at *
  generalize hW : w.setCell ⟨B, 2, none⟩ (.bool false) = W at hr' he' hze' ⊢
  have hxo := fun (o : Obj) => Ext.new W o
  have hra := fun (o : Obj) => (hxo o).cell hr'
  have hea := fun (o : Obj) => (hxo o).cell he'
  have hza : ∀ (o : Obj), (W.alloc o).frozen? ⟨Be, 0, none⟩ = false := fun o => by rw [Below.frozen (hxo o) (lt_of_cell he')]; exact hze'
  clear hxo hel hr' he' hze'
  have hta : ∀ (w : World) (V : Value), (Instr.typeAssert (.iface 127 V) 20 127 true).run Tryz.prog w = .ok (.tuple #[V, .bool true]) w := fun w V => by simp [Instr.typeAssert, go_sem]
  have hne : ∀ w : World, (binOp .neq 97 (.pointer (some ⟨B, 0, none⟩)) (.pointer (some ⟨B, 0, none⟩))).run Tryz.prog w = .ok (.bool false) w := fun w => Go.Lib.run_neq_ptr_same w ⟨B, 0, none⟩ (by rfl) (by rfl)
  go_wp2
  exact ⟨rfl, _, rfl, _, by simp [results, Tryz.results94], rfl, rfl, _, rfl⟩

/-- What Read leaves alone behind its closure: what was there when Read began, and what the closure made. -/
structure Out (w w1 w2 w' : World) : Prop where
  os : w'.os = w2.os
  tape : w'.tape = w2.tape
  output : w'.output = w2.output
  size : w2.heap.size ≤ w'.heap.size
  block : ∀ k, k < w2.heap.size → (k < w.heap.size ∨ w1.heap.size ≤ k) → w'.heap[k]? = w2.heap[k]?

/-- What Read asks of its closure: of what Read made, only the reader has turned. -/
structure In (w w1 : World) (B : Nat) (l : List Int) (w2 : World) : Prop where
  rdr : ∃ bv k, Rdr w2 B bv l k
  size : w1.heap.size ≤ w2.heap.size
  block : ∀ k, w.heap.size ≤ k → k < w1.heap.size → k ≠ B → w2.heap[k]? = w1.heap[k]?

theorem run_equalIn_func_nil {P : Program} (w : World) (d : Nat) (t : TypeId) (fn : Fn) (a b : Array Value) (x y : Array TypeId) (z : Bool) (h : P.underlying t = some (.func x y z)) : (Op.equalIn (d + 1) t (.func fn a b) .nilFunc).run P w = .ok false w := by
  simp [Op.equalIn, run_underlying h]

theorem run_eql_func_nil {P : Program} (w : World) (t : TypeId) (fn : Fn) (a b : Array Value) (x y : Array TypeId) (z : Bool) (h : P.underlying t = some (.func x y z)) : (binOp .eql t (.func fn a b) .nilFunc).run P w = .ok (.bool false) w := by
  have e : (Op.equal t (.func fn a b) .nilFunc).run P w = .ok false w := run_equalIn_func_nil w 9999 t fn a b x y z h
  simp only [binOp]
  simp [e]

/-- A slice that is empty, or lies in memory from a block on. -/
def Away (v : Value) (l : List Int) (base : Nat) : Prop := l = [] ∨ ∀ b o n c, v = .slice (some ⟨b, o, none⟩) n c → base ≤ b
theorem _root_.Go.Cul.Fr.away {w : World} {base : Nat} {e : TypeId} {k : IntKind} {v : Value} {l : List Int} (h : Fr w base e k v l) {base' : Nat} (hb : base' ≤ base) : Away v l base' := by
  rcases h with h | ⟨a, rfl, rfl⟩
  · rcases h.2 with ⟨rfl, h0⟩ | ⟨g, cap, cur, rfl, hg, hh, r⟩
    · left; exact List.eq_nil_of_length_eq_zero h0
    · right; intro b o n c he; cases he; omega
  · exact .inl rfl

theorem read_any (F : FuncId) (cap : Array Value) (bv : Value) (l : List Int) (w : World) (hv : Rd .u8 w bv l) (hn : l.length ≤ 140737488355328) (Q : World → Int → World → Prop)
    (hF : ∀ (args : Array Value) (w : World), (callFunc F args).run Tryz.prog w = .ok (.enter F args) w)
    (hdo : ∀ (B : Nat) (bu : Value) (w1 : World), Ext w w1 → w.heap.size ≤ B → Rdr w1 B bu l 0 → Away bu l w.heap.size → Calls Tryz.prog F (#[rp B] ++ cap) w1 fun x w2 => In w w1 B l w2 ∧ ((x = .returned (.tuple #[]) ∧ Q w1 0 w2) ∨ ∃ e, x = .panicked [{ v := gone B e, recovered := false }] ∧ Q w1 e w2)) :
    Calls Tryz.prog 65 #[bv, .func (.func F) #[] cap] w fun x w' => ∃ e w1 w2, x = .returned (.int .i64 e) ∧ Ext w w1 ∧ Q w1 e w2 ∧ Out w w1 w2 w' := by
  have hmf : ∀ (fn : Fn) (first cap : Array Value) (w : World), (Instr.makeFunc fn first cap).run Tryz.prog w = .ok (.func fn first cap) w := fun _ _ _ _ => rfl
  have hnf : ∀ w : World, (binOp .eql 109 (.func (.func F) #[] cap) .nilFunc).run Tryz.prog w = .ok (.bool false) w := fun w => run_eql_func_nil w _ _ _ _ _ _ _ (by rfl)
  go_enter_defers Tryz.func65, Tryz.ntmps65
  go_wp2_with fail
  refine (bclone_any _ l _ (hv.ext (Ext.new _ _)) hn).mono ?_
  rintro x w1 ⟨u, rfl, hu, hx1⟩
  have hu' := hu.rd
  obtain ⟨a, c, rfl, hc1, hc2, hr⟩ := hu'
  clear hr
  go_wp2_with fail
  have hBe : w1.cell? ⟨w.heap.size, 0, none⟩ = some (.int .i64 0) := hx1.cell (by simp [go_sem])
  have hx0 : Ext w w1 := Ext.tr (Ext.new _ _) hx1
  have hbe : w1.heap[w.heap.size]? = some (.cells #[.int .i64 0] 37) := hx1.block (heap_alloc_new _ _)
  have hs0 : w.heap.size < w1.heap.size := Nat.lt_of_lt_of_le (by simp) hx1.size
  generalize hW : ((w1.alloc (Obj.cells #[Value.slice a l.length c, Value.int IntKind.i64 0, Value.bool true] 129)).alloc (Obj.cells #[Value.pointer (some { block := w1.heap.size, off := 0 })] 97)) = W
  have hxW : Ext w1 W := hW ▸ Ext.tr (Ext.new _ _) (Ext.new _ _)
  have hblk : W.heap[w1.heap.size]? = some (.cells #[Value.slice a l.length c, Value.int IntKind.i64 0, Value.bool true] 129) := by rw [← hW]; exact (Ext.new _ _).block (heap_alloc_new w1 _)
  have hrb : W.heap[w1.heap.size + 1]? = some (.cells #[Value.pointer (some { block := w1.heap.size, off := 0 })] 97) := by
    rw [← hW]
    have h := heap_alloc_new (w1.alloc (Obj.cells #[Value.slice a l.length c, Value.int IntKind.i64 0, Value.bool true] 129)) (Obj.cells #[Value.pointer (some { block := w1.heap.size, off := 0 })] 97)
    rwa [World.size_alloc] at h
  have hsW : W.heap.size = w1.heap.size + 2 := by rw [← hW]; simp
  have hR : Rdr W w1.heap.size (.slice a l.length c) l 0 := ⟨hblk, hu.rd.ext hxW, by omega, hn⟩
  refine (hdo w1.heap.size _ W (Ext.tr hx0 hxW) (Nat.le_of_lt hs0) hR (hu.away (by simp))).mono ?_
  rintro x w2 ⟨hin, hcase⟩
  obtain ⟨bv2, k2, hr2⟩ := hin.rdr
  have hbr2 := hin.block (w1.heap.size + 1) (by omega) (by omega) (by omega)
  have hbe2 := hin.block w.heap.size (by omega) (by omega) (by omega)
  rw [hrb] at hbr2
  rw [hxW.block hbe] at hbe2
  have ce : w2.cell? ⟨w.heap.size, 0, none⟩ = some (.int .i64 0) := by simp [World.cell?, hbe2]
  have fe : w2.frozen? ⟨w.heap.size, 0, none⟩ = false := by simp [World.frozen?, hbe2]
  have cr : w2.cell? ⟨w1.heap.size + 1, 0, none⟩ = some (rp w1.heap.size) := by simp [World.cell?, hbr2]
  have c2 := hr2.c2
  have f2 := hr2.fz 2
  have hsz2 := hin.size
  have hQ : Ext w W := Ext.tr hx0 hxW
  rcases hcase with ⟨rfl, hq⟩ | ⟨e, rfl, hq⟩
  · go_wp2
    refine leaves_cons (f := 94) (args := #[.pointer (some ⟨w1.heap.size + 1, 0, none⟩), .pointer (some ⟨w.heap.size, 0, none⟩)]) (by simp) (by simp [go_sem]) ?_
    refine (read1_idle w1.heap.size (w1.heap.size + 1) w.heap.size (.bool true) _ ?_ ?_ ?_).mono ?_
    · rw [World.cell?_setCell_other _ _ _ _ (by intro h; have := congrArg Addr.block h; simp at this; omega)]; exact cr
    · rw [World.cell?_setCell_other _ _ _ _ (by intro h; have := congrArg Addr.block h; simp at this; omega)]; exact c2
    · simpa [go_sem] using f2
    rintro x u' w3 ⟨rfl, rfl, rfl⟩
    have h3 : ((w2.setCell ⟨w.heap.size, 0, none⟩ (.int .i64 0)).setCell ⟨w1.heap.size, 2, none⟩ (.bool false)).cell? ⟨w.heap.size, 0, none⟩ = some (.int .i64 0) := by
      rw [World.cell?_setCell_other _ _ _ _ (by intro h; have := congrArg Addr.block h; simp at this; omega)]
      exact World.cell?_setCell_same _ _ _ ce
    refine ⟨.int .i64 0, ?_, 0, W, w2, rfl, hQ, hq, ⟨rfl, rfl, rfl, by simp [World.setCell], fun k hk hk' => ?_⟩⟩
    · simp [results, Tryz.results65, go_sem, h3]
    · rw [Below.heap_setCell _ _ _ _ (by simp; omega), Below.heap_setCell _ _ _ _ (by simp; omega)]
  · refine leaves_cons (f := 94) (args := #[.pointer (some ⟨w1.heap.size + 1, 0, none⟩), .pointer (some ⟨w.heap.size, 0, none⟩)]) (by simp) (by simp [go_sem]) ?_
    refine (read1_gone w1.heap.size (w1.heap.size + 1) w.heap.size e (.bool true) (.int .i64 0) _ cr c2 f2 ce fe (by omega) (by omega)).mono ?_
    rintro x u' w3 ⟨rfl, rfl, o, rfl⟩
    have h3 : (((w2.setCell ⟨w1.heap.size, 2, none⟩ (.bool false)).alloc o).setCell ⟨w.heap.size, 0, none⟩ (.int .i64 e)).cell? ⟨w.heap.size, 0, none⟩ = some (.int .i64 e) := by
      refine World.cell?_setCell_same _ _ _ ((Ext.new _ o).cell (v := .int .i64 0) ?_)
      rw [World.cell?_setCell_other _ _ _ _ (by intro h; have := congrArg Addr.block h; simp at this; omega)]
      exact ce
    refine ⟨.int .i64 e, ?_, e, W, w2, rfl, hQ, hq, ⟨rfl, rfl, rfl, by simp [World.setCell], fun k hk hk' => ?_⟩⟩
    · simp [results, Tryz.results65, go_sem, h3]
    · rw [Below.heap_setCell _ _ _ _ (by simp; omega), Below.heap_alloc _ _ _ (by simp [World.setCell]; omega), Below.heap_setCell _ _ _ _ (by simp; omega)]
end Go.Proofs.YtbaidlkjbdeceaaGreat
namespace Go.Proofs.YtbaidlkjbdeceaaGreat
set_option maxRecDepth 200000
open Go.ChangeShapes Go.WideShapes Go.ChangeAt Go.RowKit Go.Cul
set_option linter.unusedVariables false

theorem _root_.Go.Cul.Mvs.ofMv {S : Nat → Prop} {B : Nat} {w w' : World} (h : Mv B w w') (hB : S B) : Mvs S w w' := ⟨h.os, h.tape, h.output, h.size, fun k hk hS => h.block k hk (fun e => hS (e ▸ hB))⟩
theorem Out.fr {w w1 w2 w' : World} (h : Out w w1 w2 w') {base : Nat} {e : TypeId} {k : IntKind} {v : Value} {l : List Int} (hf : Fr w2 base e k v l) (hb : w1.heap.size ≤ base) : Fr w' base e k v l := by
  rcases hf with hf | hf
  · left
    refine ⟨hf.1, ?_⟩
    rcases hf.2 with h0 | ⟨g, cap, cur, rfl, hg, hh, r⟩
    · exact .inl h0
    · exact .inr ⟨g, cap, cur, rfl, hg, (h.block g (lt_of_block hh) (.inr (Nat.le_trans hb hg))).trans hh, r⟩
  · exact .inr hf

theorem Rdr.mvs {S : Nat → Prop} {w w' : World} {B : Nat} {bv : Value} {l : List Int} {k : Nat} (h : Rdr w B bv l k) (hm : Mvs S w w') (hB : ¬ S B) {base : Nat} (ha : Away bv l base) (hS : ∀ k, S k → k < base) : Rdr w' B bv l k := by
  refine ⟨hm.keep h.blk hB, ?_, h.le, h.bound⟩
  obtain ⟨a, cap, rfl, h1, h2, h3⟩ := h.rd
  refine ⟨a, cap, rfl, h1, h2, ?_⟩
  rcases h3 with h3 | ⟨b, o, rfl, h3⟩
  · exact .inl h3
  · rcases ha with ha | ha
    · exact .inl ha
    · refine .inr ⟨b, o, rfl, fun i hi => ?_⟩
      have hb := ha _ _ _ _ rfl
      rw [World.cell?_of_block (w := w) (hm.block b (lt_of_cell (h3 i hi)) (fun hs => by have := hS b hs; omega))]
      exact h3 i hi

/-- wire.Read over a closure that turns the reader and some blocks S that were there before. -/
theorem read_cl (F : FuncId) (cap : Array Value) (bv : Value) (l : List Int) (w : World) (hv : Rd .u8 w bv l) (hn : l.length ≤ 140737488351232) (S : Nat → Prop) (hS : ∀ k, S k → k < w.heap.size) (Q : World → Int → World → Prop)
    (hF : ∀ (args : Array Value) (w : World), (callFunc F args).run Tryz.prog w = .ok (.enter F args) w)
    (hdo : ∀ (B : Nat) (bu : Value) (w1 : World), Ext w w1 → w.heap.size ≤ B → Rdr w1 B bu l 0 → Away bu l w.heap.size → Calls Tryz.prog F (#[rp B] ++ cap) w1 fun x w2 => Mvs (fun k => k = B ∨ S k) w1 w2 ∧ (∃ bv k, Rdr w2 B bv l k) ∧ ((x = .returned (.tuple #[]) ∧ Q w1 0 w2) ∨ ∃ e, x = .panicked [{ v := gone B e, recovered := false }] ∧ Q w1 e w2)) :
    Calls Tryz.prog 65 #[bv, .func (.func F) #[] cap] w fun x w' => ∃ e w1 w2, x = .returned (.int .i64 e) ∧ Ext w w1 ∧ Q w1 e w2 ∧ Out w w1 w2 w' ∧ Mvs S w w' := by
  refine (read_any F cap bv l w hv (by omega) (fun w1 e w2 => Q w1 e w2 ∧ ∃ B, w.heap.size ≤ B ∧ Mvs (fun k => k = B ∨ S k) w1 w2) hF ?_).mono ?_
  · intro B bu w1 hx hB hR hA
    refine (hdo B bu w1 hx hB hR hA).mono ?_
    rintro x w2 ⟨hm, hr, hc⟩
    refine ⟨⟨hr, hm.size, fun k hk hk1 hkB => hm.block k hk1 (fun h => ?_)⟩, ?_⟩
    · rcases h with h | h
      · exact hkB h
      · have := hS k h; omega
    · rcases hc with ⟨h1, h2⟩ | ⟨e, h1, h2⟩
      · exact .inl ⟨h1, h2, B, hB, hm⟩
      · exact .inr ⟨e, h1, h2, B, hB, hm⟩
  · rintro x w' ⟨e, w1, w2, h1, h2, ⟨h3, B, hB, hm⟩, h4⟩
    refine ⟨e, w1, w2, h1, h2, h3, h4, h4.os.trans (hm.os.trans h2.os), h4.tape.trans (hm.tape.trans h2.tape), h4.output.trans (hm.output.trans h2.output), Nat.le_trans h2.size (Nat.le_trans hm.size h4.size), fun k hk hS' => ?_⟩
    have hk1 : k < w1.heap.size := Nat.lt_of_lt_of_le hk h2.size
    rw [h4.block k (Nat.lt_of_lt_of_le hk1 hm.size) (.inl hk), hm.block k hk1 (fun h => by rcases h with h | h; (· omega); exact hS' h)]
    exact Below.block h2 k hk
end Go.Proofs.YtbaidlkjbdeceaaGreat
