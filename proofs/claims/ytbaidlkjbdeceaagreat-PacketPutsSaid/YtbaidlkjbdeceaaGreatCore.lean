/-
  Proved here: small laws on worlds that grow, and on slices of integers that are read. No program in sight.
  Proved here: laws on worlds of which only some blocks have turned. No program in sight.
  Proved here: small laws on the model's bit operations at unsigned kinds: not, and with a mask, or of parts that lie apart. No program in sight.
  Proved here: plain laws on the internet checksum over lists of integers. No program in sight.
  Proved here: append onto a slice of integers that the call itself made, from any source that reads as integers (nil and empty too). Over any program.
  Proved here: make of integers, and stores into a slice that the call itself made. Over any program.
  Proved here: append onto any slice of integers that has no room, from any source. Over any program.
  Proved here: a slice of bytes turned into a string. Over any program.
  Proved here: append of so many zeros ('append(b, make([]T, n)...)') onto a slice of integers that the call itself made. Over any program.
  Proved here: copy into a slice of integers that the call itself made. Over any program.
-/
import Derived.WalkKit
import Derived.ProofKit
import Derived.OneCell
import Derived.WalkSmall
import Derived.Lib.Hide
import Derived.IntWalk
import Derived.Maps.AppendAt
import Derived.ArgAppend
import Derived.Lib.AppendZeros
import Derived.Laws.CopyRow
import Derived.Laws.CopyOwn
namespace Go.Cul
open Go Go.RowKit

/-- The world has grown: what was there is there. -/
abbrev Ext (w w' : World) : Prop := Below w.heap.size w w'

theorem Ext.rfl' (w : World) : Ext w w := Below.refl _ _
theorem Ext.tr {a b c : World} (h : Ext a b) (k : Ext b c) : Ext a c := Below.trans h (k.mono h.size)
theorem Ext.draw (w : World) : Ext w { w with drawn := w.drawn + 1 } := ⟨rfl, rfl, rfl, Nat.le_refl _, fun _ _ => rfl⟩

theorem lt_of_cell {w : World} {a : Addr} {v : Value} (h : w.cell? a = some v) : a.block < w.heap.size := by
  rcases Nat.lt_or_ge a.block w.heap.size with h' | h'
  · exact h'
  · simp [World.cell?, Array.getElem?_eq_none h'] at h

theorem Ext.cell {w w' : World} (h : Ext w w') {a : Addr} {v : Value} (hc : w.cell? a = some v) : w'.cell? a = some v := by
  rw [Below.cell h (lt_of_cell hc)]; exact hc

theorem Ext.block {w w' : World} (h : Ext w w') {b : Nat} {o : Obj} (hc : w.heap[b]? = some o) : w'.heap[b]? = some o := by
  rw [Below.block h b (lt_of_block hc)]; exact hc

/-- A slice of integers of kind k that reads as l. -/
def Rd (k : IntKind) (w : World) (v : Value) (l : List Int) : Prop :=
  ∃ a cap, v = .slice a l.length cap ∧ l.length ≤ cap ∧ cap ≤ maxLen ∧
    (l = [] ∨ ∃ b o, a = some ⟨b, o, none⟩ ∧ ∀ i, i < l.length → w.cell? ⟨b, o + i, none⟩ = some (.int k (l.getD i 0)))

theorem Rd.ext {k : IntKind} {w w' : World} {v : Value} {l : List Int} (h : Rd k w v l) (hx : Ext w w') : Rd k w' v l := by
  obtain ⟨a, cap, rfl, h1, h2, h3⟩ := h
  refine ⟨a, cap, rfl, h1, h2, ?_⟩
  rcases h3 with h3 | ⟨b, o, rfl, h3⟩
  · exact .inl h3
  · exact .inr ⟨b, o, rfl, fun i hi => hx.cell (h3 i hi)⟩

theorem Rd.nil (k : IntKind) (w : World) : Rd k w (.slice none 0 0) [] := ⟨none, 0, rfl, Nat.le_refl _, by decide, .inl rfl⟩

theorem Rd.len {k : IntKind} {w : World} {v : Value} {l : List Int} (h : Rd k w v l) : l.length ≤ maxLen := by
  obtain ⟨a, cap, rfl, h1, h2, h3⟩ := h; omega

/-- A slice of slices of bytes. -/
def Rds (k : IntKind) (w : World) (v : Value) (ls : List (List Int)) : Prop :=
  ∃ a cap, v = .slice a ls.length cap ∧ ls.length ≤ cap ∧ cap ≤ maxLen ∧
    (ls = [] ∨ ∃ b o, a = some ⟨b, o, none⟩ ∧ ∀ i, i < ls.length → ∃ u, w.cell? ⟨b, o + i, none⟩ = some u ∧ Rd k w u (ls.getD i []))

theorem Rds.ext {k : IntKind} {w w' : World} {v : Value} {ls : List (List Int)} (h : Rds k w v ls) (hx : Ext w w') : Rds k w' v ls := by
  obtain ⟨a, cap, rfl, h1, h2, h3⟩ := h
  refine ⟨a, cap, rfl, h1, h2, ?_⟩
  rcases h3 with h3 | ⟨b, o, rfl, h3⟩
  · exact .inl h3
  · exact .inr ⟨b, o, rfl, fun i hi => let ⟨u, h4, h5⟩ := h3 i hi; ⟨u, hx.cell h4, h5.ext hx⟩⟩

/-- Bytes. -/
def Byt (l : List Int) : Prop := ∀ x ∈ l, 0 ≤ x ∧ x ≤ 255

theorem Byt.at {l : List Int} (h : Byt l) (i : Nat) : 0 ≤ l.getD i 0 ∧ l.getD i 0 ≤ 255 := by
  by_cases hi : i < l.length
  · have : l.getD i 0 = l[i] := by simp [List.getD, hi]
    rw [this]; exact h _ (List.getElem_mem hi)
  · have : l.getD i 0 = 0 := by simp [List.getD, List.getElem?_eq_none (show l.length ≤ i by omega)]
    rw [this]; decide

theorem Byt.app {l r : List Int} (h : Byt l) (h' : Byt r) : Byt (l ++ r) := by
  intro x hx; rcases List.mem_append.1 hx with hx | hx
  · exact h x hx
  · exact h' x hx
theorem Byt.take {l : List Int} (h : Byt l) (n : Nat) : Byt (l.take n) := fun x hx => h x (List.mem_of_mem_take hx)
theorem Byt.drop {l : List Int} (h : Byt l) (n : Nat) : Byt (l.drop n) := fun x hx => h x (List.mem_of_mem_drop hx)

theorem take_succ_getD (l : List Int) (i : Nat) (h : i < l.length) : l.take (i + 1) = l.take i ++ [l.getD i 0] := by
  rw [List.take_succ_eq_append_getElem h]; simp [List.getD, h]
theorem take_succ_getD' {α : Type} (d : α) (l : List α) (i : Nat) (h : i < l.length) : l.take (i + 1) = l.take i ++ [l.getD i d] := by
  rw [List.take_succ_eq_append_getElem h]; simp [List.getD, h]

theorem ret_int {k : IntKind} {a b : Int} (h : a = b) : Ending.returned (.int k a) = .returned (.int k b) := by rw [h]
theorem ret_bool {a b : Bool} (h : a = b) : Ending.returned (.bool a) = .returned (.bool b) := by rw [h]

theorem Ext.al {a b : World} (h : Ext a b) (o : Obj) : Ext a (b.alloc o) := Below.alloc h h.size o
theorem Ext.dr {a b : World} (h : Ext a b) : Ext a b.drew := Below.drew h
theorem Ext.new (a : World) (o : Obj) : Ext a (a.alloc o) := (Ext.rfl' a).al o

theorem cell_new (w : World) (C : Array Value) (t : TypeId) (i : Nat) : (w.alloc (.cells C t)).cell? ⟨w.heap.size, i, none⟩ = C[i]? := by
  have h := heap_alloc_new w (.cells C t)
  simp only [World.cell?, h]
  rfl

/-- A slice of integers that has just been built. -/
theorem rd_new (k : IntKind) (w : World) (C : Array Value) (t : TypeId) (l : List Int) {B n m : Nat} (hB : w.heap.size = B) (hn : l.length = n) (hm : l.length = m) (hC : C = (l.map (Value.int k)).toArray) (hl : l.length ≤ maxLen) : Rd k (w.alloc (.cells C t)) (.slice (some ⟨B, 0, none⟩) n m) l := by
  subst hB hn hm
  refine ⟨_, _, rfl, Nat.le_refl _, hl, .inr ⟨_, _, rfl, fun i hi => ?_⟩⟩
  rw [Nat.zero_add, cell_new, hC]
  simp [List.getD, hi]

theorem rds_one {k : IntKind} {w : World} {u : Value} {l : List Int} {t : TypeId} {B : Nat} (h : Rd k w u l) (hB : w.heap.size = B) : Rds k (w.alloc (.cells #[u] t)) (.slice (some ⟨B, 0, none⟩) 1 1) [l] := by
  subst hB
  refine ⟨_, _, rfl, Nat.le_refl _, by decide, .inr ⟨_, _, rfl, fun i hi => ?_⟩⟩
  have : i = 0 := by simpa using hi
  subst this
  exact ⟨u, by rw [Nat.zero_add, cell_new]; rfl, h.ext (Ext.new _ _)⟩

theorem rds_two {k : IntKind} {w : World} {u v : Value} {l r : List Int} {t : TypeId} {B : Nat} (h : Rd k w u l) (h' : Rd k w v r) (hB : w.heap.size = B) : Rds k (w.alloc (.cells #[u, v] t)) (.slice (some ⟨B, 0, none⟩) 2 2) [l, r] := by
  subst hB
  refine ⟨_, _, rfl, Nat.le_refl _, by decide, .inr ⟨_, _, rfl, fun i hi => ?_⟩⟩
  have hi : i < 2 := by simpa using hi
  rcases (by omega : i = 0 ∨ i = 1) with rfl | rfl
  · exact ⟨u, by rw [Nat.zero_add, cell_new]; rfl, h.ext (Ext.new _ _)⟩
  · exact ⟨v, by rw [Nat.zero_add, cell_new]; rfl, h'.ext (Ext.new _ _)⟩

theorem rds_nil (k : IntKind) (w : World) : Rds k w (.slice none 0 0) [] := ⟨none, 0, rfl, Nat.le_refl _, by decide, .inl rfl⟩

/-- Bytes, as a test. -/
def bytB (l : List Int) : Bool := l.all fun x => decide (0 ≤ x) && decide (x ≤ 255)
theorem byt_of {l : List Int} (h : bytB l = true) : Byt l := by
  intro x hx
  have := List.all_eq_true.1 h x hx
  simpa using this

end Go.Cul
namespace Go.Cul
open Go Go.RowKit
set_option linter.unusedVariables false

/-- As it was, but for the blocks of S and what is new. -/
structure Mvs (S : Nat → Prop) (w w' : World) : Prop where
  os : w'.os = w.os
  tape : w'.tape = w.tape
  output : w'.output = w.output
  size : w.heap.size ≤ w'.heap.size
  block : ∀ k, k < w.heap.size → ¬ S k → w'.heap[k]? = w.heap[k]?

theorem Mvs.refl (S : Nat → Prop) (w : World) : Mvs S w w := ⟨rfl, rfl, rfl, Nat.le_refl _, fun _ _ _ => rfl⟩
theorem Mvs.tr {S : Nat → Prop} {a b c : World} (h : Mvs S a b) (k : Mvs S b c) : Mvs S a c :=
  ⟨k.os.trans h.os, k.tape.trans h.tape, k.output.trans h.output, Nat.le_trans h.size k.size, fun i hi hS => (k.block i (Nat.lt_of_lt_of_le hi h.size) hS).trans (h.block i hi hS)⟩
theorem Mvs.ofExt {S : Nat → Prop} {w w' : World} (h : Ext w w') : Mvs S w w' := ⟨h.os, h.tape, h.output, h.size, fun k hk _ => Below.block h k hk⟩
theorem Mvs.set {S : Nat → Prop} (w : World) (a : Addr) (u : Value) (hS : S a.block) : Mvs S w (w.setCell a u) :=
  ⟨rfl, rfl, rfl, by simp [World.setCell], fun k _ hk => Below.heap_setCell _ _ _ _ (fun e => hk (e ▸ hS))⟩
theorem Mvs.ext {S : Nat → Prop} {w w' : World} (h : Mvs S w w') {w0 : World} (h0 : Ext w0 w) (hS : ∀ k, S k → w0.heap.size ≤ k) : Ext w0 w' :=
  ⟨h.os.trans h0.os, h.tape.trans h0.tape, h.output.trans h0.output, Nat.le_trans h0.size h.size, fun k hk => (h.block k (Nat.lt_of_lt_of_le hk h0.size) (fun hs => by have := hS k hs; omega)).trans (Below.block h0 k hk)⟩
theorem Mvs.keep {S : Nat → Prop} {w w' : World} (h : Mvs S w w') {k : Nat} {o : Obj} (hk : w.heap[k]? = some o) (hS : ¬ S k) : w'.heap[k]? = some o := (h.block k (lt_of_block hk) hS).trans hk
theorem Mvs.mono {S S' : Nat → Prop} {w w' : World} (h : Mvs S w w') (hS : ∀ k, k < w.heap.size → S k → S' k) : Mvs S' w w' := ⟨h.os, h.tape, h.output, h.size, fun k hk hn => h.block k hk (fun hs => hn (hS k hk hs))⟩

theorem cell_blk {w : World} {b : Nat} {C : Array Value} {t : TypeId} (h : w.heap[b]? = some (.cells C t)) (i : Nat) : w.cell? ⟨b, i, none⟩ = C[i]? := by
  simp only [World.cell?, h]; rfl
theorem fz_blk {w : World} {b : Nat} {C : Array Value} {t : TypeId} (h : w.heap[b]? = some (.cells C t)) (i : Nat) : w.frozen? ⟨b, i, none⟩ = false := by
  simp [World.frozen?, h]
theorem set_blk {w : World} {b : Nat} {C : Array Value} {t : TypeId} (h : w.heap[b]? = some (.cells C t)) (i : Nat) (u : Value) : (w.setCell ⟨b, i, none⟩ u).heap[b]? = some (.cells (C.setIfInBounds i u) t) := by
  simp [World.setCell, Array.getElem?_modify, h]
theorem Rd.shape {k : IntKind} {w : World} {v : Value} {l : List Int} (h : Rd k w v l) : ∃ a n c, v = .slice a n c := by
  obtain ⟨a, c, rfl, -, -, -⟩ := h; exact ⟨a, _, c, rfl⟩
theorem fz_of {w : World} {b : Nat} {C : Array Value} {t : TypeId} (h : w.heap[b]? = some (.cells C t)) (i : Nat) : w.frozen? ⟨b, i, none⟩ = false := fz_blk h i
theorem set_oth {w : World} {b k : Nat} {o : Obj} (h : w.heap[k]? = some o) (hk : k ≠ b) (i : Nat) (u : Value) : (w.setCell ⟨b, i, none⟩ u).heap[k]? = some o := by
  rw [Below.heap_setCell _ _ _ _ hk]; exact h
theorem heap_alloc_at (w : World) (o : Obj) (k : Nat) : (w.alloc o).heap[k]? = if k = w.heap.size then some o else w.heap[k]? := by
  show (w.heap.push o)[k]? = _
  rw [Array.getElem?_push]
theorem new_blk (w : World) (o : Obj) {B : Nat} (h : w.heap.size = B) : (w.alloc o).heap[B]? = some o := by subst h; exact heap_alloc_new w o

end Go.Cul
namespace Go.Cul
open Go

theorem nat_not (n x : Nat) (h : x < 2 ^ n) : (2 ^ n - 1) ^^^ x = 2 ^ n - 1 - x := by
  apply Nat.eq_of_testBit_eq
  intro i
  rw [Nat.testBit_xor, Nat.testBit_two_pow_sub_one, show 2 ^ n - 1 - x = 2 ^ n - (x + 1) from by omega, Nat.testBit_two_pow_sub_succ h]
  by_cases hi : i < n
  · simp [hi]
  · have : x.testBit i = false := Nat.testBit_lt_two_pow (Nat.lt_of_lt_of_le h (Nat.pow_le_pow_right (by decide) (by omega)))
    simp [hi, this]

theorem not_u8 (x : Int) (h : 0 ≤ x) (h' : x ≤ 255) : bits BinOp.xor IntKind.u8 IntKind.u8.max x = 255 - x := by
  have := u8_xor 255 x (by decide) (by decide) h (by omega)
  rw [show IntKind.u8.max = (255 : Int) from rfl, this, show (255 : Int).toNat = 2 ^ 8 - 1 from rfl, nat_not 8 x.toNat (by omega)]
  omega
theorem not_u16 (x : Int) (h : 0 ≤ x) (h' : x ≤ 65535) : bits BinOp.xor IntKind.u16 IntKind.u16.max x = 65535 - x := by
  have := u16_xor 65535 x (by decide) (by decide) h (by omega)
  rw [show IntKind.u16.max = (65535 : Int) from rfl, this, show (65535 : Int).toNat = 2 ^ 16 - 1 from rfl, nat_not 16 x.toNat (by omega)]
  omega

/-- 'x | y' where x is a multiple of 2^i and y lies below it. -/
theorem nat_join (i x y : Nat) (hx : x % 2 ^ i = 0) (hy : y < 2 ^ i) : x ||| y = x + y := by
  obtain ⟨q, rfl⟩ : ∃ q, x = 2 ^ i * q := ⟨x / 2 ^ i, by have := Nat.div_add_mod x (2 ^ i); omega⟩
  rw [Nat.two_pow_add_eq_or_of_lt hy]

theorem or8_u16 (x y : Int) (h : 0 ≤ x) (h' : x ≤ 255) (hy : 0 ≤ y) (hy' : y ≤ 255) : bits BinOp.or IntKind.u16 (x * 256) y = x * 256 + y := by
  rw [u16_or _ _ (by omega) (by omega) hy (by omega), nat_join 8 _ _ (by omega) (by omega)]
  omega
theorem mask16_u64 (x : Int) (h : 0 ≤ x) (h' : x ≤ 18446744073709551615) : bits BinOp.and IntKind.u64 x 65535 = x % 65536 := by
  have h := u64_and x 65535 (by omega) (by omega) (by decide) (by decide)
  rw [show (65535 : Int).toNat = 2 ^ 16 - 1 from rfl, Nat.and_two_pow_sub_one_eq_mod] at h
  rw [h]; omega
theorem mask16_u32 (x : Int) (h : 0 ≤ x) (h' : x ≤ 4294967295) : bits BinOp.and IntKind.u32 x 65535 = x % 65536 := by
  have h := u32_and x 65535 (by omega) (by omega) (by decide) (by decide)
  rw [show (65535 : Int).toNat = 2 ^ 16 - 1 from rfl, Nat.and_two_pow_sub_one_eq_mod] at h
  rw [h]; omega
end Go.Cul
namespace Go.Cul
set_option linter.unusedVariables false

/-- A number as 16 bits: what is above is added below. -/
def fold16 (n : Int) : Int := if n = 0 then 0 else 1 + (n - 1) % 65535
theorem fold16_bd {n : Int} (h : 0 ≤ n) : 0 ≤ fold16 n ∧ fold16 n ≤ 65535 := by unfold fold16; split <;> omega
theorem fold16_small {n : Int} (h : 0 ≤ n) (h' : n ≤ 65535) : fold16 n = n := by unfold fold16; split <;> omega
theorem fold16_step {n : Int} (h : 0 ≤ n) : fold16 (n % 65536 + n / 65536) = fold16 n := by unfold fold16; split <;> split <;> omega
theorem fold16_add_l {a b : Int} (ha : 0 ≤ a) (hb : 0 ≤ b) : fold16 (fold16 a + b) = fold16 (a + b) := by unfold fold16; split <;> split <;> split <;> omega
theorem fold16_add_r {a b : Int} (ha : 0 ≤ a) (hb : 0 ≤ b) : fold16 (a + fold16 b) = fold16 (a + b) := by rw [Int.add_comm, fold16_add_l hb ha, Int.add_comm]

/-- The weight of a byte at a place. -/
def wt (c : Int) (i : Nat) : Int := if i % 2 = 0 then c * 256 else c
/-- The weight of bytes that begin at a place. -/
def weigh : Nat → List Int → Int
  | _, [] => 0
  | i, c :: r => wt c i + weigh (i + 1) r

theorem weigh_app (i : Nat) (l r : List Int) : weigh i (l ++ r) = weigh i l + weigh (i + l.length) r := by
  induction l generalizing i with
  | nil => simp [weigh]
  | cons c l ih => simp only [List.cons_append, weigh, ih, List.length_cons]; rw [show i + 1 + l.length = i + (l.length + 1) from by omega]; omega
theorem weigh_snoc (i : Nat) (l : List Int) (c : Int) : weigh i (l ++ [c]) = weigh i l + wt c (i + l.length) := by rw [weigh_app]; simp [weigh]
theorem wt_bd {c : Int} (h : 0 ≤ c) (h' : c ≤ 255) (i : Nat) : 0 ≤ wt c i ∧ wt c i ≤ 65280 := by unfold wt; split <;> omega
theorem weigh_bd : ∀ (i : Nat) (l : List Int), (∀ x ∈ l, 0 ≤ x ∧ x ≤ 255) → 0 ≤ weigh i l ∧ weigh i l ≤ 65280 * l.length
  | _, [], _ => by simp [weigh]
  | i, c :: l, h => by
    have h1 := weigh_bd (i + 1) l (fun x hx => h x (List.mem_cons_of_mem _ hx))
    have h2 := h c (List.mem_cons_self ..)
    have h3 := wt_bd h2.1 h2.2 i
    simp only [weigh, List.length_cons]
    omega
theorem weigh_par (i j : Nat) (l : List Int) (h : i % 2 = j % 2) : weigh i l = weigh j l := by
  induction l generalizing i j with
  | nil => rfl
  | cons c l ih => simp only [weigh, wt, h]; rw [ih (i + 1) (j + 1) (by omega)]

/-- The sum of bytes. -/
def csum (l : List Int) : Int := fold16 (weigh 0 l)
theorem csum_bd {l : List Int} (h : ∀ x ∈ l, 0 ≤ x ∧ x ≤ 255) : 0 ≤ csum l ∧ csum l ≤ 65535 := fold16_bd (weigh_bd 0 l h).1

/-- A word turned: field, was, is. -/
def cword (f a b : Int) : Int := 65535 - fold16 ((65535 - f) + (65535 - a) + b)
theorem cword_bd {f a b : Int} (h : 0 ≤ f) (h' : f ≤ 65535) (ha : 0 ≤ a) (ha' : a ≤ 65535) (hb : 0 ≤ b) : 0 ≤ cword f a b ∧ cword f a b ≤ 65535 := by
  have := fold16_bd (n := (65535 - f) + (65535 - a) + b) (by omega); unfold cword; omega

theorem getD_lt {l : List Int} {i : Nat} (h : i < l.length) : l.take (i + 1) = l.take i ++ [l.getD i 0] := by
  rw [List.take_succ_eq_append_getElem h]; simp [List.getD, h]
theorem getD_ge {l : List Int} {i : Nat} (h : l.length ≤ i) : l.getD i 0 = 0 := by simp [List.getD, List.getElem?_eq_none h]

theorem weigh_two {l : List Int} {i : Nat} (he : i % 2 = 0) (h : i < l.length) : weigh 0 (l.take (i + 2)) = weigh 0 (l.take i) + (l.getD i 0 * 256 + l.getD (i + 1) 0) := by
  by_cases h1 : i + 1 < l.length
  · rw [getD_lt h1, getD_lt h, weigh_snoc, weigh_snoc]
    simp only [List.length_append, List.length_take, List.length_cons, List.length_nil, Nat.min_eq_left (Nat.le_of_lt h)]
    unfold wt
    rw [if_pos (by omega), if_neg (by omega)]
    omega
  · rw [getD_ge (l := l) (i := i + 1) (by omega), show l.take (i + 2) = l.take (i + 1) from by rw [List.take_of_length_le (by omega), List.take_of_length_le (by omega)], getD_lt h, weigh_snoc]
    simp only [List.length_take, Nat.min_eq_left (Nat.le_of_lt h)]
    unfold wt
    rw [if_pos (by omega)]
    omega

theorem csum_two {l : List Int} {i : Nat} (hb : ∀ x ∈ l, 0 ≤ x ∧ x ≤ 255) (h0 : 0 ≤ l.getD i 0) (h1 : 0 ≤ l.getD (i + 1) 0) (he : i % 2 = 0) (h : i < l.length) :
    csum (l.take (i + 2)) = fold16 (csum (l.take i) + (l.getD i 0 * 256 + l.getD (i + 1) 0)) := by
  unfold csum
  rw [weigh_two he h, fold16_add_l (weigh_bd 0 _ (fun x hx => hb x (List.mem_of_mem_take hx))).1 (by omega)]

/-- Are two fields the same, 0 and ffff being one? -/
def like (a b : Int) : Bool := decide (a = b ∨ (a = 0 ∧ b = 65535) ∨ (a = 65535 ∧ b = 0))

theorem fold16_mod {n : Int} (h : 0 ≤ n) : fold16 n % 65535 = n % 65535 := by unfold fold16; split <;> omega
theorem cword_mod {f a b : Int} (h : 0 ≤ f) (h' : f ≤ 65535) (ha : 0 ≤ a) (ha' : a ≤ 65535) (hb : 0 ≤ b) : cword f a b % 65535 = (f + a - b) % 65535 := by
  have h1 := fold16_mod (n := (65535 - f) + (65535 - a) + b) (by omega)
  unfold cword
  omega
theorem like_of_mod {x y : Int} (h0 : 0 ≤ x) (h1 : x ≤ 65535) (h2 : 0 ≤ y) (h3 : y ≤ 65535) (h : x % 65535 = y % 65535) : like x y = true := by
  unfold like
  rw [decide_eq_true_eq]
  omega
theorem mod_of_like {x y : Int} (h : like x y = true) : x % 65535 = y % 65535 := by
  unfold like at h
  rw [decide_eq_true_eq] at h
  omega
/-- Four bytes turned. -/
def clong (f a b : Int) : Int := cword (cword f (a / 65536) (b / 65536)) (a % 65536) (b % 65536)
theorem clong_bd {f a b : Int} (hf : 0 ≤ f ∧ f ≤ 65535) (ha : 0 ≤ a ∧ a ≤ 4294967295) (hb : 0 ≤ b ∧ b ≤ 4294967295) : 0 ≤ clong f a b ∧ clong f a b ≤ 65535 := by
  have h1 := cword_bd (f := f) (a := a / 65536) (b := b / 65536) hf.1 hf.2 (by omega) (by omega) (by omega)
  exact cword_bd h1.1 h1.2 (by omega) (by omega) (by omega)
theorem clong_mod {f a b : Int} (hf : 0 ≤ f ∧ f ≤ 65535) (ha : 0 ≤ a ∧ a ≤ 4294967295) (hb : 0 ≤ b ∧ b ≤ 4294967295) : clong f a b % 65535 = (f + a - b) % 65535 := by
  have h1 := cword_bd (f := f) (a := a / 65536) (b := b / 65536) hf.1 hf.2 (by omega) (by omega) (by omega)
  have h2 := cword_mod (f := f) (a := a / 65536) (b := b / 65536) hf.1 hf.2 (by omega) (by omega) (by omega)
  have h3 := cword_mod (f := cword f (a / 65536) (b / 65536)) (a := a % 65536) (b := b % 65536) h1.1 h1.2 (by omega) (by omega) (by omega)
  unfold clong
  omega

theorem like_same {f a : Int} (hf : 0 ≤ f ∧ f ≤ 65535) (ha : 0 ≤ a ∧ a ≤ 65535) : like (cword f a a) f = true := by
  have h1 := cword_bd hf.1 hf.2 ha.1 ha.2 ha.1
  have h2 := cword_mod hf.1 hf.2 ha.1 ha.2 ha.1
  exact like_of_mod h1.1 h1.2 hf.1 hf.2 (by omega)
theorem like_back {f a b : Int} (hf : 0 ≤ f ∧ f ≤ 65535) (ha : 0 ≤ a ∧ a ≤ 65535) (hb : 0 ≤ b ∧ b ≤ 65535) : like (cword (cword f a b) b a) f = true := by
  have h1 := cword_bd hf.1 hf.2 ha.1 ha.2 hb.1
  have h2 := cword_mod hf.1 hf.2 ha.1 ha.2 hb.1
  have h3 := cword_bd h1.1 h1.2 hb.1 hb.2 ha.1
  have h4 := cword_mod h1.1 h1.2 hb.1 hb.2 ha.1
  exact like_of_mod h3.1 h3.2 hf.1 hf.2 (by omega)
theorem like_long_back {f a b : Int} (hf : 0 ≤ f ∧ f ≤ 65535) (ha : 0 ≤ a ∧ a ≤ 4294967295) (hb : 0 ≤ b ∧ b ≤ 4294967295) : like (clong (clong f a b) b a) f = true := by
  have h1 := clong_bd hf ha hb
  have h2 := clong_mod hf ha hb
  have h3 := clong_bd h1 hb ha
  have h4 := clong_mod h1 hb ha
  exact like_of_mod h3.1 h3.2 hf.1 hf.2 (by omega)
theorem like_long_words {f a b : Int} (hf : 0 ≤ f ∧ f ≤ 65535) (ha : 0 ≤ a ∧ a ≤ 4294967295) (hb : 0 ≤ b ∧ b ≤ 4294967295) :
    like (clong f a b) (cword (cword f (a % 65536) (b % 65536)) (a / 65536) (b / 65536)) = true := by
  have h1 := clong_bd hf ha hb
  have h2 := clong_mod hf ha hb
  have h3 := cword_bd (f := f) (a := a % 65536) (b := b % 65536) hf.1 hf.2 (by omega) (by omega) (by omega)
  have h4 := cword_mod (f := f) (a := a % 65536) (b := b % 65536) hf.1 hf.2 (by omega) (by omega) (by omega)
  have h5 := cword_bd (f := cword f (a % 65536) (b % 65536)) (a := a / 65536) (b := b / 65536) h3.1 h3.2 (by omega) (by omega) (by omega)
  have h6 := cword_mod (f := cword f (a % 65536) (b % 65536)) (a := a / 65536) (b := b / 65536) h3.1 h3.2 (by omega) (by omega) (by omega)
  exact like_of_mod h1.1 h1.2 h5.1 h5.2 (by rw [h2, h6]; clear h2 h6 h5; omega)

end Go.Cul
namespace Go.Cul
open Go Go.RowKit
set_option linter.unusedVariables false

/-- t is a slice type of integers of kind k, each of so many bytes. -/
structure IS (P : Program) (k : IntKind) (t e : TypeId) (bytes : Nat) : Prop where
  ht : P.underlying t = some (.slice e)
  he : P.underlying e = some (.int k)
  hi : ∃ i, P.info? e = some i ∧ i.zero = some (.int k 0) ∧ i.size = 1 ∧ i.bytes = bytes

/-- The call's own slice, whose numbers are l. -/
def Own (w : World) (base : Nat) (e : TypeId) (k : IntKind) (v : Value) (l : List Int) : Prop := w.ownsRow base e 1 v l.length (l.map (Value.int k))

theorem Own.rd {w : World} {base : Nat} {e : TypeId} {k : IntKind} {v : Value} {l : List Int} (h : Own w base e k v l) : Rd k w v l := by
  rcases h.2 with ⟨rfl, h0⟩ | ⟨g, cap, cur, rfl, hb, hh, hn, hm, hsz, htake⟩
  · have : l = [] := List.eq_nil_of_length_eq_zero h0
    subst this
    exact Rd.nil k w
  · refine ⟨_, _, rfl, hn, hm, .inr ⟨_, _, rfl, fun i hi => ?_⟩⟩
    rw [Nat.zero_add, cell_of_row w g i cur e (0, 0) hh]
    have h1 : (cur.toList.take (l.length * 1))[i]? = (l.map (Value.int k))[i]? := by rw [htake]
    rw [Nat.mul_one, List.getElem?_take, if_pos hi] at h1
    simp [List.getD, hi] at h1 ⊢
    exact h1

theorem Own.nil (w : World) (base : Nat) (e : TypeId) (k : IntKind) : Own w base e k (.slice none 0 0) [] := ⟨rfl, .inl ⟨rfl, rfl⟩⟩

theorem Own.block {w : World} {base : Nat} {e : TypeId} {k : IntKind} {v : Value} {l : List Int} (h : Own w base e k v l) : ∀ j, v.ownBlock = some j → base ≤ j ∧ j < w.heap.size := World.ownsRow.lt h

/-- An owned slice stays while other blocks are made or written. -/
theorem Own.kept {w w' : World} {base : Nat} {e : TypeId} {k : IntKind} {v : Value} {l : List Int} (h : Own w base e k v l) (hx : Ext w w') : Own w' base e k v l := by
  refine ⟨h.1, ?_⟩
  rcases h.2 with h0 | ⟨g, cap, cur, rfl, hb, hh, r⟩
  · exact .inl h0
  · exact .inr ⟨g, cap, cur, rfl, hb, hx.block hh, r⟩

/-- Below behind an append. -/
theorem Own.below {w w' W : World} {base : Nat} {e : TypeId} {k : IntKind} {v : Value} {l : List Int} (h : Own w base e k v l) (hg : w.grownBy w' v.ownBlock) (hb : Below base W w) (hB : base ≤ w.heap.size) : Below base W w' :=
  hb.grown hg hB (fun j hj => (h.block j hj).1)

/-- What an own slice's base may be lowered to. -/
theorem Own.low {w : World} {base base' : Nat} {e : TypeId} {k : IntKind} {v : Value} {l : List Int} (h : Own w base e k v l) (hb : base' ≤ base) : Own w base' e k v l := by
  refine ⟨h.1, ?_⟩
  rcases h.2 with h0 | ⟨g, cap, cur, rfl, hb', r⟩
  · exact .inl h0
  · exact .inr ⟨g, cap, cur, rfl, by omega, r⟩

section
variable {P : Program}

theorem run_append_of_nil (w : World) (base : Nat) (t ty e : TypeId) (i : TypeInfo) (size : Nat) (ht : P.underlying t = some (.slice e)) (hi : P.info? e = some i)
    (v : Value) (n : Nat) (xs : List Value) (hown : w.ownsRow base e size v n xs) (c : Nat) : (Builtin.append_ #[t, t] ty #[v, .slice none 0 c]).run P w = .ok v w := by
  rcases hown.2 with ⟨rfl, rfl⟩ | ⟨g, cap, cur, rfl, _, _, hnc, _⟩
  · simp [Builtin.append_, run_underlying ht, sizeOf, typeInfo, hi, Builtin.lenOf, Builtin.firstCells]
  · simp [Builtin.append_, run_underlying ht, sizeOf, typeInfo, hi, Builtin.lenOf, Builtin.firstCells, hnc, storeCells]

theorem run_app {k : IntKind} {t e : TypeId} {bytes : Nat} (is : IS P k t e bytes) (w : World) (base : Nat) (ty : TypeId) (v : Value) (l : List Int) (hown : Own w base e k v l) (u : Value) (r : List Int) (hr : Rd k w u r)
    (hlen : (l.length + r.length) * bytes ≤ 140737488355328) (h63 : l.length + r.length ≤ maxLen) (hbase : base ≤ w.heap.size) :
    ∃ v' w', (Builtin.append_ #[t, t] ty #[v, u]).run P w = .ok v' w' ∧ Own w' base e k v' (l ++ r) ∧ w.grownBy w' v.ownBlock ∧ (v'.ownBlock = v.ownBlock ∨ v'.ownBlock = some w.heap.size) := by
  obtain ⟨i, hi, hz, hs, hb⟩ := is.hi
  obtain ⟨a, cap, rfl, hc1, hc2, hcell⟩ := hr
  have h1 : ∀ u ∈ r.map (Value.int k), u.oneCell' = true := by
    intro u hu; obtain ⟨x, _, rfl⟩ := List.mem_map.1 hu; rfl
  cases a with
  | none =>
    have hr0 : r = [] := by
      rcases hcell with h | ⟨b, o, h, _⟩
      · exact h
      · cases h
    subst hr0
    exact ⟨v, w, run_append_of_nil w base t ty e i 1 is.ht hi v _ _ hown cap, by simpa using hown, World.grownBy.refl w _, .inl rfl⟩
  | some ad =>
    have hnews : ∀ (j : Nat) (u : Value), (r.map (Value.int k))[j]? = some u → w.cell? (ad.add j) = some u := by
      intro j u hu
      have hj : j < r.length := by
        rcases Nat.lt_or_ge j r.length with h | h
        · exact h
        · simp [List.getElem?_eq_none (show (r.map (Value.int k)).length ≤ j by simpa using h)] at hu
      rcases hcell with h | ⟨b, o, h, hc⟩
      · subst h; simp at hj
      · cases h
        have hadd : (⟨b, o, none⟩ : Addr).add j = ⟨b, o + j, none⟩ := by unfold Addr.add; split <;> simp_all
        rw [hadd, hc j hj, ← hu]
        simp [List.getD, hj]
    obtain ⟨v', w', hrun, h2, h3, _, h5⟩ := run_append_own_at (P := P) w base t ty e i _ 1 bytes is.ht hi hz hs hb rfl (by decide) v _ _ hown ad r.length cap (r.map (Value.int k)) (by simp) hnews h1 h63 hlen hbase
    refine ⟨v', w', hrun, ?_, h3, h5⟩
    unfold Own
    rw [List.length_append, List.map_append]
    exact h2

theorem wp_app {k : IntKind} {t e : TypeId} {bytes : Nat} (is : IS P k t e bytes) {w : World} {o : Oper} {a : Act} {K : Act → World → Prop} {Q : Exit → Act → World → Prop} (s x : Operand)
    (ho : o.op = .call { callee := .builtin .append, args := #[s, x], argTypes := #[t, t] }) (base : Nat) (v : Value) (l : List Int) (hs : a.eval s = v) (hown : Own w base e k v l) (u : Value) (r : List Int) (hx : a.eval x = u) (hr : Rd k w u r)
    (hlen : (l.length + r.length) * bytes ≤ 140737488355328) (h63 : l.length + r.length ≤ maxLen) (hbase : base ≤ w.heap.size)
    (h : ∀ v' w', Own w' base e k v' (l ++ r) → w.grownBy w' v.ownBlock → (v'.ownBlock = v.ownBlock ∨ v'.ownBlock = some w.heap.size) → K (a.put o.dst v') w') : o.wp P a w K Q := by
  obtain ⟨v', w', hrun, h2, h3, h4⟩ := run_app is w base o.type v l hown u r hr hlen h63 hbase
  unfold Oper.wp execOp
  simp only [ho, resolve, invoke, builtin, Sem.run_bind, Sem.run_pure, Result.andThen_ok, List.map_toArray, List.map_cons, List.map_nil, hs, hx, hrun]
  exact h v' w' h2 h3 h4

theorem wpList_app {k : IntKind} {t e : TypeId} {bytes : Nat} (is : IS P k t e bytes) {w : World} {ops : Array Oper} {rest : List Oper} {o : Oper} {a : Act} {Q : Exit → Act → World → Prop} (hgd : o.guard = none) (s x : Operand)
    (ho : o.op = .call { callee := .builtin .append, args := #[s, x], argTypes := #[t, t] }) (base : Nat) (v : Value) (l : List Int) (hs : a.eval s = v) (hown : Own w base e k v l) (u : Value) (r : List Int) (hx : a.eval x = u) (hr : Rd k w u r)
    (hlen : (l.length + r.length) * bytes ≤ 140737488355328) (h63 : l.length + r.length ≤ maxLen) (hbase : base ≤ w.heap.size)
    (h : ∀ v' w', Own w' base e k v' (l ++ r) → w.grownBy w' v.ownBlock → (v'.ownBlock = v.ownBlock ∨ v'.ownBlock = some w.heap.size) → wpList P ops Q rest (a.put o.dst v') w') : wpList P ops Q (o :: rest) a w :=
  wpList_plain hgd fun _ hK => wp_app is s x ho base v l hs hown u r hx hr hlen h63 hbase fun v' w' h2 h3 h4 => hK _ _ (h v' w' h2 h3 h4)

/-- The bytes of a list. -/
def str (l : List Int) : ByteArray := ⟨(l.map fun x => UInt8.ofNat x.toNat).toArray⟩
end
end Go.Cul
namespace Go.Cul
open Go Go.RowKit
set_option linter.unusedVariables false

theorem madeCells_one (z : Value) (hz : z.cells = #[z]) (n : Nat) : (madeCells z.cells n).toList = List.replicate n z := by
  apply List.ext_getElem?
  intro i
  rw [hz]
  by_cases hi : i < n
  · simp [madeCells, hi, Nat.mod_one]
  · simp [madeCells, hi]

theorem Ext.of_grown {w w' : World} (h : w.grownBy w' none) : Ext w w' := ⟨h.os, h.tape, h.output, h.size, fun k hk => h.block k hk (by simp)⟩

theorem run_mk {P : Program} {k : IntKind} {t e : TypeId} {bytes : Nat} (is : IS P k t e bytes) (w : World) (base : Nat) (kl kc : IntKind) (n : Nat) (hn : bytes * n ≤ 281474976710656) (h63 : n ≤ maxLen) (hbase : base ≤ w.heap.size) :
    ∃ w', (Instr.makeSlice t (.int kl n) (.int kc n)).run P w = .ok (.slice (some ⟨w.heap.size, 0, none⟩) n n) w' ∧ Own w' base e k (.slice (some ⟨w.heap.size, 0, none⟩) n n) (List.replicate n 0) ∧ Ext w w' := by
  obtain ⟨i, hi, hz, hs, hb⟩ := is.hi
  obtain ⟨w', h1, h2, h3⟩ := run_make_full (P := P) w base t e i _ 1 is.ht hi hz hs kl kc n (by rw [hb]; exact hn) h63 hbase
  refine ⟨w', h1, ?_, Ext.of_grown h3⟩
  rw [madeCells_one _ rfl, Nat.mul_one] at h2
  unfold Own
  rw [List.length_replicate, List.map_replicate]
  exact h2

theorem Own.open {w : World} {base : Nat} {e : TypeId} {k : IntKind} {v : Value} {l : List Int} (h : Own w base e k v l) (hl : 0 < l.length) :
    ∃ g cap, v = .slice (some ⟨g, 0, none⟩) l.length cap ∧ base ≤ g ∧ g < w.heap.size ∧ (∀ i, i < l.length → w.cell? ⟨g, i, none⟩ = some (.int k (l.getD i 0))) ∧ (∀ i, w.frozen? ⟨g, i, none⟩ = false) ∧ l.length ≤ cap ∧ cap ≤ maxLen ∧
      (∀ (x : Int) i, i < l.length → Own (w.setCell ⟨g, i, none⟩ (.int k x)) base e k v (l.set i x)) := by
  rcases h.2 with ⟨rfl, h0⟩ | ⟨g, cap, cur, rfl, hb, hh, hn, hm, hsz, htake⟩
  · omega
  · have hcell : ∀ i, i < l.length → w.cell? ⟨g, i, none⟩ = some (.int k (l.getD i 0)) := fun i hi => by
      rw [cell_of_row w g i cur e (0, 0) hh]
      have h1 : (cur.toList.take (l.length * 1))[i]? = (l.map (Value.int k))[i]? := by rw [htake]
      rw [Nat.mul_one, List.getElem?_take, if_pos hi] at h1
      simp [List.getD, hi] at h1 ⊢
      exact h1
    refine ⟨g, cap, rfl, hb, lt_of_block hh, hcell, fun i => by simp [World.frozen?, hh], hn, hm, fun x i hi => ⟨by simp, .inr ⟨g, cap, cur.setIfInBounds i (.int k x), by simp, hb, ?_, by simpa using hn, hm, by simpa using hsz, ?_⟩⟩⟩
    · simp [World.setCell, Array.getElem?_modify, hh]
    · rw [Nat.mul_one] at htake
      rw [List.length_set, Nat.mul_one, Array.toList_setIfInBounds, List.take_set, htake, List.map_set]

/-- An own slice of another block stays as it is behind a store. -/
theorem Own.other {w : World} {base : Nat} {e : TypeId} {k : IntKind} {v : Value} {l : List Int} (h : Own w base e k v l) {a : Addr} (ha : v.ownBlock ≠ some a.block) (u : Value) : Own (w.setCell a u) base e k v l :=
  ownsRow_setCell_other h ha u
theorem nil_grow {W w w' : World} (hg : w.grownBy w' (Value.slice none 0 0).ownBlock) (hb : Ext W w) : Ext W w' := Below.grown hb hg hb.size (fun j hj => by simp [Value.ownBlock] at hj)
theorem Own.grow {W w w' : World} {e : TypeId} {k : IntKind} {v : Value} {l : List Int} (h : Own w W.heap.size e k v l) (hg : w.grownBy w' v.ownBlock) (hb : Ext W w) : Ext W w' := h.below hg hb hb.size

/-- append at a step of a region that draws its order. -/
theorem step_app {P : Program} {k : IntKind} {t e : TypeId} {bytes : Nat} (is : IS P k t e bytes) {w : World} {ops : Array Oper} {o : Oper} {a : Act} {K : Act → World → Prop} {Q : Exit → Act → World → Prop} {E : Prop} (hgd : o.guard = none) (s x : Operand)
    (ho : o.op = .call { callee := .builtin .append, args := #[s, x], argTypes := #[t, t] }) (base : Nat) (v : Value) (l : List Int) (hs : a.eval s = v) (hown : Own w base e k v l) (u : Value) (r : List Int) (hx : a.eval x = u) (hr : Rd k w u r)
    (hlen : (l.length + r.length) * bytes ≤ 140737488355328) (h63 : l.length + r.length ≤ maxLen) (hbase : base ≤ w.heap.size)
    (h : ∀ v' w', Own w' base e k v' (l ++ r) → w.grownBy w' v.ownBlock → (v'.ownBlock = v.ownBlock ∨ v'.ownBlock = some w.heap.size) → K (a.put o.dst v') w') :
    if Region.wanted o (yielded ops a.tmps) = true then Oper.wp P o a w K Q else E := by
  have hw : Region.wanted o (yielded ops a.tmps) = true := by simp [Region.wanted, hgd]
  rw [if_pos hw]
  exact wp_app is s x ho base v l hs hown u r hx hr hlen h63 hbase h

/-- The first numbers of a slice; the others. -/
theorem Rd.take {k : IntKind} {w : World} {a : Option Addr} {n cap m : Nat} {l : List Int} (h : Rd k w (.slice a n cap) l) (hm : m ≤ n) : Rd k w (.slice a m cap) (l.take m) := by
  obtain ⟨a', cap', he, h1, h2, h3⟩ := h
  cases he
  have hl : (l.take m).length = m := by rw [List.length_take]; omega
  refine ⟨_, _, by rw [hl], by omega, h2, ?_⟩
  rw [hl]
  rcases h3 with h3 | ⟨b, o, rfl, h3⟩
  · left; simp [h3]
  · right
    refine ⟨b, o, rfl, fun i hi => ?_⟩
    rw [h3 i (by omega)]
    simp [List.getD, hi]
theorem Rd.drop {k : IntKind} {w : World} {b o n cap m : Nat} {l : List Int} (h : Rd k w (.slice (some ⟨b, o, none⟩) n cap) l) (hm : m ≤ n) : Rd k w (.slice (some ⟨b, o + m, none⟩) (n - m) (cap - m)) (l.drop m) := by
  obtain ⟨a', cap', he, h1, h2, h3⟩ := h
  cases he
  have hl : (l.drop m).length = l.length - m := by rw [List.length_drop]
  refine ⟨_, _, by rw [hl], by omega, by omega, ?_⟩
  rw [hl]
  rcases h3 with h3 | ⟨b', o', he, h3⟩
  · left; simp [h3]
  · cases he
    right
    refine ⟨b, o + m, rfl, fun i hi => ?_⟩
    rw [Nat.add_assoc, h3 (m + i) (by omega)]
    simp [List.getD, List.getElem?_drop]
end Go.Cul
namespace Go.Cul
open Go Go.RowKit
set_option linter.unusedVariables false

/-- New memory, or an empty slice without room. -/
def Fr (w : World) (base : Nat) (e : TypeId) (k : IntKind) (v : Value) (l : List Int) : Prop := Own w base e k v l ∨ ∃ a, v = .slice a 0 0 ∧ l = []

theorem Fr.rd {w : World} {base : Nat} {e : TypeId} {k : IntKind} {v : Value} {l : List Int} (h : Fr w base e k v l) : Rd k w v l := by
  rcases h with h | ⟨a, rfl, rfl⟩
  · exact h.rd
  · exact ⟨a, 0, rfl, Nat.le_refl _, by decide, .inl rfl⟩
theorem Fr.kept {w w' : World} {base : Nat} {e : TypeId} {k : IntKind} {v : Value} {l : List Int} (h : Fr w base e k v l) (hx : Ext w w') : Fr w' base e k v l := by
  rcases h with h | h
  · exact .inl (h.kept hx)
  · exact .inr h
theorem Fr.low {w : World} {base base' : Nat} {e : TypeId} {k : IntKind} {v : Value} {l : List Int} (h : Fr w base e k v l) (hb : base' ≤ base) : Fr w base' e k v l := by
  rcases h with h | h
  · exact .inl (h.low hb)
  · exact .inr h
theorem Own.fr {w : World} {base : Nat} {e : TypeId} {k : IntKind} {v : Value} {l : List Int} (h : Own w base e k v l) : Fr w base e k v l := .inl h

section
variable {P : Program}

theorem run_app_nothing {k : IntKind} {t e : TypeId} {bytes : Nat} (is : IS P k t e bytes) (w : World) (ty : TypeId) (a : Option Addr) (n cap : Nat) (b : Option Addr) (c : Nat) (hn : n ≤ cap) (ha : a = none → n = 0) :
    (Builtin.append_ #[t, t] ty #[.slice a n cap, .slice b 0 c]).run P w = .ok (.slice a n cap) w := by
  obtain ⟨i, hi, hz, hs, hb⟩ := is.hi
  cases a <;> cases b <;> simp [Builtin.append_, run_underlying is.ht, sizeOf, typeInfo, hi, Builtin.lenOf, Builtin.firstCells, hn, storeCells, loadCells, loadCellsFrom]

theorem cells_of_rd {k : IntKind} {w : World} {b : Nat} {o : Nat} {r : List Int} (hc : ∀ i, i < r.length → w.cell? ⟨b, o + i, none⟩ = some (.int k (r.getD i 0))) : ∀ (j : Nat) (u : Value), (r.map (Value.int k))[j]? = some u → w.cell? ((⟨b, o, none⟩ : Addr).add j) = some u := by
  intro j u hu
  have hj : j < r.length := by
    rcases Nat.lt_or_ge j r.length with h | h
    · exact h
    · simp [List.getElem?_eq_none (show (r.map (Value.int k)).length ≤ j by simpa using h)] at hu
  have hadd : (⟨b, o, none⟩ : Addr).add j = ⟨b, o + j, none⟩ := by unfold Addr.add; split <;> simp_all
  rw [hadd, hc j hj, ← hu]
  simp [List.getD, hj]

/-- append onto new memory or an empty slice without room, from any source. -/
theorem run_app_fr {k : IntKind} {t e : TypeId} {bytes : Nat} (is : IS P k t e bytes) (w : World) (base : Nat) (ty : TypeId) (v : Value) (l : List Int) (hv : Fr w base e k v l) (u : Value) (r : List Int) (hr : Rd k w u r)
    (hlen : (l.length + r.length) * bytes ≤ 140737488355328) (h63 : l.length + r.length ≤ maxLen) (hbase : base ≤ w.heap.size) :
    ∃ v' w', (Builtin.append_ #[t, t] ty #[v, u]).run P w = .ok v' w' ∧ Fr w' base e k v' (l ++ r) ∧ (r ≠ [] → Own w' base e k v' (l ++ r)) ∧ Below base w w' := by
  rcases hv with hv | ⟨a, rfl, rfl⟩
  · obtain ⟨v', w', h1, h2, h3, _⟩ := run_app is w base ty v l hv u r hr hlen h63 hbase
    exact ⟨v', w', h1, .inl h2, fun _ => h2, hv.below h3 (Below.refl _ _) hbase⟩
  · cases a with
    | none =>
      obtain ⟨v', w', h1, h2, h3, _⟩ := run_app is w base ty _ [] (Own.nil w base e k) u r hr hlen h63 hbase
      exact ⟨v', w', h1, .inl h2, fun _ => h2, (Own.nil w base e k).below h3 (Below.refl _ _) hbase⟩
    | some ad =>
      obtain ⟨b, c, rfl, hc1, hc2, hcell⟩ := hr
      rcases hcell with rfl | ⟨bb, o, rfl, hcell⟩
      · exact ⟨_, w, run_app_nothing is w ty (some ad) 0 0 b c (Nat.le_refl _) (by simp), .inr ⟨_, rfl, rfl⟩, fun h => absurd rfl h, Below.refl _ _⟩
      · by_cases h0 : r.length = 0
        · have : r = [] := List.eq_nil_of_length_eq_zero h0
          subst this
          exact ⟨_, w, run_app_nothing is w ty (some ad) 0 0 _ c (Nat.le_refl _) (by simp), .inr ⟨_, rfl, rfl⟩, fun h => absurd rfl h, Below.refl _ _⟩
        · obtain ⟨i, hi, hz, hs, hb⟩ := is.hi
          obtain ⟨v', w', hrun, h2, h3⟩ := run_append_arg_grows (P := P) w t ty e i _ 1 bytes is.ht hi hz hs hb rfl (by decide) ad 0 0 [] rfl (by simp) ⟨bb, o, none⟩ r.length c (r.map (Value.int k)) (by simp) (cells_of_rd hcell) (by omega) h63 hlen
          have hown : Own w' w.heap.size e k v' ([] ++ r) := by
            unfold Own
            simpa using h2
          have hown' := hown.low hbase
          exact ⟨v', w', hrun, .inl hown', fun _ => hown', (Ext.of_grown h3).mono hbase⟩

theorem wp_app_fr {k : IntKind} {t e : TypeId} {bytes : Nat} (is : IS P k t e bytes) {w : World} {o : Oper} {a : Act} {K : Act → World → Prop} {Q : Exit → Act → World → Prop} (s x : Operand)
    (ho : o.op = .call { callee := .builtin .append, args := #[s, x], argTypes := #[t, t] }) (base : Nat) (v : Value) (l : List Int) (hs : a.eval s = v) (hv : Fr w base e k v l) (u : Value) (r : List Int) (hx : a.eval x = u) (hr : Rd k w u r)
    (hlen : (l.length + r.length) * bytes ≤ 140737488355328) (h63 : l.length + r.length ≤ maxLen) (hbase : base ≤ w.heap.size)
    (h : ∀ v' w', Fr w' base e k v' (l ++ r) → (r ≠ [] → Own w' base e k v' (l ++ r)) → Below base w w' → K (a.put o.dst v') w') : o.wp P a w K Q := by
  obtain ⟨v', w', hrun, h2, h3, h4⟩ := run_app_fr is w base o.type v l hv u r hr hlen h63 hbase
  unfold Oper.wp execOp
  simp only [ho, resolve, invoke, builtin, Sem.run_bind, Sem.run_pure, Result.andThen_ok, List.map_toArray, List.map_cons, List.map_nil, hs, hx, hrun]
  exact h v' w' h2 h3 h4

theorem wpList_app_fr {k : IntKind} {t e : TypeId} {bytes : Nat} (is : IS P k t e bytes) {w : World} {ops : Array Oper} {rest : List Oper} {o : Oper} {a : Act} {Q : Exit → Act → World → Prop} (hgd : o.guard = none) (s x : Operand)
    (ho : o.op = .call { callee := .builtin .append, args := #[s, x], argTypes := #[t, t] }) (base : Nat) (v : Value) (l : List Int) (hs : a.eval s = v) (hv : Fr w base e k v l) (u : Value) (r : List Int) (hx : a.eval x = u) (hr : Rd k w u r)
    (hlen : (l.length + r.length) * bytes ≤ 140737488355328) (h63 : l.length + r.length ≤ maxLen) (hbase : base ≤ w.heap.size)
    (h : ∀ v' w', Fr w' base e k v' (l ++ r) → (r ≠ [] → Own w' base e k v' (l ++ r)) → Below base w w' → wpList P ops Q rest (a.put o.dst v') w') : wpList P ops Q (o :: rest) a w :=
  wpList_plain hgd fun _ hK => wp_app_fr is s x ho base v l hs hv u r hx hr hlen h63 hbase fun v' w' h2 h3 h4 => hK _ _ (h v' w' h2 h3 h4)
end
end Go.Cul
namespace Go.Cul
open Go Go.RowKit
set_option linter.unusedVariables false

theorem run_conv_rd {P : Program} {src e dst : TypeId} (hs : P.underlying src = some (.slice e)) (he : P.underlying e = some (.int .u8)) (hd : P.underlying dst = some .string) {w : World} {v : Value} {l : List Int} (h : Rd .u8 w v l) :
    (convert src dst v).run P w = .ok (.string (strOfNums l)) w := by
  obtain ⟨a, cap, rfl, h1, h2, h3⟩ := h
  rcases h3 with h3 | ⟨b, o, rfl, h3⟩
  · subst h3
    cases a with
    | none =>
      rw [List.length_nil, run_convert_bytes_nil _ _ _ hs he 0 cap _ hd]
      rfl
    | some ad =>
      rw [show ([] : List Int).length = ([] : List UInt8).length from rfl, run_convert_bytes_back w src dst e ad cap [] hs he hd (fun j hj => absurd hj (by simp))]
      rfl
  · exact run_convert_bytes_arg w src e hs he b o l.length cap l rfl h3 dst hd
end Go.Cul
namespace Go.Cul
open Go Go.RowKit
set_option linter.unusedVariables false

section
variable {P : Program}

theorem zeroCells_one (z : Value) (n : Nat) (hz : z.cells = #[z]) : Builtin.zeroCells z.cells n = (List.replicate n z).toArray := by
  rw [hz]
  apply Array.ext'
  simp [Builtin.zeroCells, Nat.mod_one, List.map_const']

theorem run_app_zeros {k : IntKind} {t e tn : TypeId} {kn : IntKind} {bytes : Nat} (is : IS P k t e bytes) (htn : P.underlying tn = some (.int kn)) (w : World) (base : Nat) (ty : TypeId) (v : Value) (l : List Int) (hown : Own w base e k v l) (n : Nat) (hn0 : l = [] → n = 0)
    (hlen : (l.length + n) * bytes ≤ 140737488355328) (h63 : l.length + n ≤ maxLen) (hbase : base ≤ w.heap.size) :
    ∃ v' w', (Builtin.append_ #[t, tn] ty #[v, .int kn n]).run P w = .ok v' w' ∧ Own w' base e k v' (l ++ List.replicate n 0) ∧ w.grownBy w' v.ownBlock := by
  obtain ⟨i, hi, hz, hs, hb⟩ := is.hi
  have h63' : l.length + n ≤ 9223372036854775807 := by simp only [maxLen] at h63; omega
  have hw : IntKind.i64.wrap (n : Int) = n := by rw [IntKind.wrap_i64]; omega
  have hneg : ¬ ((n : Int) < 0) := by omega
  have hnb : n * bytes ≤ 140737488355328 := Nat.le_trans (Nat.mul_le_mul_right _ (by omega)) hlen
  have h48i : ¬ (281474976710656 < (n : Int) * (i.bytes : Int)) := by rw [hb, ← Int.natCast_mul]; omega
  have hzc : (Value.int k 0).cells = #[Value.int k 0] := rfl
  by_cases hn : n = 0
  · subst hn
    refine ⟨v, w, ?_, by simpa using hown, World.grownBy.refl w _⟩
    rcases hown.2 with ⟨rfl, h0⟩ | ⟨g, cap, cur, rfl, hbg, hg, hnc, hcm, hcs, htk⟩
    · simp [Builtin.append_, run_underlying is.ht, run_underlying htn, sizeOf, typeInfo, hi, asInt, asIntOf, Builtin.lenOf]
      simp [IntKind.wrap, IntKind.bits, IntKind.signed]
    · simp [Builtin.append_, run_underlying is.ht, run_underlying htn, sizeOf, typeInfo, hi, asInt, asIntOf, Builtin.lenOf]
      simp [IntKind.wrap, IntKind.bits, IntKind.signed, storeCells, hnc]
  · rcases hown.2 with ⟨rfl, h0⟩ | ⟨g, cap, cur, rfl, hbg, hg, hnc, hcm, hcs, htk⟩
    · exact absurd (hn0 (List.eq_nil_of_length_eq_zero h0)) hn
    have hns : ¬ (n * i.size = 0) := by rw [hs]; omega
    have hzl : ∀ m, Builtin.zeroCells (Value.int k 0).cells m = (List.replicate m (Value.int k 0)).toArray := fun m => zeroCells_one _ m hzc
    have hlen2 : (l.map (Value.int k) ++ List.replicate n (Value.int k 0)).length = (l.length + n) * 1 := by simp
    have hmap : (l ++ List.replicate n (0 : Int)).map (Value.int k) = l.map (Value.int k) ++ List.replicate n (Value.int k 0) := by simp
    have hol : (l ++ List.replicate n (0 : Int)).length = l.length + n := by simp
    by_cases hroom : l.length + n ≤ cap
    · have hst := run_storeCells_at P g (l.length * 1) e (List.replicate n (Value.int k 0)) 0 cur w hg (by simp [hcs]; omega) (by intro u hu; rw [List.eq_of_mem_replicate hu]; rfl)
      simp only [Nat.add_zero] at hst
      refine ⟨.slice (some ⟨g, 0, none⟩) (l.length + n) cap, w.setRow g (cur.toList.take (l.length * 1) ++ List.replicate n (Value.int k 0) ++ cur.toList.drop (l.length * 1 + (List.replicate n (Value.int k 0)).length)).toArray, ?_, ?_, ?_⟩
      · generalize w.setRow g (cur.toList.take (l.length * 1) ++ List.replicate n (Value.int k 0) ++ cur.toList.drop (l.length * 1 + (List.replicate n (Value.int k 0)).length)).toArray = W' at *
        rw [Nat.mul_one] at hst
        simp [Builtin.append_, run_underlying is.ht, run_underlying htn, sizeOf, typeInfo, zeroValue, hi, hz, hs, asInt, asIntOf, hw, hneg, h48i, hroom, hn, Addr.add_lit, hzl, hst]
      · refine ⟨by rw [hmap, hol]; exact hlen2, .inr ⟨g, cap, _, by rw [hol], hbg, setRow_heap w g cur _ e _ hg, by omega, hcm, ?_, ?_⟩⟩
        · simp only [List.size_toArray, List.length_append, List.length_take, List.length_drop, Array.length_toList, List.length_replicate]
          omega
        · rw [htk, hmap, hol, ← hlen2]
          exact List.take_left
      · exact ⟨rfl, rfl, rfl, by simp, fun k _ hk => setRow_other w g k _ (fun e => hk (by simp [Value.ownBlock, e]))⟩
    · have holds : ∀ j u, (l.map (Value.int k))[j]? = some u → w.cell? ((⟨g, 0, none⟩ : Addr).add j) = some u := hown.cells (g := g) rfl
      have hfo := run_firstCells_some (P := P) w.drew i.size l.length ⟨g, 0, none⟩ l.length cap (l.map (Value.int k)) (by simp [hs]) (by simpa using holds)
      have h63'' : ¬ (9223372036854775807 < ((l.length : Int) + (n : Int))) := by omega
      have hfit := growslice_fits (show cap < l.length + n by omega) hlen
      have h48' : ¬ (281474976710656 < Builtin.nextslicecap (l.length + n) cap * i.bytes) := by rw [hb]; omega
      have hge := grownCap_ge w (l.length + n) cap e
      have hcm' : grownCap w (l.length + n) cap e ≤ maxLen := grownCap_le_maxLen w (l.length + n) cap e h63
      refine ⟨.slice (some ⟨w.heap.size, 0, none⟩) (l.length + n) (grownCap w (l.length + n) cap e), w.drew.alloc (.cells ((l.map (Value.int k)).toArray ++ (List.replicate n (Value.int k 0)).toArray ++ Builtin.zeroCells (Value.int k 0).cells (grownCap w (l.length + n) cap e - (l.length + n))) e), ?_, ?_, ⟨rfl, rfl, rfl, by simp, fun k hk _ => heap_alloc_old w.drew _ hk⟩⟩
      · simp [Builtin.append_, run_underlying is.ht, run_underlying htn, sizeOf, typeInfo, zeroValue, hi, hz, hs, asInt, asIntOf, hw, hneg, h48i, hroom, hn, hzl, h63'', h48', Question.forced, newRow, grownCap] at hfo ⊢
        simp [hfo]
      · refine ⟨by rw [hmap, hol]; exact hlen2, .inr ⟨w.heap.size, _, _, by rw [hol], hbase, heap_alloc_new w.drew _, by omega, hcm', ?_, ?_⟩⟩
        · rw [hzl]
          simp only [Array.size_append, List.size_toArray, List.length_map, List.length_replicate]
          omega
        · rw [hmap, hol, ← hlen2]
          simp only [Array.toList_append, List.append_assoc]
          rw [← List.append_assoc]
          exact List.take_left

theorem wpList_app_zeros {k : IntKind} {t e tn : TypeId} {kn : IntKind} {bytes : Nat} (is : IS P k t e bytes) (htn : P.underlying tn = some (.int kn)) {w : World} {ops : Array Oper} {rest : List Oper} {o : Oper} {a : Act} {Q : Exit → Act → World → Prop} (hgd : o.guard = none) (s x : Operand)
    (ho : o.op = .call { callee := .builtin .append, args := #[s, x], argTypes := #[t, tn] }) (base : Nat) (v : Value) (l : List Int) (hs : a.eval s = v) (hown : Own w base e k v l) (n : Nat) (hx : a.eval x = .int kn n) (hn0 : l = [] → n = 0)
    (hlen : (l.length + n) * bytes ≤ 140737488355328) (h63 : l.length + n ≤ maxLen) (hbase : base ≤ w.heap.size)
    (h : ∀ v' w', Own w' base e k v' (l ++ List.replicate n 0) → w.grownBy w' v.ownBlock → wpList P ops Q rest (a.put o.dst v') w') : wpList P ops Q (o :: rest) a w := by
  refine wpList_plain hgd fun K hK => ?_
  obtain ⟨v', w', hrun, h2, h3⟩ := run_app_zeros is htn w base o.type v l hown n hn0 hlen h63 hbase
  unfold Oper.wp execOp
  simp only [ho, resolve, invoke, builtin, Sem.run_bind, Sem.run_pure, Result.andThen_ok, List.map_toArray, List.map_cons, List.map_nil, hs, hx, hrun]
  exact hK _ _ (h v' w' h2 h3)
end
end Go.Cul
namespace Go.Cul
open Go Go.RowKit
set_option linter.unusedVariables false

theorem take_splice {α : Type} (c r : List α) (k n : Nat) (h : k + r.length ≤ n) : (c.take k ++ r ++ c.drop (k + r.length)).take n = (c.take n).take k ++ r ++ (c.take n).drop (k + r.length) := by
  by_cases hk : c.length < k
  · rw [List.take_of_length_le (show c.length ≤ k by omega), List.drop_eq_nil_of_le (by omega), List.append_nil, List.take_of_length_le (show (c ++ r).length ≤ n by rw [List.length_append]; omega), List.take_of_length_le (show c.length ≤ n by omega), List.take_of_length_le (show c.length ≤ k by omega), List.drop_eq_nil_of_le (by omega), List.append_nil]
  · rw [List.take_append, List.take_of_length_le (show (c.take k ++ r).length ≤ n by rw [List.length_append, List.length_take]; omega), List.take_take, Nat.min_eq_left (by omega), List.drop_take]
    congr 2
    rw [List.length_append, List.length_take]; omega

theorem run_copy_mine {P : Program} {k : IntKind} {t e : TypeId} {bytes : Nat} (is : IS P k t e bytes) (w : World) (base : Nat) (ty : TypeId) (g n cap : Nat) (l : List Int) (hown : Own w base e k (.slice (some ⟨g, 0, none⟩) n cap) l)
    (p m dc : Nat) (u : Value) (r : List Int) (hr : Rd k w u r) (hr0 : 0 < r.length) (hm : r.length ≤ m) (hp : p + m ≤ l.length) :
    ∃ x w', (Builtin.copy_ #[t, t] ty #[.slice (some ⟨g, p, none⟩) m dc, u]).run P w = .ok x w' ∧ Own w' base e k (.slice (some ⟨g, 0, none⟩) n cap) (l.take p ++ r ++ l.drop (p + r.length)) ∧ Mvs (fun j => j = g) w w' := by
  obtain ⟨i, hi, hz, hs, hb⟩ := is.hi
  obtain ⟨a, c, rfl, hc1, hc2, hcell⟩ := hr
  rcases hcell with rfl | ⟨b, o, rfl, hcell⟩
  · simp at hr0
  have hcells := cells_of_rd hcell
  rcases hown.2 with ⟨h0, _⟩ | ⟨g', cap', cur, he, hbg, hg, hnc, hcm, hcs, htk⟩
  · cases h0
  cases he
  have hrun := run_copy_row (P := P) w t t ty e g p m dc ⟨b, o, none⟩ r.length c cur e (r.map (Value.int k)) is.ht (by simp [hi, hs]) hg (by rw [List.length_map]; exact (Nat.min_eq_left hm).symm) hcells (by rw [List.length_map, hcs]; omega) (by
    intro u hu; obtain ⟨x, _, rfl⟩ := List.mem_map.1 hu; rfl)
  refine ⟨_, _, hrun, ?_, ⟨rfl, rfl, rfl, by simp [World.setRow], fun j _ hj => setRow_other w g j _ hj⟩⟩
  have hl2 : (l.take p ++ r ++ l.drop (p + r.length)).length = l.length := by simp only [List.length_append, List.length_take, List.length_drop]; omega
  unfold Own
  rw [hl2]
  refine ⟨by simp only [List.length_map, hl2, Nat.mul_one], .inr ⟨g, cap, _, rfl, hbg, setRow_heap w g cur _ e _ hg, hnc, hcm, ?_, ?_⟩⟩
  · simp only [List.size_toArray, List.length_append, List.length_take, List.length_drop, Array.length_toList, List.length_map]; omega
  · rw [Nat.mul_one] at htk ⊢
    have h := take_splice cur.toList (r.map (Value.int k)) p l.length (by rw [List.length_map]; omega)
    dsimp only
    rw [h, htk, List.length_map]
    simp only [List.map_append, List.map_take, List.map_drop]
end Go.Cul
