/-
  Proved here: plain laws on the internet checksum over lists of integers. No program in sight.
-/
import Derived.Lib.Hide
namespace Go.Cul
set_option linter.unusedVariables false

/-- A number as 16 bits: what is above is added below. -/
def fold16 (n : Int) : Int := if n = 0 then 0 else 1 + (n - 1) % 65535
theorem fold16_bd {n : Int} (h : 0 ≤ n) : 0 ≤ fold16 n ∧ fold16 n ≤ 65535 := by unfold fold16; split <;> omega
theorem fold16_small {n : Int} (h : 0 ≤ n) (h' : n ≤ 65535) : fold16 n = n := by unfold fold16; split <;> omega
theorem fold16_step {n : Int} (h : 0 ≤ n) : fold16 (n % 65536 + n / 65536) = fold16 n := by unfold fold16; split <;> split <;> omega
theorem fold16_add_l {a b : Int} (ha : 0 ≤ a) (hb : 0 ≤ b) : fold16 (fold16 a + b) = fold16 (a + b) := by unfold fold16; split <;> split <;> split <;> omega
theorem fold16_add_r {a b : Int} (ha : 0 ≤ a) (hb : 0 ≤ b) : fold16 (a + fold16 b) = fold16 (a + b) := by rw [Int.add_comm, fold16_add_l hb ha, Int.add_comm]

/-- The weight of a byte at a place. -/
def wt (c : Int) (i : Nat) : Int := if i % 2 = 0 then c * 256 else c
/-- The weight of bytes that begin at a place. -/
def weigh : Nat → List Int → Int
  | _, [] => 0
  | i, c :: r => wt c i + weigh (i + 1) r

theorem weigh_app (i : Nat) (l r : List Int) : weigh i (l ++ r) = weigh i l + weigh (i + l.length) r := by
  induction l generalizing i with
  | nil => simp [weigh]
  | cons c l ih => simp only [List.cons_append, weigh, ih, List.length_cons]; rw [show i + 1 + l.length = i + (l.length + 1) from by omega]; omega
theorem weigh_snoc (i : Nat) (l : List Int) (c : Int) : weigh i (l ++ [c]) = weigh i l + wt c (i + l.length) := by rw [weigh_app]; simp [weigh]
theorem wt_bd {c : Int} (h : 0 ≤ c) (h' : c ≤ 255) (i : Nat) : 0 ≤ wt c i ∧ wt c i ≤ 65280 := by unfold wt; split <;> omega
theorem weigh_bd : ∀ (i : Nat) (l : List Int), (∀ x ∈ l, 0 ≤ x ∧ x ≤ 255) → 0 ≤ weigh i l ∧ weigh i l ≤ 65280 * l.length
  | _, [], _ => by simp [weigh]
  | i, c :: l, h => by
    have h1 := weigh_bd (i + 1) l (fun x hx => h x (List.mem_cons_of_mem _ hx))
    have h2 := h c (List.mem_cons_self ..)
    have h3 := wt_bd h2.1 h2.2 i
    simp only [weigh, List.length_cons]
    omega
theorem weigh_par (i j : Nat) (l : List Int) (h : i % 2 = j % 2) : weigh i l = weigh j l := by
  induction l generalizing i j with
  | nil => rfl
  | cons c l ih => simp only [weigh, wt, h]; rw [ih (i + 1) (j + 1) (by omega)]

/-- The sum of bytes. -/
def csum (l : List Int) : Int := fold16 (weigh 0 l)
theorem csum_bd {l : List Int} (h : ∀ x ∈ l, 0 ≤ x ∧ x ≤ 255) : 0 ≤ csum l ∧ csum l ≤ 65535 := fold16_bd (weigh_bd 0 l h).1

/-- A word turned: field, was, is. -/
def cword (f a b : Int) : Int := 65535 - fold16 ((65535 - f) + (65535 - a) + b)
theorem cword_bd {f a b : Int} (h : 0 ≤ f) (h' : f ≤ 65535) (ha : 0 ≤ a) (ha' : a ≤ 65535) (hb : 0 ≤ b) : 0 ≤ cword f a b ∧ cword f a b ≤ 65535 := by
  have := fold16_bd (n := (65535 - f) + (65535 - a) + b) (by omega); unfold cword; omega

theorem getD_lt {l : List Int} {i : Nat} (h : i < l.length) : l.take (i + 1) = l.take i ++ [l.getD i 0] := by
  rw [List.take_succ_eq_append_getElem h]; simp [List.getD, h]
theorem getD_ge {l : List Int} {i : Nat} (h : l.length ≤ i) : l.getD i 0 = 0 := by simp [List.getD, List.getElem?_eq_none h]

theorem weigh_two {l : List Int} {i : Nat} (he : i % 2 = 0) (h : i < l.length) : weigh 0 (l.take (i + 2)) = weigh 0 (l.take i) + (l.getD i 0 * 256 + l.getD (i + 1) 0) := by
  by_cases h1 : i + 1 < l.length
  · rw [getD_lt h1, getD_lt h, weigh_snoc, weigh_snoc]
    simp only [List.length_append, List.length_take, List.length_cons, List.length_nil, Nat.min_eq_left (Nat.le_of_lt h)]
    unfold wt
    rw [if_pos (by omega), if_neg (by omega)]
    omega
  · rw [getD_ge (l := l) (i := i + 1) (by omega), show l.take (i + 2) = l.take (i + 1) from by rw [List.take_of_length_le (by omega), List.take_of_length_le (by omega)], getD_lt h, weigh_snoc]
    simp only [List.length_take, Nat.min_eq_left (Nat.le_of_lt h)]
    unfold wt
    rw [if_pos (by omega)]
    omega

theorem csum_two {l : List Int} {i : Nat} (hb : ∀ x ∈ l, 0 ≤ x ∧ x ≤ 255) (h0 : 0 ≤ l.getD i 0) (h1 : 0 ≤ l.getD (i + 1) 0) (he : i % 2 = 0) (h : i < l.length) :
    csum (l.take (i + 2)) = fold16 (csum (l.take i) + (l.getD i 0 * 256 + l.getD (i + 1) 0)) := by
  unfold csum
  rw [weigh_two he h, fold16_add_l (weigh_bd 0 _ (fun x hx => hb x (List.mem_of_mem_take hx))).1 (by omega)]

/-- Are two fields the same, 0 and ffff being one? -/
def like (a b : Int) : Bool := decide (a = b ∨ (a = 0 ∧ b = 65535) ∨ (a = 65535 ∧ b = 0))

theorem fold16_mod {n : Int} (h : 0 ≤ n) : fold16 n % 65535 = n % 65535 := by unfold fold16; split <;> omega
theorem cword_mod {f a b : Int} (h : 0 ≤ f) (h' : f ≤ 65535) (ha : 0 ≤ a) (ha' : a ≤ 65535) (hb : 0 ≤ b) : cword f a b % 65535 = (f + a - b) % 65535 := by
  have h1 := fold16_mod (n := (65535 - f) + (65535 - a) + b) (by omega)
  unfold cword
  omega
theorem like_of_mod {x y : Int} (h0 : 0 ≤ x) (h1 : x ≤ 65535) (h2 : 0 ≤ y) (h3 : y ≤ 65535) (h : x % 65535 = y % 65535) : like x y = true := by
  unfold like
  rw [decide_eq_true_eq]
  omega
theorem mod_of_like {x y : Int} (h : like x y = true) : x % 65535 = y % 65535 := by
  unfold like at h
  rw [decide_eq_true_eq] at h
  omega
/-- Four bytes turned. -/
def clong (f a b : Int) : Int := cword (cword f (a / 65536) (b / 65536)) (a % 65536) (b % 65536)
theorem clong_bd {f a b : Int} (hf : 0 ≤ f ∧ f ≤ 65535) (ha : 0 ≤ a ∧ a ≤ 4294967295) (hb : 0 ≤ b ∧ b ≤ 4294967295) : 0 ≤ clong f a b ∧ clong f a b ≤ 65535 := by
  have h1 := cword_bd (f := f) (a := a / 65536) (b := b / 65536) hf.1 hf.2 (by omega) (by omega) (by omega)
  exact cword_bd h1.1 h1.2 (by omega) (by omega) (by omega)
theorem clong_mod {f a b : Int} (hf : 0 ≤ f ∧ f ≤ 65535) (ha : 0 ≤ a ∧ a ≤ 4294967295) (hb : 0 ≤ b ∧ b ≤ 4294967295) : clong f a b % 65535 = (f + a - b) % 65535 := by
  have h1 := cword_bd (f := f) (a := a / 65536) (b := b / 65536) hf.1 hf.2 (by omega) (by omega) (by omega)
  have h2 := cword_mod (f := f) (a := a / 65536) (b := b / 65536) hf.1 hf.2 (by omega) (by omega) (by omega)
  have h3 := cword_mod (f := cword f (a / 65536) (b / 65536)) (a := a % 65536) (b := b % 65536) h1.1 h1.2 (by omega) (by omega) (by omega)
  unfold clong
  omega

theorem like_same {f a : Int} (hf : 0 ≤ f ∧ f ≤ 65535) (ha : 0 ≤ a ∧ a ≤ 65535) : like (cword f a a) f = true := by
  have h1 := cword_bd hf.1 hf.2 ha.1 ha.2 ha.1
  have h2 := cword_mod hf.1 hf.2 ha.1 ha.2 ha.1
  exact like_of_mod h1.1 h1.2 hf.1 hf.2 (by omega)
theorem like_back {f a b : Int} (hf : 0 ≤ f ∧ f ≤ 65535) (ha : 0 ≤ a ∧ a ≤ 65535) (hb : 0 ≤ b ∧ b ≤ 65535) : like (cword (cword f a b) b a) f = true := by
  have h1 := cword_bd hf.1 hf.2 ha.1 ha.2 hb.1
  have h2 := cword_mod hf.1 hf.2 ha.1 ha.2 hb.1
  have h3 := cword_bd h1.1 h1.2 hb.1 hb.2 ha.1
  have h4 := cword_mod h1.1 h1.2 hb.1 hb.2 ha.1
  exact like_of_mod h3.1 h3.2 hf.1 hf.2 (by omega)
theorem like_long_back {f a b : Int} (hf : 0 ≤ f ∧ f ≤ 65535) (ha : 0 ≤ a ∧ a ≤ 4294967295) (hb : 0 ≤ b ∧ b ≤ 4294967295) : like (clong (clong f a b) b a) f = true := by
  have h1 := clong_bd hf ha hb
  have h2 := clong_mod hf ha hb
  have h3 := clong_bd h1 hb ha
  have h4 := clong_mod h1 hb ha
  exact like_of_mod h3.1 h3.2 hf.1 hf.2 (by omega)
theorem like_long_words {f a b : Int} (hf : 0 ≤ f ∧ f ≤ 65535) (ha : 0 ≤ a ∧ a ≤ 4294967295) (hb : 0 ≤ b ∧ b ≤ 4294967295) :
    like (clong f a b) (cword (cword f (a % 65536) (b % 65536)) (a / 65536) (b / 65536)) = true := by
  have h1 := clong_bd hf ha hb
  have h2 := clong_mod hf ha hb
  have h3 := cword_bd (f := f) (a := a % 65536) (b := b % 65536) hf.1 hf.2 (by omega) (by omega) (by omega)
  have h4 := cword_mod (f := f) (a := a % 65536) (b := b % 65536) hf.1 hf.2 (by omega) (by omega) (by omega)
  have h5 := cword_bd (f := cword f (a % 65536) (b % 65536)) (a := a / 65536) (b := b / 65536) h3.1 h3.2 (by omega) (by omega) (by omega)
  have h6 := cword_mod (f := cword f (a % 65536) (b % 65536)) (a := a / 65536) (b := b / 65536) h3.1 h3.2 (by omega) (by omega) (by omega)
  exact like_of_mod h1.1 h1.2 h5.1 h5.2 (by rw [h2, h6]; clear h2 h6 h5; omega)

end Go.Cul
