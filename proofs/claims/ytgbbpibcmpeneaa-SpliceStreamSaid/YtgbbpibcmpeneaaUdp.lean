/-
  Proved here: what udp.laid, udp.Put and udp.Same compute. Conditions: numbers within their kinds, at most 2^47 - 4096 bytes.
-/
import Derived.Test.YtgbbpibcmpeneaaSums
import Derived.Test.YtgbbpibcmpeneaaLibs
namespace Go.Proofs.Ytgbbpibcmpeneaa
set_option maxRecDepth 200000
open Go.ChangeShapes Go.WideShapes Go.ChangeAt Go.RowKit Go.Cul
set_option linter.unusedVariables false

/-- Numbers of two bytes, one behind the other. -/
def lays (ns : List Int) : List Int := (ns.map by2).flatten
theorem lays_len (ns : List Int) : (lays ns).length = 2 * ns.length := by
  induction ns with
  | nil => rfl
  | cons x ns ih => simp only [lays, List.map_cons, List.flatten_cons, List.length_append, List.length_cons] at *; simp only [by2, List.length_cons, List.length_nil]; omega
theorem lays_byt {ns : List Int} (h : ∀ x ∈ ns, 0 ≤ x ∧ x ≤ 65535) : Byt (lays ns) := by
  induction ns with
  | nil => intro x hx; simp [lays] at hx
  | cons x ns ih =>
    have e : lays (x :: ns) = by2 x ++ lays ns := by simp [lays]
    rw [e]
    exact (by2_byt x (h x (List.mem_cons_self ..))).app (ih fun y hy => h y (List.mem_cons_of_mem _ hy))
theorem lays_take {ns : List Int} {k : Nat} (h : k < ns.length) : lays (ns.take (k + 1)) = lays (ns.take k) ++ by2 (ns.getD k 0) := by
  unfold lays
  rw [take_succ_getD ns k h]
  simp

/-- A datagram's bytes, with a field. -/
def udpl (sp dp n f : Int) (l : List Int) : List Int := lays [sp, dp, n, f] ++ l

theorem udpl_len (sp dp n f : Int) (l : List Int) : (udpl sp dp n f l).length = 8 + l.length := by
  unfold udpl; rw [List.length_append, lays_len]; rfl
theorem udpl_byt {sp dp n f : Int} {l : List Int} (hsp : 0 ≤ sp ∧ sp ≤ 65535) (hdp : 0 ≤ dp ∧ dp ≤ 65535) (hn : 0 ≤ n ∧ n ≤ 65535) (hf : 0 ≤ f ∧ f ≤ 65535) (hl : Byt l) : Byt (udpl sp dp n f l) := by
  refine (lays_byt ?_).app hl
  intro x hx
  simp only [List.mem_cons, List.not_mem_nil, or_false] at hx
  rcases hx with rfl | rfl | rfl | rfl <;> assumption
theorem pseu_len (s d p n : Int) : (pseu s d p n).length = 12 := rfl
theorem pseu_byt {s d p : Int} (n : Int) (hs : 0 ≤ s ∧ s ≤ 4294967295) (hd : 0 ≤ d ∧ d ≤ 4294967295) (hp : 0 ≤ p ∧ p ≤ 255) : Byt (pseu s d p n) := by
  refine ((by4_byt s hs).app (by4_byt d hd)).app ?_
  intro x hx
  simp only [List.mem_cons, List.not_mem_nil, or_false] at hx
  rcases hx with rfl | rfl | rfl | rfl <;> omega

/-- A datagram's field. -/
def udpf (s d sp dp : Int) (l : List Int) : Int :=
  let f := 65535 - csum (pseu s d 17 (8 + l.length) ++ udpl sp dp (8 + l.length) 0 l)
  if f = 0 then 65535 else f
/-- A datagram's bytes; the error. -/
def uput (s d sp dp : Int) (l : List Int) : List Int × Int :=
  if 1480 < 8 + l.length then ([], 3) else (udpl sp dp (8 + l.length) (udpf s d sp dp l) l, 0)

/-- What two datagrams' fields are. -/
def usame (sp dp : Int) (l : List Int) (sp' dp' : Int) (l' : List Int) : Bool := (sp == sp') && (dp == dp') && decide (l = l')

end Go.Proofs.Ytgbbpibcmpeneaa
