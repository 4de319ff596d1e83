/-
  Proved here: how the arguments of the udp laws read; small laws for them.
-/
import Derived.Test.YtbaidlkjbdeceaaGreatUdpW
import Derived.Test.YtbaidlkjbdeceaaGreatUdpR
import Derived.Test.YtbaidlkjbdeceaaGreatShape
namespace Go.Proofs.YtbaidlkjbdeceaaGreat
set_option maxRecDepth 200000
open Go.ChangeShapes Go.WideShapes Go.ChangeAt Go.RowKit Go.Cul
set_option linter.unusedVariables false

theorem _root_.Go.Cul.byt_wf {l : List Int} (h : ∀ x ∈ l, (Lit.int .u8 x).wf = true) : Byt l := byt_of_wf h

theorem open_ends {w : World} {cs : Array Value} (h : Reads w (.agg 2 (.more 1 (.int .u32) (.more 1 (.int .u32) .done))) cs.toList) :
    ∃ s d, cs = #[.int .u32 s, .int .u32 d] ∧ (0 ≤ s ∧ s ≤ 4294967295) ∧ (0 ≤ d ∧ d ≤ 4294967295) := by
  simp only [Reads] at h
  obtain ⟨_, _, e0, ⟨x, rfl, wx⟩, _, _, rfl, ⟨y, rfl, wy⟩, rfl⟩ := h
  exact ⟨x, y, by rw [← Array.toList_inj]; simpa using e0, wf_u32 wx, wf_u32 wy⟩

theorem open_datagram {w : World} {cs : Array Value} (h : Reads w (.agg 3 (.more 1 (.int .u16) (.more 1 (.int .u16) (.more 1 (.ints .u8 1) .done)))) cs.toList) :
    ∃ sp dp v l, cs = #[.int .u16 sp, .int .u16 dp, v] ∧ (0 ≤ sp ∧ sp ≤ 65535) ∧ (0 ≤ dp ∧ dp ≤ 65535) ∧ Rd .u8 w v l ∧ Byt l ∧ l.length ≤ 140737488351232 := by
  simp only [Reads] at h
  obtain ⟨_, _, e0, ⟨x, rfl, wx⟩, _, _, rfl, ⟨y, rfl, wy⟩, _, _, rfl, ⟨v, l, rfl, hr, hb, hn⟩, rfl⟩ := h
  exact ⟨x, y, v, l, by rw [← Array.toList_inj]; simpa using e0, wf_u16 wx, wf_u16 wy, hr, byt_of_wf hb, by omega⟩

theorem xor255 (x : Int) (h : 0 ≤ x) (h' : x ≤ 255) : bits BinOp.xor IntKind.u8 x 255 = 255 - x := by
  have h1 := not_u8 x h h'
  rw [show IntKind.u8.max = (255 : Int) from rfl] at h1
  rw [← h1, u8_xor _ _ h (by omega) (by decide) (by decide), u8_xor _ _ (by decide) (by decide) h (by omega), Nat.xor_comm]

theorem _root_.Go.Cul.Fr.own {w : World} {base : Nat} {e : TypeId} {k : IntKind} {v : Value} {l : List Int} (h : Fr w base e k v l) (hl : 0 < l.length) : Own w base e k v l := by
  rcases h with h | ⟨a, rfl, rfl⟩
  · exact h
  · simp at hl

theorem byt_set {l : List Int} (h : Byt l) (i : Nat) {x : Int} (hx : 0 ≤ x ∧ x ≤ 255) : Byt (l.set i x) := by
  intro y hy
  rcases List.mem_or_eq_of_mem_set hy with hy | rfl
  · exact h y hy
  · exact hx

theorem usame_self (sp dp : Int) (l : List Int) : usame sp dp l sp dp l = true := by simp [usame]

theorem upar_byt {s d : Int} {l : List Int} (h : Byt l) : Byt (upar s d l).2.2 := by
  unfold upar
  split
  · exact h.drop 8
  · intro x hx; cases hx
theorem upar_bd {s d : Int} {l : List Int} (h : Byt l) : (0 ≤ (upar s d l).1 ∧ (upar s d l).1 ≤ 65535) ∧ (0 ≤ (upar s d l).2.1 ∧ (upar s d l).2.1 ≤ 65535) := by
  unfold upar
  split
  · exact ⟨be16_bd h 0, be16_bd h 2⟩
  · exact ⟨by simp, by simp⟩
theorem upar_len (s d : Int) (l : List Int) : (upar s d l).2.2.length ≤ l.length := by
  unfold upar
  split
  · simp
  · simp
theorem uput_len (s d sp dp : Int) (l : List Int) : (uput s d sp dp l).1.length ≤ 1480 := by
  unfold uput
  split
  · simp
  · simp only [udpl_len]; omega
theorem udpf_bd {s d sp dp : Int} {l : List Int} (hs : 0 ≤ s ∧ s ≤ 4294967295) (hd : 0 ≤ d ∧ d ≤ 4294967295) (hsp : 0 ≤ sp ∧ sp ≤ 65535) (hdp : 0 ≤ dp ∧ dp ≤ 65535) (hn : l.length ≤ 60000) (hl : Byt l) : 0 < udpf s d sp dp l ∧ udpf s d sp dp l ≤ 65535 := by
  have h := csum_bd ((pseu_byt (8 + (l.length : Int)) hs hd (p := 17) (by omega)).app (udpl_byt hsp hdp (n := 8 + (l.length : Int)) (f := 0) (by omega) (by omega) hl))
  unfold udpf
  simp only
  split <;> omega
theorem uput_byt {s d sp dp : Int} {l : List Int} (hs : 0 ≤ s ∧ s ≤ 4294967295) (hd : 0 ≤ d ∧ d ≤ 4294967295) (hsp : 0 ≤ sp ∧ sp ≤ 65535) (hdp : 0 ≤ dp ∧ dp ≤ 65535) (hl : Byt l) : Byt (uput s d sp dp l).1 := by
  unfold uput
  split
  · intro x hx; cases hx
  · have := udpf_bd hs hd hsp hdp (by omega) hl
    exact udpl_byt hsp hdp (by omega) (by omega) hl
end Go.Proofs.YtbaidlkjbdeceaaGreat
