/-
  Proved here: what U8 and Bytes of an open wire.Reader compute, where there is enough and where there is not. Condition: at most 2^47 bytes.
-/
import Derived.Test.YtckdcjheflgmdaaRdr
namespace Go.Proofs.Ytckdcjheflgmdaa
set_option maxRecDepth 16000
open Go.ChangeShapes Go.WideShapes Go.ChangeAt Go.RowKit Go.Cul
set_option linter.unusedVariables false

theorem _root_.Go.Cul.Rd.one {w : World} {u : Value} {l : List Int} {k : Nat} {kd : IntKind} (h : Rd kd w u ((l.drop k).take 1)) (hn : k + 1 ≤ l.length) : ∃ b o cap, u = .slice (some ⟨b, o, none⟩) 1 cap ∧ 1 ≤ cap ∧ w.cell? ⟨b, o, none⟩ = some (.int kd (l.getD k 0)) := by
  have hlen : ((l.drop k).take 1).length = 1 := by simp; omega
  obtain ⟨a, cap, rfl, h1, h2, h3⟩ := h
  rw [hlen] at h1 h3 ⊢
  rcases h3 with h3 | ⟨b, o, rfl, h3⟩
  · rw [h3] at hlen; cases hlen
  · refine ⟨b, o, cap, rfl, h1, ?_⟩
    have := h3 0 (by decide)
    simpa [List.getD, List.getElem?_take, List.getElem?_drop] using this

theorem u8_ok (B : Nat) (bv : Value) (l : List Int) (k : Nat) (hn : k + 1 ≤ l.length) (w : World) (h : Rdr w B bv l k) : Calls Try.prog 41 #[rp B] w fun x w' => x = .returned (.int .u8 (l.getD k 0)) ∧ Rdr w' B bv l (k + 1) ∧ Mv B w w' := by
  go_enter Try.func41, Try.ntmps41
  go_wp2_with fail
  refine (shut_open B _ l k _ h).mono ?_
  rintro e w1 ⟨rfl, hx1⟩
  have h1 := h.ext hx1
  clear h
  go_wp2_with fail
  refine (take_ok B _ l k 1 hn _ h1).mono ?_
  rintro e w2 ⟨u, rfl, hr, h2, hm2⟩
  obtain ⟨b, o, cap, rfl, hcap, c0⟩ := hr.one hn
  clear hr h1 hcap
  generalize hxe : l.getD k 0 = x at *
  go_wp2_with fail
  go_ret
  exact ⟨by rw [hxe]; rfl, h2, (Mv.ofExt hx1).tr hm2⟩

theorem u8_short (B : Nat) (bv : Value) (l : List Int) (k : Nat) (hn : l.length < k + 1) (w : World) (h : Rdr w B bv l k) : Calls Try.prog 41 #[rp B] w fun x w' => x = .panicked [{ v := gone B 4, recovered := false }] ∧ Ext w w' := by
  go_enter Try.func41, Try.ntmps41
  go_wp2_with fail
  refine (shut_open B _ l k _ h).mono ?_
  rintro e w1 ⟨rfl, hx1⟩
  have h1 := h.ext hx1
  clear h
  go_wp2_with fail
  refine (take_short B _ l k 1 hn (by decide) _ h1).mono ?_
  rintro e w2 ⟨rfl, hx2⟩
  exact ⟨rfl, rfl, Ext.tr hx1 hx2⟩

theorem bytes_short (B : Nat) (bv : Value) (l : List Int) (k n : Nat) (hn : l.length < k + n) (hn63 : n ≤ 140737488355328) (w : World) (h : Rdr w B bv l k) : Calls Try.prog 46 #[rp B, .int .i64 n] w fun x w' => x = .panicked [{ v := gone B 4, recovered := false }] ∧ Ext w w' := by
  go_enter Try.func46, Try.ntmps46
  go_wp2_with fail
  refine (shut_open B _ l k _ h).mono ?_
  rintro e w1 ⟨rfl, hx1⟩
  have h1 := h.ext hx1
  clear h
  go_wp2_with fail
  refine (take_short B _ l k n hn hn63 _ h1).mono ?_
  rintro e w2 ⟨rfl, hx2⟩
  exact ⟨rfl, rfl, Ext.tr hx1 hx2⟩

theorem join32 (a b : Int) (k : Nat) (ha : 0 ≤ a) (hb : 0 ≤ b) (hb' : b < ((2 ^ k : Nat) : Int)) (hx : a * ((2 ^ k : Nat) : Int) + b ≤ 4294967295) : bits BinOp.or IntKind.u32 (a * ((2 ^ k : Nat) : Int)) b = a * ((2 ^ k : Nat) : Int) + b := by
  obtain ⟨m, rfl⟩ := Int.eq_ofNat_of_zero_le ha
  obtain ⟨n, rfl⟩ := Int.eq_ofNat_of_zero_le hb
  have h1 : (m : Int) * ((2 ^ k : Nat) : Int) = ((m * 2 ^ k : Nat) : Int) := by rw [Int.natCast_mul]
  rw [h1] at hx ⊢
  rw [u32_or _ _ (by omega) (by omega) (by omega) (by omega)]
  have hn : n < 2 ^ k := by omega
  rw [Int.toNat_natCast, Int.toNat_natCast, show m * 2 ^ k ||| n = m * 2 ^ k + n from by rw [Nat.mul_comm, Nat.two_pow_add_eq_or_of_lt hn]]
  omega

theorem _root_.Go.Cul.Rd.four {w : World} {u : Value} {l : List Int} {k : Nat} {kd : IntKind} (h : Rd kd w u ((l.drop k).take 4)) (hn : k + 4 ≤ l.length) : ∃ b o cap, u = .slice (some ⟨b, o, none⟩) 4 cap ∧ 4 ≤ cap ∧ w.cell? ⟨b, o, none⟩ = some (.int kd (l.getD k 0)) ∧ w.cell? ⟨b, o + 1, none⟩ = some (.int kd (l.getD (k + 1) 0)) ∧
    w.cell? ⟨b, o + 2, none⟩ = some (.int kd (l.getD (k + 2) 0)) ∧ w.cell? ⟨b, o + 3, none⟩ = some (.int kd (l.getD (k + 3) 0)) := by
  have hlen : ((l.drop k).take 4).length = 4 := by simp; omega
  obtain ⟨a, cap, rfl, h1, h2, h3⟩ := h
  rw [hlen] at h1 h3 ⊢
  rcases h3 with h3 | ⟨b, o, rfl, h3⟩
  · rw [h3] at hlen; cases hlen
  · refine ⟨b, o, cap, rfl, h1, ?_, ?_, ?_, ?_⟩
    · have := h3 0 (by decide)
      simpa [List.getD, List.getElem?_take, List.getElem?_drop] using this
    · have := h3 1 (by decide)
      simpa [List.getD, List.getElem?_take, List.getElem?_drop] using this
    · have := h3 2 (by decide)
      simpa [List.getD, List.getElem?_take, List.getElem?_drop] using this
    · have := h3 3 (by decide)
      simpa [List.getD, List.getElem?_take, List.getElem?_drop] using this

/-- The number of four bytes at a place. -/
def be32 (l : List Int) (k : Nat) : Int := l.getD k 0 * 16777216 + l.getD (k + 1) 0 * 65536 + l.getD (k + 2) 0 * 256 + l.getD (k + 3) 0
theorem be32_bd {l : List Int} (h : Byt l) (k : Nat) : 0 ≤ be32 l k ∧ be32 l k ≤ 4294967295 := by
  have h1 := h.getD' k
  have h2 := h.getD' (k + 1)
  have h3 := h.getD' (k + 2)
  have h4 := h.getD' (k + 3)
  unfold be32; omega

theorem u32_ok (B : Nat) (bv : Value) (l : List Int) (k : Nat) (hl : Byt l) (hn : k + 4 ≤ l.length) (w : World) (h : Rdr w B bv l k) : Calls Try.prog 57 #[rp B] w fun x w' => x = .returned (.int .u32 (be32 l k)) ∧ Rdr w' B bv l (k + 4) ∧ Mv B w w' := by
  go_enter Try.func57, Try.ntmps57
  go_wp2_with fail
  refine (shut_open B _ l k _ h).mono ?_
  rintro e w1 ⟨rfl, hx1⟩
  have h1 := h.ext hx1
  clear h
  go_wp2_with fail
  refine (take_ok B _ l k 4 hn _ h1).mono ?_
  rintro e w2 ⟨u, rfl, hr, h2, hm2⟩
  obtain ⟨b, o, cap, rfl, hcap, c0, c1, c2, c3⟩ := hr.four hn
  clear hr h1
  have q0 := hl.getD' k
  have q1 := hl.getD' (k + 1)
  have q2 := hl.getD' (k + 2)
  have q3 := hl.getD' (k + 3)
  have hbe : Hid (be32 l k = l.getD k 0 * 16777216 + l.getD (k + 1) 0 * 65536 + l.getD (k + 2) 0 * 256 + l.getD (k + 3) 0) := rfl
  generalize l.getD k 0 = x0 at *
  generalize l.getD (k + 1) 0 = x1 at *
  generalize l.getD (k + 2) 0 = x2 at *
  generalize l.getD (k + 3) 0 = x3 at *
  have o1 : bits BinOp.or IntKind.u32 (x0 * 16777216) (x1 * 65536) = x0 * 16777216 + x1 * 65536 := join32 x0 (x1 * 65536) 24 (by omega) (by omega) (by omega) (by omega)
  have o2 : bits BinOp.or IntKind.u32 (x0 * 16777216 + x1 * 65536) (x2 * 256) = x0 * 16777216 + x1 * 65536 + x2 * 256 := by
    have := join32 (x0 * 256 + x1) (x2 * 256) 16 (by omega) (by omega) (by omega) (by omega)
    rw [show (x0 * 256 + x1) * ((2 ^ 16 : Nat) : Int) = x0 * 16777216 + x1 * 65536 by omega] at this
    exact this
  have o3 : bits BinOp.or IntKind.u32 (x0 * 16777216 + x1 * 65536 + x2 * 256) x3 = x0 * 16777216 + x1 * 65536 + x2 * 256 + x3 := by
    have := join32 (x0 * 65536 + x1 * 256 + x2) x3 8 (by omega) (by omega) (by omega) (by omega)
    rw [show (x0 * 65536 + x1 * 256 + x2) * ((2 ^ 8 : Nat) : Int) = x0 * 16777216 + x1 * 65536 + x2 * 256 by omega] at this
    exact this
  have e0 : IntKind.u32.wrap x0 = x0 := by rw [IntKind.wrap_u32]; omega
  have e1 : IntKind.u32.wrap x1 = x1 := by rw [IntKind.wrap_u32]; omega
  have e2 : IntKind.u32.wrap x2 = x2 := by rw [IntKind.wrap_u32]; omega
  have e3 : IntKind.u32.wrap x3 = x3 := by rw [IntKind.wrap_u32]; omega
  have f0 : IntKind.u32.wrap (x0 * 16777216) = x0 * 16777216 := by rw [IntKind.wrap_u32]; omega
  have f1 : IntKind.u32.wrap (x1 * 65536) = x1 * 65536 := by rw [IntKind.wrap_u32]; omega
  have f2 : IntKind.u32.wrap (x2 * 256) = x2 * 256 := by rw [IntKind.wrap_u32]; omega
  clear q0 q1 q2 q3 hcap
  go_wp2_with fail
  go_quiet (fail)
  go_wp2_with fail
  go_ret
  exact ⟨by rw [hbe.out]; rfl, h2.ext (Ext.drN (Ext.rfl' _) _), (Mv.ofExt hx1).tr (hm2.tr (Mv.ofExt (Ext.drN (Ext.rfl' _) _)))⟩
end Go.Proofs.Ytckdcjheflgmdaa
