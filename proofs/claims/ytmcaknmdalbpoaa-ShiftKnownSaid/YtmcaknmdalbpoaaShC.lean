/-
  Proved here: plain laws of segments over two shifts: options over one shift and then another are over their sum; over what takes a shift back the blocks are as they were; a short segment goes over in one piece.
-/
import Derived.Test.YtmcaknmdalbpoaaShB
namespace Go.Proofs.Ytmcaknmdalbpoaa
set_option maxRecDepth 16000
open Go Go.Cul
set_option linter.unusedVariables false

theorem osacks_cons (o : Op1) (r : List Op1) : osacks (o :: r) = if kl 5 okS o then bks o.2 else osacks r := by
  unfold osacks fndO
  rw [List.find?_cons]
  cases h : kl 5 okS o <;> simp
theorem osacks_one (o : Op1) : osacks [o] = if kl 5 okS o then bks o.2 else [] := by
  rw [osacks_cons]; rfl
theorem okS_of {o : Op1} (h : kl 5 okS o = true) : o.1 = 5 ∧ 0 < o.2.length ∧ o.2.length % 8 = 0 ∧ o.2.length ≤ 32 := by
  unfold kl okS at h
  simp at h
  omega
theorem bks_len (D : List Int) : (bks D).length = D.length / 8 := by unfold bks; simp
theorem osacks_none (o : Op1) : decide ((osacks [o]).length = 0) = !kl 5 okS o := by
  rw [osacks_one]
  cases h : kl 5 okS o
  · simp
  · have := okS_of h
    simp [bks_len]
    omega
theorem mvB_len' (x : Shf) (bs : List Bk) : (mvB x bs).length = bs.length := by unfold mvB; simp
/-- A SACK option over a shift: its option, its blocks. -/
theorem moved {x : Shf} {D : List Int} (h : kl 5 okS (5, D) = true) : (owith (mvB x (bks D))).1 = (5, flatB (mvB x (bks D))) ∧ kl 5 okS (5, flatB (mvB x (bks D))) = true ∧ bks (flatB (mvB x (bks D))) = mvB x (bks D) := by
  obtain ⟨-, h1, h2, h3⟩ := okS_of h
  dsimp only at h1 h2 h3
  have hl : (mvB x (bks D)).length = D.length / 8 := by rw [mvB_len', bks_len]
  refine ⟨owith_len (by omega) (by omega), ?_, bks_flat mvB_ok⟩
  unfold kl okS
  rw [flatB_len, hl]
  simp
  omega
theorem mvB_mvB {x y z : Shf} (h : z.ak % 4294967296 = (x.ak + y.ak) % 4294967296) (bs : List Bk) : mvB y (mvB x bs) = mvB z bs := by
  unfold mvB
  rw [List.map_map]
  apply List.map_congr_left
  intro b _
  show ((_ + _) % _, (_ + _) % _) = ((_ + _) % _, (_ + _) % _)
  dsimp only
  rw [Prod.mk.injEq]
  constructor <;> omega
theorem mvB_zero {z : Shf} (h : z.ak % 4294967296 = 0) {bs : List Bk} (hb : okB bs) : mvB z bs = bs := by
  unfold mvB
  conv => rhs; rw [← List.map_id bs]
  apply List.map_congr_left
  intro b hb'
  obtain ⟨h1, h2⟩ := hb b hb'
  show (_, _) = b
  rw [show b = (b.1, b.2) from rfl, Prod.mk.injEq]
  dsimp only
  constructor <;> omega
theorem sovG_app (x : Shf) : ∀ (a b : List Op1) (t : Bool), ∃ t', sovG x t (a ++ b) = sovG x t a ++ sovG x t' b
  | [], b, t => ⟨t, rfl⟩
  | o :: r, b, t => by
    obtain ⟨t', h⟩ := sovG_app x r b (sone x t o).2
    refine ⟨t', ?_⟩
    show (sone x t o).1 ++ sovG x (sone x t o).2 (r ++ b) = ((sone x t o).1 ++ sovG x (sone x t o).2 r) ++ sovG x t' b
    rw [h, List.append_assoc]
theorem sone_no {x : Shf} {t : Bool} {o : Op1} (h : keepK o = false) : sone x t o = ([], t) := by unfold sone; rw [if_neg (by simp [h])]
/-- Over one shift, then over another. -/
theorem sovG_two {x y z : Shf} (hx : x.sack = true) (hy : y.sack = true) (hz : z.sack = true) (h : z.ak % 4294967296 = (x.ak + y.ak) % 4294967296) : ∀ (os : List Op1) (t : Bool), sovG y t (sovG x t os) = sovG z t os
  | [], _ => rfl
  | (k, D) :: r, t => by
    have ih := sovG_two hx hy hz h r
    show sovG y t ((sone x t (k, D)).1 ++ sovG x (sone x t (k, D)).2 r) = (sone z t (k, D)).1 ++ sovG z (sone z t (k, D)).2 r
    cases hk : keepK (k, D)
    · rw [sone_no hk, sone_no hk]; exact ih t
    · by_cases h5 : k = 5
      · subst h5
        cases hs : (t || !kl 5 okS (5, D))
        · simp only [Bool.or_eq_false_iff, Bool.not_eq_false'] at hs
          obtain ⟨rfl, hs⟩ := hs
          obtain ⟨m1, m2, m3⟩ := moved (x := x) hs
          rw [sone_sack (by rw [hx, osacks_none, hs]; rfl), sone_sack (by rw [hz, osacks_none, hs]; rfl)]
          have ho : osacks [(5, D)] = bks D := by rw [osacks_one, if_pos hs]
          rw [ho, m1]
          have ho2 : osacks [(5, flatB (mvB x (bks D)))] = mvB x (bks D) := by rw [osacks_one, if_pos m2]; exact m3
          show (sone y false (5, flatB (mvB x (bks D)))).1 ++ sovG y (sone y false (5, flatB (mvB x (bks D)))).2 (sovG x true r) = _
          rw [sone_sack (by rw [hy, osacks_none, m2]; rfl), ho2, mvB_mvB h]
          show _ ++ sovG y true (sovG x true r) = _
          rw [ih true]
        · have e : ∀ q : Shf, q.sack = true → sone q t (5, D) = ([], t) := fun q hq => sone_skip (by rw [hq, osacks_none]; simpa using hs)
          rw [e x hx, e z hz]
          exact ih t
      · rw [sone_other hk h5, sone_other hk h5]
        show (sone y t (k, D)).1 ++ sovG y (sone y t (k, D)).2 (sovG x t r) = _
        rw [sone_other hk h5, ih t]
/-- Over a shift that moves nothing the blocks are as they were. -/
theorem osacks_zero {z : Shf} (hz : z.sack = true) (h : z.ak % 4294967296 = 0) : ∀ {os : List Op1}, BytO os → osacks (sovG z false os) = osacks os
  | [], _ => rfl
  | (k, D) :: r, hb => by
    have ih := osacks_zero hz h (fun o ho => hb o (List.mem_cons_of_mem _ ho) : BytO r)
    show osacks ((sone z false (k, D)).1 ++ sovG z (sone z false (k, D)).2 r) = _
    rw [osacks_cons (k, D) r]
    cases hk : keepK (k, D)
    · rw [sone_no hk, if_neg]
      · exact ih
      · intro hc
        have := (okS_of hc).1
        dsimp only at this
        subst this
        exact absurd hk (by unfold keepK; simp)
    · by_cases h5 : k = 5
      · subst h5
        cases hs : kl 5 okS (5, D)
        · rw [sone_skip (by rw [hz, osacks_none, hs]; rfl), if_neg (by simp)]
          exact ih
        · obtain ⟨m1, m2, m3⟩ := moved (x := z) hs
          rw [sone_sack (by rw [hz, osacks_none, hs]; rfl), if_pos rfl]
          have ho : osacks [(5, D)] = bks D := by rw [osacks_one, if_pos hs]
          rw [ho, m1]
          show osacks ((5, flatB (mvB z (bks D))) :: _) = _
          rw [osacks_cons, if_pos m2, m3]
          refine mvB_zero h ?_
          intro b hb'
          unfold bks at hb'
          obtain ⟨i, _, rfl⟩ := List.mem_map.1 hb'
          have hD := (hb (5, D) (List.mem_cons_self ..)).2
          exact ⟨be32_bd hD _, be32_bd hD _⟩
      · rw [sone_other hk h5]
        show osacks ((k, D) :: sovG z false r) = _
        rw [osacks_cons, ih]

/-- A short segment goes over in one piece. -/
theorem one_piece {x : Shf} {g : Sg} (hm : x.may = true) (hx : x.mss = 1460) (hp : (oput g.os).2 = 0) (hf : fl g.f 2 = false) (hd : g.data.length ≤ 500) : overL x g = ([pieceS (overS x g) 0 g.data.length], 0) := by
  rw [over_good hm hp hf]
  obtain ⟨hN, hv⟩ := overN_bd hm g
  have hl := (oput_len (sov x g.os)).1
  have hN2 : 1420 ≤ overN x g := by
    rw [hx, if_neg (by omega)] at hv
    omega
  generalize overN x g = N at *
  have hc : cnt g.data.length N = 1 := by
    unfold cnt
    split
    · rfl
    · rw [Nat.div_eq_of_lt_le (k := 1) (by omega) (by omega)]
  rw [hc]
  have hd' : (overS x g).data = g.data := rfl
  simp only [List.range_one, List.map_cons, List.map_nil]
  congr 2
  unfold pieceAt
  rw [hd', Nat.zero_mul, Nat.sub_zero, Nat.min_eq_right (by omega)]
theorem piece_whole {x : Shf} {g : Sg} (hp : (oput g.os).2 = 0) (hu : 0 ≤ g.urg) (hs : 0 ≤ g.seq ∧ g.seq ≤ 4294967295) : pieceS (overS x g) 0 g.data.length = overS x g := by
  unfold pieceS
  have h1 : ((overS x g).seq + ((0 : Nat) : Int)) % 4294967296 = (overS x g).seq := by
    show ((g.seq + x.sq) % 4294967296 + ((0 : Nat) : Int)) % 4294967296 = (g.seq + x.sq) % 4294967296
    omega
  have h2 : owo (overS x g).os 0 = (overS x g).os := (sov_good hp).2
  have h3 : ((overS x g).data.drop 0).take g.data.length = (overS x g).data := by
    show (g.data.drop 0).take g.data.length = g.data
    simp
  have h4 : pieceU (overS x g).urg 0 = (overS x g).urg := by
    show pieceU g.urg 0 = g.urg
    unfold pieceU
    split <;> omega
  have h5 : pieceF (overS x g) 0 g.data.length = (overS x g).f := by
    unfold pieceF
    rw [if_neg (by omega), if_neg (by show ¬ 0 + g.data.length < g.data.length; omega)]
  rw [h1, h2, h3, h4, h5]
end Go.Proofs.Ytmcaknmdalbpoaa
