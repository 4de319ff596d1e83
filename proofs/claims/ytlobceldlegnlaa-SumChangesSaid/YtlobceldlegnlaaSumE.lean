/-
  Proved here: the helpers of the sum's laws: even, lay, word, zeros. Conditions: bytes, at most 2^47 - 4096; an even number of them, at least four, for lay, word, zeros.
-/
import Derived.Test.YtlobceldlegnlaaPseudo
import Derived.Test.YtlobceldlegnlaaOwn2
import Derived.RegionTactic
import Derived.Test.YtlobceldlegnlaaBits
namespace Go.Proofs.Ytlobceldlegnlaa
open Go.ChangeShapes Go.WideShapes Go.ChangeAt Go.RowKit Go.Cul
set_option linter.unusedVariables false

def padn (n : Nat) : Nat := if n < 4 then 4 - n else n % 2
def ev (l : List Int) : List Int := l ++ List.replicate (padn l.length) 0
theorem padn_le (n : Nat) : padn n ≤ 4 := by unfold padn; split <;> omega
theorem ev_len (l : List Int) : (ev l).length = l.length + padn l.length := by simp [ev]
theorem ev_ok (l : List Int) : 4 ≤ (ev l).length ∧ (ev l).length % 2 = 0 := by rw [ev_len]; unfold padn; split <;> omega
theorem ev_byt {l : List Int} (h : Byt l) : Byt (ev l) := h.app (fun x hx => by have := List.eq_of_mem_replicate hx; omega)

theorem rep_snoc (l : List Int) (j : Nat) : (l ++ List.replicate j 0) ++ [0] = l ++ List.replicate (j + 1) 0 := by rw [List.append_assoc, ← List.replicate_succ']

theorem even_any (v : Value) (l : List Int) (w : World) (hv : Rd .u8 w v l) (hn : l.length ≤ 140737488351232) :
    Calls Try.prog 17 #[v] w fun e w' => ∃ u, e = .returned u ∧ Own w' w.heap.size 5 .u8 u (ev l) ∧ Ext w w' := by
  have hp4 := padn_le l.length
  have hpd : Hid (padn l.length = if l.length < 4 then 4 - l.length else l.length % 2) := rfl
  go_enter Try.func17, Try.ntmps17
  go_wp2_with (at_builtin; go_must (refine wpList_app isU8 rfl (.const (.slice none 0 0)) (.tmp 4) rfl w.heap.size _ [] rfl (Own.nil _ _ _ _) _ l rfl hv (by simp; omega) (by simp [maxLen]; omega) (by simp) ?_); intro v1 w1 hown1 hg1 hat1)
  have hb1 : Ext w w1 := (Own.nil _ _ _ _ : Own _ w.heap.size 5 .u8 _ []).below hg1 (Ext.rfl' w) (by simp)
  clear hg1 hat1
  go_loopw [3] (fun o wr => ∃ j : Nat, j ≤ padn l.length ∧ Own wr w.heap.size 5 .u8 o (l ++ List.replicate j 0) ∧ Ext w wr) (fun o _ => l.length + 4 - (match o with | .slice _ n _ => n | _ => 0))
  case atStart => exact ⟨0, Nat.zero_le _, by simpa using hown1, hb1⟩
  case round =>
    rename_i o
    obtain ⟨j, hj, hown, hb⟩ := hrel
    have hlen : (l ++ List.replicate j 0).length = l.length + j := by simp
    have hrd := hown.rd
    obtain ⟨a, cap, rfl, hc1, hc2, _⟩ := hrd
    rw [hlen] at hc1 hown ⊢
    have Hlen := Lib.hid hlen
    clear hlen
    unfold maxLen at hc2
    have hpo := hpd.out
    by_cases h4 : l.length + j < 4
    · have hj' : j < padn l.length := by rw [hpo]; rw [hpo] at hj; split <;> (split at hj <;> omega)
      have h4' : (l.length : Int) + j < 4 := by omega
      clear hpo h4
      go_wp2_with (at_builtin; go_must (refine wpList_app isU8 rfl (.tmp 15) (.tmp 16) rfl w.heap.size _ _ rfl (hown.kept (Ext.new _ _)) _ [0] rfl (rd_new .u8 _ _ _ _ rfl rfl rfl rfl (by decide)) (by rw [Hlen.out]; simp; omega) (by rw [Hlen.out]; simp [maxLen]; omega) (by have := hb.size; simp; omega) ?_); intro v2 w2 hown2 hg2 hat2)
      have hb2 : Ext w w2 := (hown.kept (Ext.new _ _)).below hg2 (hb.al _) (by have := hb.size; simp; omega)
      rw [rep_snoc] at hown2
      obtain ⟨a2, cap2, rfl, _⟩ := hown2.rd
      have hl2 : (l ++ List.replicate (j + 1) (0 : Int)).length = l.length + (j + 1) := by simp
      rw [hl2] at hown2 ⊢
      clear hg2 hat2
      exact ⟨⟨j + 1, by omega, hown2, hb2⟩, by simp; omega⟩
    · by_cases hodd : (l.length + j) % 2 = 1
      · have hj' : j < padn l.length := by rw [hpo]; rw [hpo] at hj; split <;> (split at hj <;> omega)
        have h4' : ¬ ((l.length : Int) + j < 4) := by omega
        have h5' : (((l.length : Int) + j) % 2 == 1) = true := by rw [beq_iff_eq]; omega
        clear hpo h4 hodd
        go_wp2_with (at_builtin; go_must (refine wpList_app isU8 rfl (.tmp 15) (.tmp 16) rfl w.heap.size _ _ rfl (hown.kept (Ext.new _ _)) _ [0] rfl (rd_new .u8 _ _ _ _ rfl rfl rfl rfl (by decide)) (by rw [Hlen.out]; simp; omega) (by rw [Hlen.out]; simp [maxLen]; omega) (by have := hb.size; simp; omega) ?_); intro v2 w2 hown2 hg2 hat2)
        have hb2 : Ext w w2 := (hown.kept (Ext.new _ _)).below hg2 (hb.al _) (by have := hb.size; simp; omega)
        rw [rep_snoc] at hown2
        obtain ⟨a2, cap2, rfl, _⟩ := hown2.rd
        have hl2 : (l ++ List.replicate (j + 1) (0 : Int)).length = l.length + (j + 1) := by simp
        rw [hl2] at hown2 ⊢
        clear hg2 hat2
        exact ⟨⟨j + 1, by omega, hown2, hb2⟩, by simp; omega⟩
      · have hj' : j = padn l.length := by rw [hpo]; rw [hpo] at hj; split <;> (split at hj <;> omega)
        have h4' : ¬ ((l.length : Int) + j < 4) := by omega
        have h5' : (((l.length : Int) + j) % 2 == 1) = false := by rw [beq_eq_false_iff_ne]; omega
        have HJ := Lib.hid hj'
        clear hpo h4 hodd hj'
        go_wp2_with fail
        go_ret
        refine ⟨_, rfl, ?_, hb⟩
        rw [show ev l = l ++ List.replicate j 0 from by rw [HJ.out]; rfl]
        exact hown
/-- Where a word lies. -/
def pl (n t : Nat) : Nat := 2 * (t % (n / 2))
theorem pl_lt {n t : Nat} (h : 4 ≤ n) (h2 : n % 2 = 0) : pl n t + 1 < n := by
  unfold pl
  have := Nat.mod_lt t (show 0 < n / 2 by omega)
  omega
def layl (l : List Int) (t : Nat) (x : Int) : List Int := (l.set (pl l.length t) (x / 256)).set (pl l.length t + 1) (x % 256)
theorem layl_len (l : List Int) (t : Nat) (x : Int) : (layl l t x).length = l.length := by simp [layl]
def wordl (l : List Int) (t : Nat) : Int := l.getD (pl l.length t) 0 * 256 + l.getD (pl l.length t + 1) 0

theorem grown_set2 {w : World} {g i j : Nat} {u u' : Value} : w.grownBy ((w.setCell ⟨g, i, none⟩ u).setCell ⟨g, j, none⟩ u') (some g) :=
  ⟨rfl, rfl, rfl, by simp [World.setCell], fun k _ hk => by
    show ((w.setCell _ _).setCell _ _).heap[k]? = _
    rw [Below.heap_setCell _ _ _ _ (fun e => hk (by rw [e])), Below.heap_setCell _ _ _ _ (fun e => hk (by rw [e]))]⟩

theorem lay_any (v : Value) (l : List Int) (t : Nat) (x : Int) (w : World) (base : Nat) (hv : Own w base 5 .u8 v l) (h4 : 4 ≤ l.length) (h2 : l.length % 2 = 0) (ht : (t : Int) ≤ 9223372036854775807) (hx : 0 ≤ x ∧ x ≤ 65535) :
    Calls Try.prog 18 #[v, .int .i64 t, .int .u16 x] w fun e w' => e = .returned (.tuple #[]) ∧ Own w' base 5 .u8 v (layl l t x) ∧ w.grownBy w' v.ownBlock ∧ w'.heap.size = w.heap.size := by
  have hk := pl_lt (t := t) h4 h2
  have hpl : Hid (pl l.length t = 2 * (t % (l.length / 2))) := rfl
  have hlay : Hid (layl l t x = (l.set (pl l.length t) (x / 256)).set (pl l.length t + 1) (x % 256)) := rfl
  obtain ⟨g, cap, rfl, hg1, hg2, hcell, hfz, hc1, hc2, hset⟩ := hv.open (by omega)
  have hs1 := hset (x / 256) (pl l.length t) (by omega)
  obtain ⟨g', cap', he, -, -, hcell', hfz', -, -, hset'⟩ := hs1.open (by simp; omega)
  simp only [Value.slice.injEq, Option.some.injEq, Addr.mk.injEq] at he
  obtain ⟨⟨rfl, -, -⟩, -, rfl⟩ := he
  have hs2 := hset' (x % 256) (pl l.length t + 1) (by simp; omega)
  have c1 := hcell (pl l.length t) (by omega)
  have c2 := hcell' (pl l.length t + 1) (by simp; omega)
  have f1 := hfz (pl l.length t)
  have f2 := hfz' (pl l.length t + 1)
  have n0 : (((l.length : Int) / 2) == 0) = false := by rw [beq_eq_false_iff_ne]; omega
  have n1 : 0 < (l.length : Int) / 2 := by omega
  have hm : (t : Int) % ((l.length : Int) / 2) < (l.length : Int) / 2 := Int.emod_lt_of_pos _ n1
  have hm0 : 0 ≤ (t : Int) % ((l.length : Int) / 2) := Int.emod_nonneg _ (by omega)
  clear hset hset' hcell hcell' hfz hfz' hs1
  unfold maxLen at hc2
  rw [hpl.out] at c1 c2 f1 f2 hs2 hk
  have Hs2 := Lib.hid hs2
  clear hs2 hv
  go_enter Try.func18, Try.ntmps18
  go_wp2_with fail
  go_end0
  exact ⟨rfl, by rw [hlay.out, hpl.out]; exact Hs2.out, grown_set2, by simp [World.setCell]⟩

theorem or8_u16' (x y : Int) (h : 0 ≤ x) (h' : x ≤ 255) (hy : 0 ≤ y) (hy' : y ≤ 255) : bits BinOp.or IntKind.u16 (IntKind.u16.wrap (x * 256)) y = x * 256 + y := by
  rw [IntWalk.u16_in _ (by omega)]; exact or8_u16 x y h h' hy hy'

theorem word2_any (v : Value) (l : List Int) (t : Nat) (w : World) (hv : Rd .u8 w v l) (hb : Byt l) (h4 : 4 ≤ l.length) (h2 : l.length % 2 = 0) (ht : (t : Int) ≤ 9223372036854775807) :
    Calls Try.prog 21 #[v, .int .i64 t] w fun e w' => e = .returned (.int .u16 (wordl l t)) ∧ Ext w w' := by
  have hk := pl_lt (t := t) h4 h2
  have hpl : Hid (pl l.length t = 2 * (t % (l.length / 2))) := rfl
  have hwl : Hid (wordl l t = l.getD (pl l.length t) 0 * 256 + l.getD (pl l.length t + 1) 0) := rfl
  obtain ⟨a, cap, rfl, hc1, hc2, hr⟩ := hv
  rcases hr with hr | ⟨b, o, rfl, hr⟩
  · subst hr; simp at h4
  have c1 := hr (pl l.length t) (by omega)
  have c2 := hr (pl l.length t + 1) (by omega)
  have b1 := hb.at (pl l.length t)
  have b2 := hb.at (pl l.length t + 1)
  have hor := or8_u16 _ _ b1.1 b1.2 b2.1 b2.2
  have n0 : (((l.length : Int) / 2) == 0) = false := by rw [beq_eq_false_iff_ne]; omega
  have n1 : 0 < (l.length : Int) / 2 := by omega
  have hm : (t : Int) % ((l.length : Int) / 2) < (l.length : Int) / 2 := Int.emod_lt_of_pos _ n1
  have hm0 : 0 ≤ (t : Int) % ((l.length : Int) / 2) := Int.emod_nonneg _ (by omega)
  unfold maxLen at hc2
  rw [hpl.out] at c1 c2 b1 b2 hk hor
  generalize hx : l.getD (2 * (t % (l.length / 2))) 0 = x at *
  generalize hy : l.getD (2 * (t % (l.length / 2)) + 1) 0 = y at *
  have HX := Lib.hid hx
  have HY := Lib.hid hy
  clear hr hb hx hy
  go_enter Try.func21, Try.ntmps21
  go_wp2_with fail
  go_region
  go_wp2_with fail
  go_ret
  exact ⟨ret_int (by rw [hwl.out, hpl.out, HX.out, HY.out]), Ext.draw w⟩

/-- All bytes are 0, but for the word at a place. -/
def zeroAt (l : List Int) (t i : Nat) : Bool := l.getD i 0 == 0 || i / 2 == t % (l.length / 2)
def zerosl (l : List Int) (t : Nat) : Bool := (List.range l.length).all (zeroAt l t)
theorem zerosl_true {l : List Int} {t : Nat} (h : ∀ i, i < l.length → zeroAt l t i = true) : zerosl l t = true := List.all_eq_true.2 fun i hi => h i (List.mem_range.1 hi)
theorem zerosl_false {l : List Int} {t i : Nat} (hi : i < l.length) (h : zeroAt l t i = false) : zerosl l t = false := by
  rw [← Bool.not_eq_true]
  intro h'
  have := List.all_eq_true.1 h' i (List.mem_range.2 hi)
  rw [h] at this
  cases this

theorem zeros_any (v : Value) (l : List Int) (t : Nat) (w : World) (hv : Rd .u8 w v l) (h4 : 4 ≤ l.length) (ht : (t : Int) ≤ 9223372036854775807) :
    Calls Try.prog 19 #[v, .int .i64 t] w fun e w' => e = .returned (.bool (zerosl l t)) ∧ w' = w := by
  obtain ⟨a, cap, rfl, hc1, hc2, hr⟩ := hv
  rcases hr with hr | ⟨b, o, rfl, hr⟩
  · subst hr; simp at h4
  unfold maxLen at hc2
  have n0 : (((l.length : Int) / 2) == 0) = false := by rw [beq_eq_false_iff_ne]; omega
  have n1 : 0 < (l.length : Int) / 2 := by omega
  have Hr := Lib.hid hr
  clear hr
  go_enter Try.func19, Try.ntmps19
  go_wp2_with fail
  go_loop [5] (fun i => ∃ k : Nat, k ≤ l.length ∧ i = .int .i64 k ∧ Hid (∀ j, j < k → zeroAt l t j = true)) (fun i => l.length - (intOf i).toNat)
  case atStart => exact ⟨0, Nat.zero_le _, rfl, fun j hj => absurd hj (by omega)⟩
  case round =>
    obtain ⟨k, hk, rfl, hall⟩ := hrel
    by_cases hlt : k < l.length
    · have hc := Hr.out k hlt
      have hcast : (t : Int) % ((l.length : Int) / 2) = ((t % (l.length / 2) : Nat) : Int) := by rw [Int.natCast_emod, Int.natCast_ediv]; rfl
      have hz : Hid (zeroAt l t k = (l.getD k 0 == 0 || k / 2 == t % (l.length / 2))) := rfl
      by_cases hx : l.getD k 0 = 0
      · have hz' : zeroAt l t k = true := by rw [hz.out, hx]; rfl
        have HZ := Lib.hid hz'
        rw [hx] at hc
        clear hx hz' hcast
        go_wp2_with fail
        go_round
        case rel =>
          refine ⟨k + 1, by omega, by go_num, fun j hj => ?_⟩
          rcases (by omega : j < k ∨ j = k) with h | rfl
          · exact hall.out j h
          · exact HZ.out
        case measure => simp [intOf]; omega
      · have hx' : (l.getD k 0 != 0) = true := by rw [bne_iff_ne]; exact hx
        by_cases hp : k / 2 = t % (l.length / 2)
        · have hz' : zeroAt l t k = true := by rw [hz.out]; simp [hp]
          have hq : (((k : Int) / 2) != (t : Int) % ((l.length : Int) / 2)) = false := by
            rw [bne_eq_false_iff_eq, hcast]; omega
          have HZ := Lib.hid hz'
          generalize l.getD k 0 = x at *
          clear hx hp hz' hcast
          go_wp2_with fail
          go_round
          case rel =>
            refine ⟨k + 1, by omega, by go_num, fun j hj => ?_⟩
            rcases (by omega : j < k ∨ j = k) with h | rfl
            · exact hall.out j h
            · exact HZ.out
          case measure => simp [intOf]; omega
        · have hz' : zeroAt l t k = false := by rw [hz.out]; simp [hp]; simpa using hx
          have hq : (((k : Int) / 2) != (t : Int) % ((l.length : Int) / 2)) = true := by
            rw [bne_iff_ne, hcast]; omega
          have HZ := Lib.hid (zerosl_false hlt hz')
          generalize l.getD k 0 = x at *
          clear hx hp hz' hcast
          go_wp2_with fail
          go_ret
          exact ⟨by rw [HZ.out]; rfl, rfl⟩
    · obtain rfl : k = l.length := by omega
      have HZ := Lib.hid (zerosl_true hall.out)
      go_wp2_with fail
      go_ret
      exact ⟨by rw [HZ.out]; rfl, rfl⟩

end Go.Proofs.Ytlobceldlegnlaa
