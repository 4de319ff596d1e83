/-
  Proved here: what udp.laid, udp.Put and udp.Same compute. Conditions: numbers within their kinds, at most 2^47 - 4096 bytes.
-/
import Derived.Test.YtbaidlkjbdeceaaGreatSums
import Derived.Test.YtbaidlkjbdeceaaGreatLibs
namespace Go.Proofs.YtbaidlkjbdeceaaGreat
set_option maxRecDepth 200000
open Go.ChangeShapes Go.WideShapes Go.ChangeAt Go.RowKit Go.Cul
set_option linter.unusedVariables false

/-- Numbers of two bytes, one behind the other. -/
def lays (ns : List Int) : List Int := (ns.map by2).flatten
theorem lays_len (ns : List Int) : (lays ns).length = 2 * ns.length := by
  induction ns with
  | nil => rfl
  | cons x ns ih => simp only [lays, List.map_cons, List.flatten_cons, List.length_append, List.length_cons] at *; simp only [by2, List.length_cons, List.length_nil]; omega
theorem lays_byt {ns : List Int} (h : ∀ x ∈ ns, 0 ≤ x ∧ x ≤ 65535) : Byt (lays ns) := by
  induction ns with
  | nil => intro x hx; simp [lays] at hx
  | cons x ns ih =>
    have e : lays (x :: ns) = by2 x ++ lays ns := by simp [lays]
    rw [e]
    exact (by2_byt x (h x (List.mem_cons_self ..))).app (ih fun y hy => h y (List.mem_cons_of_mem _ hy))
theorem lays_take {ns : List Int} {k : Nat} (h : k < ns.length) : lays (ns.take (k + 1)) = lays (ns.take k) ++ by2 (ns.getD k 0) := by
  unfold lays
  rw [take_succ_getD ns k h]
  simp

theorem laid_any (v u : Value) (l ns : List Int) (w : World) (hv : Rd .u8 w v l) (hu : Rd .u16 w u ns) (hb : ∀ x ∈ ns, 0 ≤ x ∧ x ≤ 65535) (hns : ns.length ≤ 16) (hl : l.length ≤ 140737488351232) :
    Calls Tryz.prog 75 #[v, u] w fun e w' => ∃ x, e = .returned x ∧ Own w' w.heap.size 5 .u8 x (lays ns ++ l) ∧ Ext w w' := by
  obtain ⟨a, cap, rfl, hc1, hc2, hr⟩ := hu
  have HR := Lib.hid hr
  have HB := Lib.hid hb
  clear hr hb
  unfold maxLen at hc2
  go_enter Tryz.func75, Tryz.ntmps75
  go_wp2_with fail
  go_loopw [5, 10] (fun v i wr => ∃ k : Nat, k ≤ ns.length ∧ i = .int .i64 k ∧ Own wr w.heap.size 5 .u8 v (lays (ns.take k)) ∧ Ext w wr) (fun _ i _ => ns.length - (intOf i).toNat)
  case atStart => exact ⟨0, Nat.zero_le _, rfl, Own.nil _ _ _ _, Ext.rfl' w⟩
  case round =>
    obtain ⟨k, hk, rfl, hown, hx⟩ := hrel
    have hln : (lays (ns.take k)).length ≤ 32 := by rw [lays_len]; simp only [List.length_take]; omega
    by_cases hlt : k < ns.length
    · have ht := Lib.hid (lays_take hlt)
      rcases HR.out with h0 | ⟨b, o, rfl, hrw⟩
      · rw [h0] at hlt; simp at hlt
      have hc := hx.cell (hrw k hlt)
      have hbd : 0 ≤ ns.getD k 0 ∧ ns.getD k 0 ≤ 65535 := HB.out _ (by simp [List.getD, hlt])
      clear hrw
      generalize ns.getD k 0 = y at *
      generalize lays (ns.take k) = L at *
      go_wp2_with fail
      refine (wu16_any _ L y _ hown.rd (by omega) hbd).mono ?_
      rintro e w1 ⟨u, rfl, hu, hx1⟩
      go_wp2_with fail
      exact ⟨⟨k + 1, by omega, by go_num, by rw [ht.out]; exact hu.low hx.size, hx.tr hx1⟩, by simp [intOf]; omega⟩
    · obtain rfl : k = ns.length := by omega
      have ht := Lib.hid (show lays (ns.take ns.length) = lays ns by rw [List.take_length])
      generalize lays (ns.take ns.length) = L at *
      go_wp2_with (at_builtin; go_must (refine wpList_app isU8 rfl (.tmp 18) (.tmp 19) rfl w.heap.size _ L rfl hown _ l rfl (hv.ext hx) (by omega) (by simp [maxLen]; omega) hx.size ?_); intro v2 w2 hown2 hg2 hat2)
      have hb2 : Ext w w2 := hown.grow hg2 hx
      clear hg2 hat2
      go_ret
      exact ⟨_, rfl, by rw [← ht.out]; exact hown2, hb2⟩

/-- A datagram's bytes, with a field. -/
def udpl (sp dp n f : Int) (l : List Int) : List Int := lays [sp, dp, n, f] ++ l

theorem put1_any (f sp dp n : Int) (v : Value) (l : List Int) (Bd Bn : Nat) (w : World) (h0 : w.cell? ⟨Bd, 0, none⟩ = some (.int .u16 sp)) (h1 : w.cell? ⟨Bd, 1, none⟩ = some (.int .u16 dp)) (h2 : w.cell? ⟨Bd, 2, none⟩ = some v)
    (h3 : w.cell? ⟨Bn, 0, none⟩ = some (.int .i64 n)) (hv : Rd .u8 w v l) (hf : 0 ≤ f ∧ f ≤ 65535) (hsp : 0 ≤ sp ∧ sp ≤ 65535) (hdp : 0 ≤ dp ∧ dp ≤ 65535) (hn : 0 ≤ n ∧ n ≤ 65535) (hl : l.length ≤ 140737488351232) :
    Calls Tryz.prog 74 #[.int .u16 f, .pointer (some ⟨Bd, 0, none⟩), .pointer (some ⟨Bn, 0, none⟩)] w fun e w' => ∃ u, e = .returned u ∧ Own w' w.heap.size 5 .u8 u (udpl sp dp n f l) ∧ Ext w w' := by
  have hv' := hv
  obtain ⟨a, cap, rfl, hc1, hc2, hr⟩ := hv'
  clear hr
  go_enter Tryz.func74, Tryz.ntmps74
  go_wp2_with fail
  refine (laid_any _ _ l [sp, dp, n, f] _ (hv.ext (Ext.new _ _)) (rd_new .u16 _ _ _ _ rfl rfl rfl rfl (by simp [maxLen])) ?_ (by simp) hl).mono ?_
  · intro x hx
    simp only [List.mem_cons, List.not_mem_nil, or_false] at hx
    rcases hx with rfl | rfl | rfl | rfl <;> assumption
  rintro e w1 ⟨u, rfl, hu, hx1⟩
  go_wp2
  go_ret
  exact ⟨_, rfl, hu.low (by simp), (Ext.new _ _).tr hx1⟩

theorem udpl_len (sp dp n f : Int) (l : List Int) : (udpl sp dp n f l).length = 8 + l.length := by
  unfold udpl; rw [List.length_append, lays_len]; rfl
theorem udpl_byt {sp dp n f : Int} {l : List Int} (hsp : 0 ≤ sp ∧ sp ≤ 65535) (hdp : 0 ≤ dp ∧ dp ≤ 65535) (hn : 0 ≤ n ∧ n ≤ 65535) (hf : 0 ≤ f ∧ f ≤ 65535) (hl : Byt l) : Byt (udpl sp dp n f l) := by
  refine (lays_byt ?_).app hl
  intro x hx
  simp only [List.mem_cons, List.not_mem_nil, or_false] at hx
  rcases hx with rfl | rfl | rfl | rfl <;> assumption
theorem pseu_len (s d p n : Int) : (pseu s d p n).length = 12 := rfl
theorem pseu_byt {s d p : Int} (n : Int) (hs : 0 ≤ s ∧ s ≤ 4294967295) (hd : 0 ≤ d ∧ d ≤ 4294967295) (hp : 0 ≤ p ∧ p ≤ 255) : Byt (pseu s d p n) := by
  refine ((by4_byt s hs).app (by4_byt d hd)).app ?_
  intro x hx
  simp only [List.mem_cons, List.not_mem_nil, or_false] at hx
  rcases hx with rfl | rfl | rfl | rfl <;> omega

/-- A datagram's field. -/
def udpf (s d sp dp : Int) (l : List Int) : Int :=
  let f := 65535 - csum (pseu s d 17 (8 + l.length) ++ udpl sp dp (8 + l.length) 0 l)
  if f = 0 then 65535 else f
/-- A datagram's bytes; the error. -/
def uput (s d sp dp : Int) (l : List Int) : List Int × Int :=
  if 1480 < 8 + l.length then ([], 3) else (udpl sp dp (8 + l.length) (udpf s d sp dp l) l, 0)

theorem put_any (s d sp dp : Int) (v : Value) (l : List Int) (w : World) (hv : Rd .u8 w v l) (hb : Byt l) (hs : 0 ≤ s ∧ s ≤ 4294967295) (hd : 0 ≤ d ∧ d ≤ 4294967295) (hsp : 0 ≤ sp ∧ sp ≤ 65535) (hdp : 0 ≤ dp ∧ dp ≤ 65535) (hl : l.length ≤ 140737488351232) :
    Calls Tryz.prog 37 #[.int .u32 s, .int .u32 d, .agg #[.int .u16 sp, .int .u16 dp, v]] w fun e w' => ∃ u, e = .returned (.tuple #[u, .int .i64 (uput s d sp dp l).2]) ∧ Own w' w.heap.size 5 .u8 u (uput s d sp dp l).1 ∧ Ext w w' := by
  have hv' := hv
  obtain ⟨a, cap, rfl, hc1, hc2, hr⟩ := hv'
  clear hr
  by_cases hlong : 1480 < 8 + l.length
  · have hU : uput s d sp dp l = ([], 3) := by unfold uput; rw [if_pos hlong]
    rw [hU]
    clear hU
    go_enter Tryz.func37, Tryz.ntmps37
    go_wp2_with fail
    go_ret2
    exact ⟨_, rfl, Own.nil _ _ _ _, (Ext.new _ _).al _⟩
  · have hU : Hid (uput s d sp dp l = (udpl sp dp (8 + l.length) (udpf s d sp dp l) l, 0)) := by unfold uput; rw [if_neg hlong]; exact rfl
    have hfd : Hid (udpf s d sp dp l = if 65535 - csum (pseu s d 17 (8 + l.length) ++ udpl sp dp (8 + l.length) 0 l) = 0 then 65535 else 65535 - csum (pseu s d 17 (8 + l.length) ++ udpl sp dp (8 + l.length) 0 l)) := rfl
    have hlen := udpl_len sp dp (8 + l.length) 0 l
    have hby : Byt (udpl sp dp (8 + l.length) 0 l) := udpl_byt hsp hdp (by omega) (by omega) hb
    have hcs : 0 ≤ csum (pseu s d 17 (8 + l.length) ++ udpl sp dp (8 + l.length) 0 l) ∧ csum (pseu s d 17 (8 + l.length) ++ udpl sp dp (8 + l.length) 0 l) ≤ 65535 := csum_bd ((pseu_byt _ hs hd (by omega)).app hby)
    have HB := Lib.hid hby
    have HN := Lib.hid hlen
    clear hby hlen hb
    generalize hLd : udpl sp dp (8 + l.length) 0 l = L at *
    have HLd := Lib.hid hLd
    clear hLd
    generalize hc : csum (pseu s d 17 (8 + l.length) ++ L) = c at *
    have Hc := Lib.hid hc
    clear hc
    go_enter Tryz.func37, Tryz.ntmps37
    go_wp2_with fail
    refine (pseudo_any s d 17 _ _ hs hd (by omega)).mono ?_
    rintro e w1 ⟨u1, rfl, hu1, hx1⟩
    have hx0 : Ext w w1 := ((Ext.new w _).al _).tr hx1
    have hd0 : w1.heap[w.heap.size]? = some (.cells #[.int .u16 sp, .int .u16 dp, .slice a l.length cap] 31) := hx1.block ((Ext.new _ _).block (heap_alloc_new _ _))
    have hn0 := hx1.block (heap_alloc_new (w.alloc (.cells #[.int .u16 sp, .int .u16 dp, .slice a l.length cap] 31)) (.cells #[.int .i64 (8 + l.length)] 3))
    rw [World.size_alloc] at hn0
    have q0 : w1.cell? ⟨w.heap.size, 0, none⟩ = some (.int .u16 sp) := by simp [World.cell?, hd0]
    have q1 : w1.cell? ⟨w.heap.size, 1, none⟩ = some (.int .u16 dp) := by simp [World.cell?, hd0]
    have q2 : w1.cell? ⟨w.heap.size, 2, none⟩ = some (.slice a l.length cap) := by simp [World.cell?, hd0]
    have q3 : w1.cell? ⟨w.heap.size + 1, 0, none⟩ = some (.int .i64 (8 + l.length)) := by simp [World.cell?, hn0]
    clear hd0 hn0
    have hu1' := hu1.rd
    clear hu1
    go_wp2_with fail
    refine (put1_any 0 sp dp _ _ l _ _ _ q0 q1 q2 q3 (hv.ext hx0) (by omega) hsp hdp (by omega) hl).mono ?_
    rw [HLd.out]
    rintro e w2 ⟨u2, rfl, hu2, hx2⟩
    have hu1 := hu1'.ext hx2
    have hu2' := hu2.rd
    have q0 := hx2.cell q0
    have q1 := hx2.cell q1
    have q2 := hx2.cell q2
    have q3 := hx2.cell q3
    clear hu2 hu1'
    have hu1c := hu1
    have hu2c := hu2'
    obtain ⟨a1, c1, rfl, -, -, -⟩ := hu1c
    obtain ⟨a2, c2, rfl, -, -, -⟩ := hu2c
    go_wp2_with fail
    refine (field_any _ [_, L] _ (rds_two hu1 hu2' rfl) ?_ ?_).mono ?_
    · intro x hx
      simp only [List.mem_cons, List.not_mem_nil, or_false] at hx
      rcases hx with rfl | rfl
      · exact pseu_byt _ hs hd (by omega)
      · exact HB.out
    · have := HN.out
      have := pseu_len s d 17 (8 + l.length)
      simp only [List.flatten_cons, List.flatten_nil, List.append_nil, List.length_append]
      omega
    rw [show [pseu s d 17 (8 + (l.length : Int)), L].flatten = pseu s d 17 (8 + l.length) ++ L from by simp, Hc.out]
    rintro e w3 ⟨rfl, hx3⟩
    have hx03 : Ext w w3 := ((hx0.tr hx2).al _).tr hx3
    have q0 := ((Ext.new _ _).tr hx3).cell q0
    have q1 := ((Ext.new _ _).tr hx3).cell q1
    have q2 := ((Ext.new _ _).tr hx3).cell q2
    have q3 := ((Ext.new _ _).tr hx3).cell q3
    have hv3 := hv.ext hx03
    by_cases hz : c = 65535
    · have hz0 : ((65535 : Int) - c == 0) = true := by rw [hz]; rfl
      rw [if_pos (by omega)] at hfd
      go_wp2_with fail
      refine (put1_any 65535 sp dp _ _ l _ _ _ q0 q1 q2 q3 hv3 (by omega) hsp hdp (by omega) hl).mono ?_
      rintro e w4 ⟨u4, rfl, hu4, hx4⟩
      go_wp2
      go_ret2
      rw [hU.out, hfd.out]
      exact ⟨_, rfl, hu4.low hx03.size, hx03.tr hx4⟩
    · have hz0 : ((65535 : Int) - c == 0) = false := by rw [beq_eq_false_iff_ne]; omega
      rw [if_neg (by omega)] at hfd
      go_wp2_with fail
      refine (put1_any (65535 - c) sp dp _ _ l _ _ _ q0 q1 q2 q3 hv3 (by omega) hsp hdp (by omega) hl).mono ?_
      rintro e w4 ⟨u4, rfl, hu4, hx4⟩
      go_wp2
      go_ret2
      rw [hU.out, hfd.out]
      exact ⟨_, rfl, hu4.low hx03.size, hx03.tr hx4⟩

/-- What two datagrams' fields are. -/
def usame (sp dp : Int) (l : List Int) (sp' dp' : Int) (l' : List Int) : Bool := (sp == sp') && (dp == dp') && decide (l = l')

theorem usame_any (sp dp sp' dp' : Int) (v v' : Value) (l l' : List Int) (w : World) (hv : Rd .u8 w v l) (hv' : Rd .u8 w v' l') (hb : Byt l) (hb' : Byt l') :
    Calls Tryz.prog 26 #[.agg #[.int .u16 sp, .int .u16 dp, v], .agg #[.int .u16 sp', .int .u16 dp', v']] w fun e w' => e = .returned (.bool (usame sp dp l sp' dp' l')) ∧ Ext w w' := by
  have HB := Lib.hid hb
  have HB' := Lib.hid hb'
  clear hb hb'
  have hU : Hid (usame sp dp l sp' dp' l' = ((sp == sp') && (dp == dp') && decide (l = l'))) := rfl
  have hx0 : Ext w ((w.alloc (.cells #[.int .u16 sp, .int .u16 dp, v] 31)).alloc (.cells #[.int .u16 sp', .int .u16 dp', v'] 31)) := (Ext.new _ _).al _
  have h1 := hv.ext hx0
  have h2 := hv'.ext hx0
  obtain ⟨a, cap, rfl, -, -, -⟩ := hv
  obtain ⟨a', cap', rfl, -, -, -⟩ := hv'
  rcases hs : (sp == sp') with _ | _
  · rw [hs] at hU
    go_enter Tryz.func26, Tryz.ntmps26
    go_wp2
    go_ret
    rw [hU.out]
    exact ⟨rfl, hx0⟩
  rcases hd : (dp == dp') with _ | _
  · rw [hs, hd] at hU
    go_enter Tryz.func26, Tryz.ntmps26
    go_wp2
    go_ret
    rw [hU.out]
    exact ⟨rfl, hx0⟩
  rw [hs, hd] at hU
  have HX := Lib.hid hx0
  have H1 := Lib.hid h1
  have H2 := Lib.hid h2
  clear hx0 h1 h2
  go_enter Tryz.func26, Tryz.ntmps26
  go_wp2_with fail
  refine (beq_any _ _ l l' _ H1.out H2.out HB.out HB'.out).mono ?_
  rintro e w1 ⟨rfl, hx1⟩
  go_wp2
  go_ret
  rw [hU.out]
  exact ⟨rfl, HX.out.tr hx1⟩
end Go.Proofs.YtbaidlkjbdeceaaGreat
