/-
  Proved here: bytes.Repeat of the one byte 1, at most 3 times.
-/
import Derived.Test.YtckdcjheflgmdaaOptA
import Derived.Test.YtckdcjheflgmdaaCopy
import Derived.Lib.MakeNoZero
import Derived.Deep.Cut
namespace Go.Proofs.Ytckdcjheflgmdaa
set_option maxRecDepth 16000
open Go.ChangeShapes Go.WideShapes Go.ChangeAt Go.RowKit Go.Cul Go.Loose
set_option linter.unusedVariables false
attribute [local go_sem] Loose.Still Loose.Upon Loose.vUpon

theorem mul64_any (k : Int) (hk : k = 1 ∨ k = 2 ∨ k = 3) (w : World) : Calls Try.prog 75 #[.int .u64 1, .int .u64 k] w fun e w' => e = .returned (.tuple #[.int .u64 0, .int .u64 k]) ∧ w' = w := by
  have b1 : bits .and .u64 1 4294967295 = 1 := by decide
  have b0 : bits .and .u64 0 4294967295 = 0 := by decide
  rcases hk with rfl | rfl | rfl
  · go_enter Try.func75, Try.ntmps75
    go_wp2_with fail
    go_ret2
    exact ⟨rfl, rfl⟩
  · have b2 : bits .and .u64 2 4294967295 = 2 := by decide
    go_enter Try.func75, Try.ntmps75
    go_wp2_with fail
    go_ret2
    exact ⟨rfl, rfl⟩
  · have b2 : bits .and .u64 3 4294967295 = 3 := by decide
    go_enter Try.func75, Try.ntmps75
    go_wp2_with fail
    go_ret2
    exact ⟨rfl, rfl⟩
theorem mul_any (k : Int) (hk : k = 1 ∨ k = 2 ∨ k = 3) (w : World) : Calls Try.prog 63 #[.int .u64 1, .int .u64 k] w fun e w' => e = .returned (.tuple #[.int .u64 0, .int .u64 k]) ∧ w' = w := by
  have hw : IntKind.u64.wrap k = k := by rcases hk with rfl | rfl | rfl <;> decide
  go_enter Try.func63, Try.ntmps63
  go_wp2_with fail
  refine (mul64_any k hk w).mono ?_
  rintro e w1 ⟨rfl, rfl⟩
  go_wp2_with fail
  go_ret2
  exact ⟨rfl, rfl⟩

theorem digits_ints : ∀ (n t : Nat) (l : List Int), ∃ l' : List Int, Extern.BytealgMakeNoZero.digits n t ((l.map (Value.int .u8)).toArray) = (l'.map (Value.int .u8)).toArray ∧ l'.length = l.length + n
  | 0, t, l => ⟨l, rfl, rfl⟩
  | n + 1, t, l => by
    rw [Extern.BytealgMakeNoZero.digits]
    have e : ((l.map (Value.int .u8)).toArray).push (Value.int .u8 (Int.ofNat (t % 256))) = ((l ++ [Int.ofNat (t % 256)]).map (Value.int .u8)).toArray := by simp
    rw [e]
    obtain ⟨l', h1, h2⟩ := digits_ints n (t / 256) (l ++ [Int.ofNat (t % 256)])
    exact ⟨l', h1, by rw [h2]; simp; omega⟩

/-- New bytes, whatever they are. -/
theorem mnz_any (n : Nat) (hn : n ≤ 1000) (w : World) : ∃ (l : List Int) (c : Nat) (w' : World), (callFunc 64 #[.int .i64 (n : Int)]).run Try.prog w = .ok (.value (.slice (some ⟨w.heap.size, 0, none⟩) n c)) w' ∧ Own w' w.heap.size 5 .u8 (.slice (some ⟨w.heap.size, 0, none⟩) n c) l ∧ l.length = n ∧ Ext w w' ∧ n ≤ c ∧ c ≤ maxLen := by
  obtain ⟨l', h1, h2⟩ := digits_ints (grownCap w n 0 5) ((Question.extern "internal/bytealg.MakeNoZero.bytes" 0).cut (w.tape (w.drawn + 1) (.extern "internal/bytealg.MakeNoZero.bytes" 0))) []
  have hcap := grownCap_ge w n 0 5
  have hcm := grownCap_le_maxLen w n 0 5 (by unfold maxLen; omega)
  have hu : Try.prog.underlying 22 = some (.slice 5) := by kernel_rfl
  have hdef : Extern.BytealgMakeNoZero.makeNoZero #[3] #[22] #[.int .i64 n] =
      (do
        let .slice elem ← underlying 22 | stuck "bytealg.MakeNoZero: slice type expected"
        if (n : Int) < 0 || (n : Int) > 2 ^ 48 then runtimePanic (.error "makeslice: len out of range")
        let cap ← choose (.appendCap (n : Int).toNat 0 elem)
        askRoom cap
        let bytes ← choose (.extern "internal/bytealg.MakeNoZero.bytes" 0)
        let a ← newRow elem (Extern.BytealgMakeNoZero.digits cap bytes #[])
        pure (.slice (some a) (n : Int).toNat cap)) := rfl
  have hrun : (Extern.BytealgMakeNoZero.makeNoZero #[3] #[22] #[.int .i64 n]).run Try.prog w = .ok (.slice (some ⟨w.heap.size, 0, none⟩) n (grownCap w n 0 5)) (w.drew.drew.alloc (.cells (l'.map (Value.int .u8)).toArray 5)) := by
    rw [hdef, ← h1]
    have q1 : ¬ (n : Int) < 0 := by omega
    have q2 : ¬ (281474976710656 : Int) < (n : Int) := by omega
    simp [run_underlying hu, q1, q2, Question.forced, newRow, grownCap]
  have hl' : l'.length = grownCap w n 0 5 := by simpa using h2
  refine ⟨l'.take n, grownCap w n 0 5, w.drew.drew.alloc (.cells (l'.map (Value.int .u8)).toArray 5), ?_, ?_, by rw [List.length_take]; omega, ?_, by omega, hcm⟩
  · rw [run_callFunc_extern Try.func64 (by kernel_rfl) (by kernel_rfl) (by kernel_rfl) (e := Extern.BytealgMakeNoZero.makeNoZero #[3] #[22]) (by kernel_rfl), hrun]
    rfl
  · have hl : (l'.take n).length = n := by rw [List.length_take]; omega
    refine ⟨by simp, .inr ⟨w.heap.size, _, (l'.map (Value.int .u8)).toArray, by rw [hl], Nat.le_refl _, ?_, by rw [hl]; omega, hcm, by simp [hl'], ?_⟩⟩
    · exact heap_alloc_new _ _
    · rw [hl, Nat.mul_one, List.map_take]
  · exact Ext.tr (Ext.drN (Ext.rfl' w) 2) (Ext.new _ _)

theorem run_copy_cnt (w : World) (base : Nat) (ty : TypeId) (g n cap : Nat) (l : List Int) (hown : Own w base 5 .u8 (.slice (some ⟨g, 0, none⟩) n cap) l)
    (p m dc b o sl sc : Nat) (r : List Int) (hr : ∀ i, i < r.length → w.cell? ⟨b, o + i, none⟩ = some (.int .u8 (r.getD i 0))) (hm : r.length = Nat.min sl m) (hp : p + m ≤ l.length) :
    ∃ w', (Builtin.copy_ #[22, 22] ty #[.slice (some ⟨g, p, none⟩) m dc, .slice (some ⟨b, o, none⟩) sl sc]).run Try.prog w = .ok (.int .i64 (r.length : Nat)) w' ∧ Own w' base 5 .u8 (.slice (some ⟨g, 0, none⟩) n cap) (l.take p ++ r ++ l.drop (p + r.length)) ∧ Mvs (fun j => j = g) w w' := by
  obtain ⟨i, hi, hz, hs, hb⟩ := isU8.hi
  have hcells := cells_of_rd hr
  have hrm : r.length ≤ m := by rw [hm]; exact Nat.min_le_right _ _
  rcases hown.2 with ⟨h0, _⟩ | ⟨g', cap', cur, he, hbg, hg, hnc, hcm, hcs, htk⟩
  · cases h0
  cases he
  have hrun := run_copy_row (P := Try.prog) w 22 22 ty 5 g p m dc ⟨b, o, none⟩ sl sc cur 5 (r.map (Value.int .u8)) isU8.ht (by simp [hi, hs]) hg (by rw [List.length_map]; exact hm) hcells (by rw [List.length_map, hcs]; omega) (by
    intro u hu; obtain ⟨x, _, rfl⟩ := List.mem_map.1 hu; rfl)
  rw [List.length_map] at hrun
  refine ⟨_, hrun, ?_, ⟨rfl, rfl, rfl, by simp [World.setRow], fun j _ hj => setRow_other w g j _ hj⟩⟩
  have hl2 : (l.take p ++ r ++ l.drop (p + r.length)).length = l.length := by simp only [List.length_append, List.length_take, List.length_drop]; omega
  unfold Own
  rw [hl2]
  refine ⟨by simp only [List.length_map, hl2, Nat.mul_one], .inr ⟨g, cap, _, rfl, hbg, setRow_heap w g cur _ 5 _ hg, hnc, hcm, ?_, ?_⟩⟩
  · simp only [List.size_toArray, List.length_append, List.length_take, List.length_drop, Array.length_toList, List.length_map]; omega
  · rw [Nat.mul_one] at htk ⊢
    have h := take_splice cur.toList (r.map (Value.int .u8)) p l.length (by rw [List.length_map]; omega)
    rw [List.length_map] at h
    dsimp only
    rw [h, htk]
    simp only [List.map_append, List.map_take, List.map_drop]
theorem vupon_copyG {o : Oper} {a : Act} {w : World} (s x : Operand)
    (ho : o.op = .call { callee := .builtin .copy, args := #[s, x], argTypes := #[22, 22] }) (base g n cap : Nat) (l : List Int) (hown : Own w base 5 .u8 (.slice (some ⟨g, 0, none⟩) n cap) l)
    (p m dc b o' sl sc : Nat) (hs : a.eval s = .slice (some ⟨g, p, none⟩) m dc) (hx : a.eval x = .slice (some ⟨b, o', none⟩) sl sc) (r : List Int) (hr : ∀ i, i < r.length → w.cell? ⟨b, o' + i, none⟩ = some (.int .u8 (r.getD i 0))) (hm : r.length = Nat.min sl m) (hp : p + m ≤ l.length) {K : Act → World → Prop}
    (h : ∀ w', Own w' base 5 .u8 (.slice (some ⟨g, 0, none⟩) n cap) (l.take p ++ r ++ l.drop (p + r.length)) → Mvs (fun j => j = g) w w' → K (a.put o.dst (.int .i64 (r.length : Nat))) w') : Loose.vUpon Try.prog o a K ((execOp a.eval o).run Try.prog w) := by
  obtain ⟨w', hrun, h2, h3⟩ := run_copy_cnt w base o.type g n cap l hown p m dc b o' sl sc r hr hm hp
  unfold execOp
  simp only [ho, resolve, invoke, builtin, Sem.run_bind, Sem.run_pure, Result.andThen_ok, List.map_toArray, List.map_cons, List.map_nil, hs, hx, hrun, Loose.vUpon]
  exact h w' h2 h3

theorem lt1 {P : Nat → Prop} (h : P 0) : ∀ i, i < 1 → P i := fun i hi => by
  have e : i = 0 := by omega
  rw [e]
  exact h
set_option maxHeartbeats 1000000 in
theorem repeat_any (k : Nat) (hk : k ≤ 3) (v : Value) (w : World) (hv : Rd .u8 w v [1]) :
    Calls Try.prog 37 #[v, .int .i64 k] w fun e w' => ∃ u, e = .returned u ∧ Rd .u8 w' u (List.replicate k 1) ∧ Ext w w' := by
  obtain ⟨b, o, c, rfl, hc, c0⟩ := rd_1 hv rfl
  simp at c0
  by_cases h0 : k = 0
  · subst h0
    go_enter Try.func37, Try.ntmps37
    go_wp2_with fail
    go_ret
    exact ⟨_, rfl, ⟨_, 0, rfl, Nat.le_refl _, by decide, .inl rfl⟩, Ext.new _ _⟩
  · have h0' : ((k : Int) == 0) = false := by rw [beq_eq_false_iff_ne]; omega
    have hwk : IntKind.u64.wrap (k : Int) = k := by simp [IntKind.wrap, IntKind.bits, IntKind.signed]; omega
    have hwj : IntKind.i64.wrap (k : Int) = k := by rw [IntWalk.i64_in _ (by omega)]
    have h1 : ¬ (9223372036854775807 : Int) < (k : Int) := by omega
    have h2 : ¬ (8192 : Int) < (k : Int) := by omega
    go_enter Try.func37, Try.ntmps37
    go_wp2_with fail
    refine (mul_any k (by omega) _).mono ?_
    rintro e w1 ⟨rfl, rfl⟩
    obtain ⟨l, cc, w2, hmk, ho, hl, hx2, hcc, hcc2⟩ := mnz_any k (by omega) w1
    have c2 := hx2.cell c0
    obtain ⟨w3, hcp, ho3, hm3⟩ := run_copy_cnt w2 w1.heap.size 3 w1.heap.size k cc l ho 0 k k b o 1 c [1] (lt1 (P := fun i => w2.cell? ⟨b, o + i, none⟩ = some (.int .u8 ([1].getD i 0))) (by simpa using c2)) (Nat.min_eq_left (show 1 ≤ k by omega)).symm (by omega)
    have hcp : (Builtin.copy_ #[22, 22] 3 #[.slice (some ⟨w1.heap.size, 0, none⟩) k k, .slice (some ⟨b, o, none⟩) 1 c]).run Try.prog w2 = .ok (.int .i64 1) w3 := hcp
    have hcc' : (k : Int) ≤ (cc : Int) := by omega
    have hx3 : Ext w1 w3 := hm3.ext hx2 (fun j hj => by subst hj; exact Nat.le_refl _)
    have ho3' : Own w3 w1.heap.size 5 .u8 (.slice (some ⟨w1.heap.size, 0, none⟩) k cc) ([1] ++ l.drop 1) := by simpa using ho3
    have hl3 : Hid (([1] ++ l.drop 1).length = k) := by unfold Hid; simp; omega
    have hL0 : Hid (([1] ++ l.drop 1).getD 0 0 = 1) := by unfold Hid; rfl
    generalize [1] ++ l.drop 1 = L3 at *
    clear ho3 hm3 ho hx2 c2
    go_wp2_with fail
    go_loopw [10] (fun i wq => ∃ (j : Nat) (L : List Int), 1 ≤ j ∧ j ≤ k ∧ i = .int .i64 j ∧ Own wq w1.heap.size 5 .u8 (.slice (some ⟨w1.heap.size, 0, none⟩) k cc) L ∧ Hid (L.length = k) ∧ Hid (∀ i, i < j → L.getD i 0 = 1) ∧ Ext w1 wq) (fun i _ => k - (intOf i).toNat)
    case atStart => exact ⟨1, L3, Nat.le_refl _, by omega, rfl, ho3', hl3, (lt1 (P := fun i => L3.getD i 0 = 1) hL0.out), hx3⟩
    case round =>
      obtain ⟨j, L, hj1, hjk, rfl, hown, hLl, hones, hx⟩ := hrel
      by_cases hlt : j < k
      · have hmin : (if (k : Int) < (j : Int) then (k : Int) else (j : Int)) = (j : Int) := by rw [if_neg (by omega)]
        have hmin2 : (if (j : Int) < (k : Int) then (j : Int) else (k : Int)) = (j : Int) := by rw [if_pos (by omega)]
        obtain ⟨g', c', he, hg1, hg2, hcells, -⟩ := hown.open (by rw [hLl.out]; omega)
        rw [hLl.out] at he
        cases he
        obtain ⟨q, hq⟩ : ∃ q : Nat, Hid (q = Nat.min j (k - j)) := ⟨_, Lib.hid rfl⟩
        have hqj : q ≤ j ∧ q ≤ k - j ∧ 1 ≤ q := by
          have h := hq.out
          have h1 : Nat.min j (k - j) ≤ j := Nat.min_le_left _ _
          have h2 : Nat.min j (k - j) ≤ k - j := Nat.min_le_right _ _
          have h3 : 1 ≤ Nat.min j (k - j) := Nat.le_min.2 ⟨hj1, by omega⟩
          omega
        have hjk1 : (0 : Int) ≤ (j : Int) ∧ (j : Int) ≤ (k : Int) := by omega
        have hne : ¬ (k = j) := by omega
        have HC := Lib.hid hcells
        have HO := Lib.hid hown
        clear hcells hown
        go_upto_region 20 with (fail)
        refine wp_region_tail 7 [] lasts_nil (by kernel_rfl) (by kernel_rfl) (by kernel_rfl) ?_
        simp only [List.take, List.drop]
        iterate 7
          apply wpL_none rfl rfl
          · intro w' hw' hn'; go_simp; exact rfl
          intro K hK; go_simp; refine hK _ _ ?_; clear hK K
        refine wpL_nil ?_
        intro w' hw' hD'
        clear hD'
        apply wpVL_step rfl
        intro K hK
        refine vupon_copyG (.tmp 70) (.tmp 73) (by rfl) w1.heap.size w1.heap.size k cc L (HO.out.kept hw') j (k - j) (k - j) w1.heap.size 0 j k (by rfl) (by rfl) (List.replicate q 1) ?_ (by rw [List.length_replicate]; exact hq.out) (by rw [hLl.out]; omega) (fun w'' ho' hm' => ?_)
        · intro i hi
          rw [List.length_replicate] at hi
          have h1 := Ext.cell hw' (HC.out i (by rw [hLl.out]; omega))
          rw [hones.out i (by omega)] at h1
          rw [Nat.zero_add, h1]
          simp [List.getD, hi]
        rw [List.length_replicate] at ho'
        have hx2 : Ext w1 w'' := hm'.ext (hx.tr hw') (fun j hj => by subst hj; exact Nat.le_refl _)
        have hL2 : Hid ((L.take j ++ List.replicate q 1 ++ L.drop (j + q)).length = k) := by
          unfold Hid
          simp only [List.length_append, List.length_take, List.length_replicate, List.length_drop, hLl.out]; omega
        have hL3 : Hid (∀ i, i < j + q → (L.take j ++ List.replicate q 1 ++ L.drop (j + q)).getD i 0 = 1) := by
          intro i hi
          have hlt1 : (L.take j).length = j := by rw [List.length_take, hLl.out]; omega
          rcases Nat.lt_or_ge i j with h | h
          · have h1 := hones.out i h
            simp only [List.getD] at h1 ⊢
            rw [List.append_assoc, List.getElem?_append_left (by omega), List.getElem?_take, if_pos h]
            exact h1
          · simp only [List.getD]
            rw [List.append_assoc, List.getElem?_append_right (by omega), hlt1, List.getElem?_append_left (by rw [List.length_replicate]; omega), List.getElem?_replicate, if_pos (by omega)]
            rfl
        generalize L.take j ++ List.replicate q 1 ++ L.drop (j + q) = L4 at *
        refine hK _ _ ?_
        clear hK K hm' hw'
        simp only [List.length_replicate]
        have hwq : IntKind.i64.wrap ((j : Int) + (q : Int)) = (j : Int) + (q : Int) := by rw [IntWalk.i64_in _ (by omega)]
        iterate 2
          apply wpVL_step rfl
          intro K hK
          go_simp
          refine hK _ _ ?_
          clear hK K
        refine wpVL_nil ?_
        go_wp2_with fail
        go_roundw
        case rel => exact ⟨j + q, L4, by omega, by omega, by go_num, ho', hL2, hL3, hx2⟩
        case measure => simp [intOf]; omega
      · obtain rfl : j = k := by omega
        have hfin : Hid (L = List.replicate j 1) := by
          unfold Hid
          apply List.ext_getElem
          · rw [hLl.out]; simp
          · intro i h1 h2
            have h := hones.out i (by rw [hLl.out] at h1; exact h1)
            simpa [List.getD, h1] using h
        have hrd : Rd .u8 wr (.slice (some ⟨w1.heap.size, 0, none⟩) j j) L := by
          obtain ⟨a, c', he, q1, q2, q3⟩ := hown.rd
          rw [hLl.out] at he
          cases he
          exact ⟨_, j, by rw [hLl.out], by rw [hLl.out]; exact Nat.le_refl _, by unfold maxLen; omega, q3⟩
        clear hown
        go_wp2_with fail
        go_ret
        exact ⟨_, rfl, by rw [← hfin.out]; exact hrd, hx⟩
end Go.Proofs.Ytckdcjheflgmdaa
