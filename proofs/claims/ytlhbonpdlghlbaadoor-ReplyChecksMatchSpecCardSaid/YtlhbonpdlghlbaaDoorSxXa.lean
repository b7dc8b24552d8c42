/- Replies: what is wrong with them (both ways). -/
import Derived.Test.YtlhbonpdlghlbaaDoorSxEx
import Derived.Test.YtlhbonpdlghlbaaDoorSxEvD
set_option linter.unusedVariables false
set_option linter.unusedSimpArgs false
namespace Go.Sx
theorem ev41 (s : ByteArray) (hs : s.size ≤ 140737488351232) : ∀ (post pre : List UInt8), s.data.toList = pre ++ post → Ev (fun k => iter B56x0 k [.str s, .int (pre.length : Int)]) [.bool (post.all capD && decide (1 ≤ s.size ∧ s.size ≤ 14))]
  | [], pre, hp => by
    have hsz : s.size = pre.length := by
      have := congrArg List.length hp
      rw [ba_len] at this
      simpa using this
    refine Ev.iter (Ev.of fun k => ?_)
    unfold B56x0
    simp only [gt_zero, gt_succ, int_i, str_s]
    rw [decide_eq_false (by omega)]
    simp only [cond_false, ByteArray.toList_eq]
    by_cases h0 : s.data.toList = []
    · have : s.size = 0 := by rw [← ba_len, h0]; rfl
      simp [h0, this]
    · have : s.size ≠ 0 := fun h => h0 (List.eq_nil_of_length_eq_zero (by rw [ba_len]; exact h))
      have h1 : (s.data.toList == (ByteArray.mk #[]).data.toList) = false := by simpa using h0
      rw [h1]
      simp only [Bool.not_false, cond_true, List.all_nil, Bool.true_and]
      congr 3
      exact decide_eq_decide.2 (by omega)
  | b :: post, pre, hp => by
    have hsz : s.size = pre.length + (post.length + 1) := by
      have := congrArg List.length hp
      rw [ba_len] at this
      simpa using this
    have h2 : inRow (pre.length : Int) s.size = true := inRow_yes (by omega) (by omega)
    have h3 : s.toList.getD pre.length 0 = b := by rw [ByteArray.toList_eq, hp]; simp [List.getD_eq_getElem?_getD]
    refine Ev.iter ?_
    have ih := ev41 s hs post (pre ++ [b]) (by simp [hp])
    have key : ∀ k rec1, B56x0 k rec1 [.str s, .int (pre.length : Int)] = bif capD b then rec1 [.str s, .int ((pre ++ [b]).length : Int)] else some [.bool false] := fun k rec1 => by
      unfold B56x0
      simp only [gt_zero, gt_succ, int_i, str_s, h2, Bool.and_true, cond_true, Int.toNat_natCast, h3]
      rw [decide_eq_true (show (pre.length : Int) < (s.size : Int) by omega)]
      simp only [cond_true]
      have hw : IntKind.i64.wrap ((pre.length : Int) + 1) = ((pre ++ [b]).length : Int) := by rw [w64 (by omega) (by omega)]; simp
      simp only [hw]
      by_cases c1 : 65 ≤ b.toNat
      · by_cases c2 : b.toNat ≤ 90
        · rw [show capD b = true from decide_eq_true (by omega), decide_eq_true (show ((b.toNat : Int)) ≥ 65 by omega), decide_eq_true (show ((b.toNat : Int)) ≤ 90 by omega)]
          simp [gt_zero, bool_b]
        · rw [show capD b = false from decide_eq_false (by omega), decide_eq_true (show ((b.toNat : Int)) ≥ 65 by omega), decide_eq_false (show ¬ ((b.toNat : Int)) ≤ 90 by omega), decide_eq_true (show ((b.toNat : Int)) ≥ 48 by omega), decide_eq_false (show ¬ ((b.toNat : Int)) ≤ 57 by omega), beqI_false (show ((b.toNat : Int)) ≠ 45 by omega)]
          simp [gt_zero, bool_b]
      · rw [decide_eq_false (show ¬ ((b.toNat : Int)) ≥ 65 by omega)]
        by_cases c2 : 48 ≤ b.toNat
        · by_cases c3 : b.toNat ≤ 57
          · rw [show capD b = true from decide_eq_true (by omega), decide_eq_true (show ((b.toNat : Int)) ≥ 48 by omega), decide_eq_true (show ((b.toNat : Int)) ≤ 57 by omega)]
            simp [gt_zero, bool_b]
          · rw [show capD b = false from decide_eq_false (by omega), decide_eq_true (show ((b.toNat : Int)) ≥ 48 by omega), decide_eq_false (show ¬ ((b.toNat : Int)) ≤ 57 by omega), beqI_false (show ((b.toNat : Int)) ≠ 45 by omega)]
            simp [gt_zero, bool_b]
        · rw [decide_eq_false (show ¬ ((b.toNat : Int)) ≥ 48 by omega)]
          by_cases c3 : b.toNat = 45
          · rw [show capD b = true from decide_eq_true (by omega), beqI_true (show ((b.toNat : Int)) = 45 by omega)]
            simp [gt_zero, bool_b]
          · rw [show capD b = false from decide_eq_false (by omega), beqI_false (show ((b.toNat : Int)) ≠ 45 by omega)]
            simp [gt_zero, bool_b]
    refine Ev.congr (fun k => key k _) ?_
    cases hc : capD b
    · refine Ev.of fun k => ?_
      simp [hc]
    · refine Ev.congr (fun k => ?_) (ih.cast ?_)
      · rfl
      · simp [hc]
theorem ref41 (s : ByteArray) (hs : s.size ≤ 140737488351232) : Ev (fun k => F56 k [.str s]) [.bool (isRef s)] := by
  have := ev41 s hs s.data.toList [] rfl
  exact Ev.congr (fun k => by simp [F56, gt_zero, str_s]) this
set_option maxRecDepth 100000 in
theorem cap_okn : ∀ n : Nat, n < 256 → ([65, 66, 67, 68, 69, 70, 71, 72, 73, 74, 75, 76, 77, 78, 79, 80, 81, 82, 83, 84, 85, 86, 87, 88, 89, 90, 48, 49, 50, 51, 52, 53, 54, 55, 56, 57, 45] : List UInt8).contains (UInt8.ofNat n) = decide ((65 ≤ n ∧ n ≤ 90) ∨ (48 ≤ n ∧ n ≤ 57) ∨ n = 45) := by decide
theorem ref43 (k : Nat) (s : ByteArray) : F60 k [.str s] = some [.bool (isRef s)] := by
  unfold F60 isRef
  simp only [gt_zero, str_s]
  by_cases h1 : 1 ≤ s.size
  · have e1 : decide ((s.size : Int) ≥ 1) = true := decide_eq_true (by omega)
    simp only [e1, cond_true]
    by_cases h2 : s.size ≤ 14
    · rw [decide_eq_true (show (s.size : Int) ≤ 14 by omega), decide_eq_true (show 1 ≤ s.size ∧ s.size ≤ 14 from ⟨h1, h2⟩)]
      simp only [cond_true, F87, trimK, gt_zero, gt_succ, str_s]
      rw [decide_eq_true (show s.size ≤ 9223372036854775807 by omega)]
      simp only [Bool.true_and]
      rw [show (decide ((ByteArray.mk #[65, 66, 67, 68, 69, 70, 71, 72, 73, 74, 75, 76, 77, 78, 79, 80, 81, 82, 83, 84, 85, 86, 87, 88, 89, 90, 48, 49, 50, 51, 52, 53, 54, 55, 56, 57, 45]).size < 4294967281) && (ByteArray.mk #[65, 66, 67, 68, 69, 70, 71, 72, 73, 74, 75, 76, 77, 78, 79, 80, 81, 82, 83, 84, 85, 86, 87, 88, 89, 90, 48, 49, 50, 51, 52, 53, 54, 55, 56, 57, 45]).data.toList.all (fun b => decide (b.toNat < 128))) = true by decide]
      simp only [cond_true, Option.bind_some, gt_zero, str_s, ByteArray.toList_eq, Bool.and_true]
      congr 3
      rw [Bool.eq_iff_iff, beq_iff_eq, List.all_eq_true]
      show Lib.trimS _ _ = [] ↔ _
      rw [trim_nil]
      refine forall_congr' fun b => forall_congr' fun _ => ?_
      have := cap_okn b.toNat (by have := b.toNat_lt; omega)
      rw [UInt8.ofNat_toNat] at this
      unfold capD
      rw [← this]
    · rw [decide_eq_false (show ¬ (s.size : Int) ≤ 14 by omega), decide_eq_false (show ¬ (1 ≤ s.size ∧ s.size ≤ 14) by omega)]
      simp
  · rw [decide_eq_false (show ¬ (s.size : Int) ≥ 1 by omega), decide_eq_false (show ¬ (1 ≤ s.size ∧ s.size ≤ 14) by omega)]
    simp
theorem out31 (k : Nat) (n a b : Int) : F46 k [.int n, .int a, .int b] = some [.bool (decide ¬ (a ≤ n ∧ n ≤ b))] := by
  unfold F46
  simp only [gt_zero, gt_succ, int_i]
  by_cases h : n < a
  · rw [decide_eq_true h, decide_eq_true (show ¬ (a ≤ n ∧ n ≤ b) by omega)]; rfl
  · rw [decide_eq_false h]
    simp only [cond_false]
    congr 3
    exact decide_eq_decide.2 (by omega)
theorem in38 (k : Nat) (n a b : Int) : F83 k [.int n, .int a, .int b] = some [.bool (decide (a ≤ n ∧ n ≤ b))] := by
  unfold F83
  simp only [gt_zero, gt_succ, int_i]
  by_cases h : n ≥ a
  · rw [decide_eq_true h]
    simp only [cond_true]
    congr 3
    exact decide_eq_decide.2 (by omega)
  · rw [decide_eq_false h, decide_eq_false (show ¬ (a ≤ n ∧ n ≤ b) by omega)]; rfl
theorem verdict44 (k : Nat) (n : Int) : F61 k [.int n] = some [.bool (decide (1 ≤ n ∧ n ≤ 3))] := by
  unfold F61
  simp only [gt_zero, gt_succ, int_i, out31, Option.bind_some, bool_b]
  congr 3
  by_cases h : 1 ≤ n ∧ n ≤ 3 <;> simp [h]
theorem verdict42 (k : Nat) (n : Int) : F57 k [.int n] = some [.bool (decide (1 ≤ n ∧ n ≤ 3))] := by
  unfold F57
  simp only [gt_zero, gt_succ, int_i, in38, Option.bind_some, bool_b]
theorem name87 (s : ByteArray) (hs : s.size ≤ 140737488351232) : Ev (fun k => F110 k [.str s]) [.bool (isName s)] := by
  have := Ev.scan (B := B110x0) s.data.toList (fun pre => [.str s, .int (pre.length : Int)]) (fun pre post => [.bool (okFrom lcB nmB pre post && (decide (1 ≤ s.size) && decide (s.size ≤ 40)))]) ?_ ?_
  · exact Ev.congr (fun k => by simp [F110, gt_zero, str_s]) this
  · refine Ev.of fun k => ?_
    unfold B110x0
    simp only [gt_zero, gt_succ, int_i, str_s, end_of, cond_false, nonempty_beq, okFrom_nil, Bool.true_and]
    by_cases h : 1 ≤ s.size
    · rw [decide_eq_true h]
      simp only [cond_true, Bool.true_and]
      congr 3
      exact decide_eq_decide.2 (by omega)
    · rw [decide_eq_false h]; rfl
  · intro pre b post go hp ih
    have a := sat_of hp hs
    unfold B110x0
    simp only [gt_zero, gt_succ, int_i, str_s, a.el, a.inr, a.lt, a.up, Bool.and_true, cond_true]
    rw [okFrom_step]
    have e0 : ((pre.length : Int) == 0) = decide (pre.length = 0) := len_zero pre
    rw [e0]
    rw [lc_step b]
    simp only [Option.bind_some, gt_zero, bool_b]
    rw [nm_step]
    simp only [Option.bind_some, gt_zero, bool_b]
    cases (bif decide (pre.length = 0) then lcB b else nmB b)
    · exact Ev.now _
    · exact ih.cast (by simp)
/-- Of some bytes alone. -/
theorem trim51 (k : Nat) (s cs : ByteArray) (hs : s.size ≤ 140737488351232) (hc : (decide (cs.size < 4294967281) && cs.data.toList.all (fun b => decide (b.toNat < 128))) = true) :
    ∃ t, F87 k [.str s, .str cs] = some [.str t] ∧ ((ByteArray.toList t) == (ByteArray.toList (ByteArray.mk #[]))) = s.data.toList.all (fun b => cs.data.toList.contains b) := by
  refine ⟨⟨(Lib.trimS s.data.toList cs.data.toList).toArray⟩, ?_, ?_⟩
  · simp only [F87, trimK, gt_zero, gt_succ, str_s]
    rw [decide_eq_true (show s.size ≤ 9223372036854775807 by omega), Bool.true_and, hc]
    rfl
  · rw [ByteArray.toList_eq, ByteArray.toList_eq, Bool.eq_iff_iff, beq_iff_eq, List.all_eq_true]
    show Lib.trimS _ _ = [] ↔ _
    rw [trim_nil]
theorem name82 (k : Nat) (s : ByteArray) (hs : s.size ≤ 140737488351232) : F122 k [.str s] = some [.bool (isName s)] := by
  unfold F122 isName
  simp only [gt_zero, str_s]
  cases hp : s.data.toList with
  | nil =>
    have hz : s.size = 0 := by rw [← ba_len, hp]; rfl
    rw [decide_eq_true (show ((s.size : Nat) : Int) < 1 by omega), decide_eq_false (show ¬ 1 ≤ s.size by omega)]
    simp [gt_zero, bool_b]
  | cons b l =>
    have hz : s.size = l.length + 1 := by rw [← ba_len, hp]; rfl
    have hb : List.getD (ByteArray.toList s) 0 0 = b := by rw [ByteArray.toList_eq, hp]; rfl
    rw [decide_eq_false (show ¬ ((s.size : Nat) : Int) < 1 by omega), decide_eq_true (show 1 ≤ s.size by omega), hb, inRow_yes (by omega) (by omega)]
    by_cases h4 : s.size ≤ 40
    case neg =>
      rw [decide_eq_true (show ((s.size : Nat) : Int) > 40 by omega), decide_eq_false h4]
      simp [gt_zero, bool_b]
    rw [decide_eq_false (show ¬ ((s.size : Nat) : Int) > 40 by omega), decide_eq_true h4]
    simp only [cond_false, cond_true, Bool.and_true]
    obtain ⟨t, ht, hte⟩ := trim51 k s (ByteArray.mk #[97, 98, 99, 100, 101, 102, 103, 104, 105, 106, 107, 108, 109, 110, 111, 112, 113, 114, 115, 116, 117, 118, 119, 120, 121, 122, 48, 49, 50, 51, 52, 53, 54, 55, 56, 57, 45]) hs (by decide)
    have e1 : (bif decide ((b.toNat : Int) < 97) then some [D.bool true] else some [D.bool (decide ((b.toNat : Int) > 122))]) = some [D.bool (!lcB b)] := by
      unfold lcB
      by_cases c : b.toNat < 97
      · rw [decide_eq_true (show (b.toNat : Int) < 97 by omega), decide_eq_false (show ¬ (97 ≤ b.toNat ∧ b.toNat ≤ 122) by omega)]; rfl
      · rw [decide_eq_false (show ¬ (b.toNat : Int) < 97 by omega)]
        by_cases c2 : b.toNat ≤ 122
        · rw [decide_eq_false (show ¬ (b.toNat : Int) > 122 by omega), decide_eq_true (show (97 ≤ b.toNat ∧ b.toNat ≤ 122) by omega)]; rfl
        · rw [decide_eq_true (show (b.toNat : Int) > 122 by omega), decide_eq_false (show ¬ (97 ≤ b.toNat ∧ b.toNat ≤ 122) by omega)]; rfl
    rw [e1]
    simp only [Option.bind_some, gt_zero, bool_b, ht, str_s, hte]
    have e2 : s.data.toList.all (fun b => [97, 98, 99, 100, 101, 102, 103, 104, 105, 106, 107, 108, 109, 110, 111, 112, 113, 114, 115, 116, 117, 118, 119, 120, 121, 122, 48, 49, 50, 51, 52, 53, 54, 55, 56, 57, 45].contains b) = s.data.toList.all nmB := all_of (fun b => by
      have := nm_okn b.toNat (by have := b.toNat_lt; omega)
      rw [UInt8.ofNat_toNat] at this
      exact this) _
    rw [e2, hp]
    simp only [okFrom, List.all_cons]
    have e3 : lcB b = true → nmB b = true := fun h => decide_eq_true (.inl (of_decide_eq_true h))
    cases hl : lcB b
    · rfl
    · rw [e3 hl]; rfl
theorem tag102 (s : ByteArray) (hs : s.size ≤ 140737488351232) : Ev (fun k => F72 k [.str s]) [.bool (isTag s)] := by
  have h109 : Ev (fun k => F101 k [.str s]) [.bool (okFrom cpB tgB [] s.data.toList && decide (s.size ≤ 6))] := by
    have := Ev.scan (B := B101x0) s.data.toList (fun pre => [.str s, .int (pre.length : Int)]) (fun pre post => [.bool (okFrom cpB tgB pre post && decide (s.size ≤ 6))]) ?_ ?_
    · exact Ev.congr (fun k => by simp [F101, gt_zero, str_s]) this
    · refine Ev.of fun k => ?_
      unfold B101x0
      simp only [gt_zero, gt_succ, int_i, str_s, end_of, cond_false, okFrom_nil, Bool.true_and]
      congr 3
      exact decide_eq_decide.2 (by omega)
    · intro pre b post go hp ih
      have a := sat_of hp hs
      unfold B101x0
      simp only [gt_zero, gt_succ, int_i, str_s, a.el, a.inr, a.lt, a.up, Bool.and_true, cond_true]
      rw [okFrom_step, len_zero, cp_step b]
      simp only [Option.bind_some, gt_zero, bool_b]
      rw [tg_step]
      simp only [Option.bind_some, gt_zero, bool_b]
      cases (bif decide (pre.length = 0) then cpB b else tgB b)
      · exact Ev.now _
      · exact ih.cast (by simp)
  unfold F72 isTag
  simp only [gt_zero, str_s]
  by_cases h : 2 ≤ s.size
  · refine Ev.pos (decide_eq_true (by omega)) (Ev.bind h109 ?_)
    rw [decide_eq_true h]
    exact (Ev.now _).cast (by simp [gt_zero, bool_b])
  · refine Ev.neg (decide_eq_false (by omega)) ?_
    rw [decide_eq_false h]
    exact (Ev.now _).cast (by simp)
theorem tag100 (k : Nat) (s : ByteArray) (hs : s.size ≤ 140737488351232) : F40 k [.str s] = some [.bool (isTag s)] := by
  unfold F40 isTag
  simp only [gt_zero, str_s]
  by_cases h2 : 2 ≤ s.size
  case neg =>
    rw [decide_eq_false (show ¬ ((s.size : Nat) : Int) ≥ 2 by omega), decide_eq_false h2]; simp
  rw [decide_eq_true (show ((s.size : Nat) : Int) ≥ 2 by omega), decide_eq_true h2]
  by_cases h6 : s.size ≤ 6
  case neg =>
    rw [decide_eq_false (show ¬ ((s.size : Nat) : Int) ≤ 6 by omega), decide_eq_false h6]; simp
  rw [decide_eq_true (show ((s.size : Nat) : Int) ≤ 6 by omega), decide_eq_true h6, inRow_yes (by omega) (by omega)]
  obtain ⟨b, l, hp⟩ : ∃ b l, s.data.toList = b :: l := by
    cases hp : s.data.toList with
    | nil => have : s.size = 0 := by rw [← ba_len, hp]; rfl
             omega
    | cons b l => exact ⟨b, l, rfl⟩
  have hb : List.getD (ByteArray.toList s) 0 0 = b := by rw [ByteArray.toList_eq, hp]; rfl
  rw [hb]
  obtain ⟨t, ht, hte⟩ := trim51 k s (ByteArray.mk #[65, 66, 67, 68, 69, 70, 71, 72, 73, 74, 75, 76, 77, 78, 79, 80, 81, 82, 83, 84, 85, 86, 87, 88, 89, 90, 48, 49, 50, 51, 52, 53, 54, 55, 56, 57]) hs (by decide)
  have e0 := cp_idx b.toNat (by have := b.toNat_lt; omega)
  simp only [F74, indexByteK, F68, gt_zero, gt_succ, str_s, int_i, cond_true, Bool.and_true, Option.bind_some, ht, hte, bool_b]
  have e1 : decide (Lib.indexByte (ByteArray.mk #[65, 66, 67, 68, 69, 70, 71, 72, 73, 74, 75, 76, 77, 78, 79, 80, 81, 82, 83, 84, 85, 86, 87, 88, 89, 90]).data.toList ((b.toNat : Int).toNat.toUInt8) ≥ 0) = cpB b := e0
  rw [e1]
  have e2 : s.data.toList.all (fun b => [65, 66, 67, 68, 69, 70, 71, 72, 73, 74, 75, 76, 77, 78, 79, 80, 81, 82, 83, 84, 85, 86, 87, 88, 89, 90, 48, 49, 50, 51, 52, 53, 54, 55, 56, 57].contains b) = s.data.toList.all tgB := all_of (fun b => by
    have := tg_okn b.toNat (by have := b.toNat_lt; omega)
    rw [UInt8.ofNat_toNat] at this
    exact this) _
  rw [e2, hp]
  simp only [okFrom, List.all_cons]
  have e3 : cpB b = true → tgB b = true := fun h => decide_eq_true (.inl (of_decide_eq_true h))
  cases hl : cpB b
  · rfl
  · rw [e3 hl]; simp
def tog (l : List D) : Int := bif l.all (fun d => d.i == 1) then 1 else bif l.all (fun d => d.i == 3) then 3 else 2
theorem together56 (l : List D) (hl : l.length ≤ 140737488355328) : Ev (fun k => F92 k [.row l]) [.int (tog l)] := by
  have h0 := Ev.scan (B := B92x0) l (fun pre => [.row l, .int (l.length : Int), .int (pre.length : Int), .row l, .int 1]) (fun pre post => [.row l, .bool (post.all (fun d => d.i == 1))])
    (Ev.of fun k => by unfold B92x0; simp only [gt_zero, gt_succ, int_i, row_r, no_more, cond_false, List.all_nil])
    (fun pre x post go hp ih => by
      have a := at_of hp hl
      unfold B92x0
      simp only [gt_zero, gt_succ, int_i, row_r, a.el, a.inr, a.lt, a.up, Bool.and_true, cond_true, List.all_cons]
      rw [show (decide ((pre.length : Int) ≥ 0)) = true from decide_eq_true (by omega)]
      by_cases h : x.i = 1
      · rw [beqI_true h]; exact Ev.neg (bneI_false h) ih
      · rw [beqI_false h]; exact Ev.pos (bneI_true h) (Ev.now _))
  have h1 := Ev.scan (B := B92x1) l (fun pre => [.row l, .int (l.length : Int), .int (pre.length : Int), .int 3]) (fun pre post => [.bool (post.all (fun d => d.i == 3))])
    (Ev.of fun k => by unfold B92x1; simp only [gt_zero, gt_succ, int_i, row_r, no_more, cond_false, List.all_nil])
    (fun pre x post go hp ih => by
      have a := at_of hp hl
      unfold B92x1
      simp only [gt_zero, gt_succ, int_i, row_r, a.el, a.inr, a.lt, a.up, Bool.and_true, cond_true, List.all_cons]
      rw [show (decide ((pre.length : Int) ≥ 0)) = true from decide_eq_true (by omega)]
      by_cases h : x.i = 3
      · rw [beqI_true h]; exact Ev.neg (bneI_false h) ih
      · rw [beqI_false h]; exact Ev.pos (bneI_true h) (Ev.now _))
  unfold F92 tog
  simp only [gt_zero, row_r]
  refine Ev.bind h0 ?_
  simp only [gt_zero, gt_succ, row_r, bool_b]
  cases l.all (fun d => d.i == 1)
  · refine Ev.neg rfl (Ev.bind h1 ?_)
    simp only [gt_zero, bool_b]
    cases l.all (fun d => d.i == 3)
    · exact Ev.now _
    · exact Ev.now _
  · exact Ev.pos rfl (Ev.now _)
theorem together59 (l : List D) (hl : l.length ≤ 140737488355328) : Ev (fun k => F86 k [.row l]) [.int (tog l)] := by
  have h0 := Ev.scan (B := B86x0) l (fun pre => [.row l, .bool (pre.all (fun d => d.i == 1)), .bool (pre.all (fun d => d.i == 3)), .int (pre.length : Int)]) (fun pre post => [.int (tog l)])
    (Ev.of fun k => by
      unfold B86x0 tog
      simp only [gt_zero, gt_succ, int_i, row_r, bool_b, no_more, cond_false]
      cases l.all (fun d => d.i == 1) <;> cases l.all (fun d => d.i == 3) <;> rfl)
    (fun pre x post go hp ih => by
      have a := at_of hp hl
      have ih : Ev (fun n => go n [.row l, .bool (pre.all (fun d => d.i == 1) && (x.i == 1)), .bool (pre.all (fun d => d.i == 3) && (x.i == 3)), .int ((pre ++ [x]).length : Int)]) [.int (tog l)] := by
        simpa [List.all_append] using ih
      unfold B86x0
      simp only [gt_zero, gt_succ, int_i, row_r, bool_b, a.el, a.inr, a.lt, a.up, Bool.and_true, cond_true]
      revert ih
      cases pre.all (fun d => d.i == 1) <;> cases pre.all (fun d => d.i == 3) <;> exact fun ih => ih)
  exact Ev.congr (fun k => by simp [F86, gt_zero, row_r]) h0
/-- The verdicts of a list. -/
def vs (l : List D) : List D := l.map fun x => .int (x.c 1).i
theorem vs_snoc (l : List D) (x : D) : vs (l ++ [x]) = vs l ++ [.int (x.c 1).i] := by simp [vs]
theorem vs_len (l : List D) : (vs l).length = l.length := by simp [vs]
theorem need_vs {l pre post : List D} {x d : D} (hp : l = pre ++ x :: post) (hl : l.length * 8 ≤ 140737488351232) : needOk ((vs pre).length + [d].length) 8 = true := needOk_yes (by
  subst hp
  rw [vs_len]
  simp only [List.length_append, List.length_cons, List.length_nil] at hl ⊢
  omega)
theorem of46 (s : ByteArray) (v : Int) (l : List D) (hl : l.length * 8 ≤ 140737488351232) : Ev (fun k => F63 k [.str s, .int v, .row l]) [.int (tog (vs l))] := by
  have h0 := Ev.scan (B := B63x0) l (fun pre => [.row l, .int (l.length : Int), .int (pre.length : Int), .row (vs pre)]) (fun pre post => [.int (tog (vs l))])
    (by
      unfold B63x0
      simp only [gt_zero, gt_succ, int_i, row_r, no_more, cond_false]
      exact Ev.bind (together56 (vs l) (by rw [vs_len]; omega)) ((Ev.now _).cast (by simp [gt_zero, int_i])))
    (fun pre x post go hp ih => by
      have a := at_of hp (by omega)
      unfold B63x0
      simp only [gt_zero, gt_succ, int_i, row_r, a.el, a.inr, a.lt, a.up, Bool.and_true, cond_true, need_vs hp hl]
      rw [← vs_snoc]; exact ih)
  exact Ev.congr (fun k => by simp [F63, gt_zero, gt_succ, row_r, vs]) h0
theorem of55 (s : ByteArray) (v : Int) (l : List D) (hl : l.length * 8 ≤ 140737488351232) : Ev (fun k => F91 k [.str s, .int v, .row l]) [.int (tog (vs l))] := by
  have h0 := Ev.scan (B := B91x0) l (fun pre => [.row l, .int (l.length : Int), .int (pre.length : Int), .row (vs pre)]) (fun pre post => [.int (tog (vs l))])
    (by
      unfold B91x0
      simp only [gt_zero, gt_succ, int_i, row_r, no_more, cond_false]
      exact Ev.bind (together56 (vs l) (by rw [vs_len]; omega)) ((Ev.now _).cast (by simp [gt_zero, int_i])))
    (fun pre x post go hp ih => by
      have a := at_of hp (by omega)
      unfold B91x0
      simp only [gt_zero, gt_succ, int_i, row_r, a.el, a.inr, a.lt, a.up, Bool.and_true, cond_true, need_vs hp hl]
      rw [← vs_snoc]; exact ih)
  exact Ev.congr (fun k => by simp [F91, gt_zero, gt_succ, row_r, vs]) h0
theorem of48 (s : ByteArray) (v : Int) (l : List D) (hl : l.length * 8 ≤ 140737488351232) : Ev (fun k => F59 k [.str s, .int v, .row l]) [.int (tog (vs l))] := by
  have h0 := Ev.scan (B := B59x0) l (fun pre => [.int (pre.length : Int), .str s, .int v, .row l, .row (vs pre)]) (fun pre post => [.int (tog (vs l))])
    (by
      unfold B59x0
      simp only [gt_zero, gt_succ, int_i, row_r, str_s, no_more, cond_false]
      exact Ev.bind (together59 (vs l) (by rw [vs_len]; omega)) ((Ev.now _).cast (by simp [gt_zero, int_i])))
    (fun pre x post go hp ih => by
      have a := at_of hp (by omega)
      unfold B59x0
      simp only [gt_zero, gt_succ, int_i, row_r, str_s, a.el, a.inr, a.lt, a.up, Bool.and_true, cond_true, need_vs hp hl]
      rw [← vs_snoc]; exact ih)
  exact Ev.congr (fun k => by simp [F59, gt_zero, gt_succ, row_r, int_i, str_s, vs]) h0
theorem of58 (s : ByteArray) (v : Int) (l : List D) (hl : l.length * 8 ≤ 140737488351232) : Ev (fun k => F85 k [.str s, .int v, .row l]) [.int (tog (vs l))] := by
  have h0 := Ev.scan (B := B85x0) l (fun pre => [.int (pre.length : Int), .str s, .int v, .row l, .row (vs pre)]) (fun pre post => [.int (tog (vs l))])
    (by
      unfold B85x0
      simp only [gt_zero, gt_succ, int_i, row_r, str_s, no_more, cond_false]
      exact Ev.bind (together59 (vs l) (by rw [vs_len]; omega)) ((Ev.now _).cast (by simp [gt_zero, int_i])))
    (fun pre x post go hp ih => by
      have a := at_of hp (by omega)
      unfold B85x0
      simp only [gt_zero, gt_succ, int_i, row_r, str_s, a.el, a.inr, a.lt, a.up, Bool.and_true, cond_true, need_vs hp hl]
      rw [← vs_snoc]; exact ih)
  exact Ev.congr (fun k => by simp [F85, gt_zero, gt_succ, row_r, int_i, str_s, vs]) h0
def okFl (x : D) : Prop := okS (x.c 5)
def okM (m : D) : Prop := okS (m.c 0) ∧ okRow okFl (m.c 3) ∧ okRow okS (m.c 4)
def okG (g : D) : Prop := okS (g.c 0) ∧ okRow okM (g.c 2)
def flwK (x : D) : Int :=
  bif !decide (1 ≤ (x.c 0).i ∧ (x.c 0).i ≤ 12) then 4
  else bif !decide (0 ≤ (x.c 1).i ∧ (x.c 1).i ≤ 2000) || (!decide (0 ≤ (x.c 2).i ∧ (x.c 2).i ≤ 51) || (!decide (0 ≤ (x.c 3).i ∧ (x.c 3).i ≤ 21) || !decide (0 ≤ (x.c 4).i ∧ (x.c 4).i ≤ 21))) then 1
  else bif decide (1 ≤ (x.c 5).s.size) && (!isTag (x.c 5).s && !isName (x.c 5).s) then 3 else 0
def flF : List D → List D → Int
  | _, [] => 0
  | pre, x :: post => bif flwK x != 0 then flwK x else bif prevB (fun p => decide ((x.c 1).i < (p.c 1).i)) pre then 8 else flF (pre ++ [x]) post
def flaws (l : List D) : Int := bif decide ((l.length : Int) > 500) then 2 else flF [] l
theorem flaw99 (k : Nat) (n : Int) : F140 k [.int n] = some [.bool (decide (1 ≤ n ∧ n ≤ 12))] := by
  unfold F140
  simp only [gt_zero, gt_succ, int_i, out31, Option.bind_some, bool_b]
  congr 3
  by_cases h : 1 ≤ n ∧ n ≤ 12 <;> simp [h]
theorem flaws81 (l : List D) (hl : l.length * 8 ≤ 140737488351232) (hx : ∀ x ∈ l, okFl x) : Ev (fun k => F121 k [.row l]) [.int (flaws l)] := by
  have h0 := Ev.scan (B := B121x0) l (fun pre => [.row l, .row l, .int (l.length : Int), .int (pre.length : Int)]) (fun pre post => [.int (flF pre post)])
    (Ev.of fun k => by unfold B121x0; simp only [gt_zero, gt_succ, int_i, row_r, no_more, cond_false, flF])
    (fun pre x post go hp ih => by
      have a := at_of hp (by omega)
      have hb := prev_bind hp (by omega) (fun p => decide ((x.c 1).i < (p.c 1).i))
      have hs : okFl x := hx x (by simp [hp])
      unfold B121x0
      simp only [gt_zero, gt_succ, int_i, row_r, str_s, a.el, a.inr, a.lt, a.up, Bool.and_true, cond_true, hb, flaw99, out31, tag100 _ _ hs, name82 _ _ hs, Option.bind_some, bool_b, nonempty_beq, decide_not, bor_step, band_step, flF, flwK]
      cases !decide (1 ≤ (x.c 0).i ∧ (x.c 0).i ≤ 12)
      case true => exact Ev.now _
      cases !decide (0 ≤ (x.c 1).i ∧ (x.c 1).i ≤ 2000) || (!decide (0 ≤ (x.c 2).i ∧ (x.c 2).i ≤ 51) || (!decide (0 ≤ (x.c 3).i ∧ (x.c 3).i ≤ 21) || !decide (0 ≤ (x.c 4).i ∧ (x.c 4).i ≤ 21)))
      case true => exact Ev.now _
      cases decide (1 ≤ (x.c 5).s.size) && (!isTag (x.c 5).s && !isName (x.c 5).s)
      case true => exact Ev.now _
      cases prevB (fun p => decide ((x.c 1).i < (p.c 1).i)) pre
      case true => exact Ev.now _
      exact ih)
  unfold F121 flaws
  simp only [gt_zero, row_r]
  cases decide ((l.length : Int) > 500)
  · exact h0
  · exact Ev.now _
theorem flaws86 (l : List D) (hl : l.length * 8 ≤ 140737488351232) (hx : ∀ x ∈ l, okFl x) : Ev (fun k => F109 k [.row l]) [.int (flaws l)] := by
  have h0 := Ev.scan (B := B109x0) l (fun pre => [.row l, .int (pre.length : Int)]) (fun pre post => [.int (flF pre post)])
    (Ev.of fun k => by unfold B109x0; simp only [gt_zero, gt_succ, int_i, row_r, no_more, cond_false, flF])
    (fun pre x post go hp ih => by
      have a := at_of hp (by omega)
      have hb := prev_bind hp (by omega) (fun p => decide ((x.c 1).i < (p.c 1).i))
      have hs : okFl x := hx x (by simp [hp])
      have hn : Ev (fun n => bif decide (1 ≤ (x.c 5).s.size) then (F72 n [D.str (x.c 5).s]).bind fun ds9 => bif (!(gt ds9 0).b) then (F110 n [D.str (x.c 5).s]).bind fun ds10 => some [D.bool (!(gt ds10 0).b)] else some [D.bool false] else some [D.bool false]) [D.bool (decide (1 ≤ (x.c 5).s.size) && (!isTag (x.c 5).s && !isName (x.c 5).s))] := by
        cases decide (1 ≤ (x.c 5).s.size)
        case false => exact Ev.now _
        refine Ev.bind (tag102 _ hs) ?_
        simp only [gt_zero, bool_b]
        cases isTag (x.c 5).s
        case true => exact Ev.now _
        refine Ev.bind (name87 _ hs) ?_
        simp only [gt_zero, bool_b]
        exact Ev.now _
      unfold B109x0
      simp only [gt_zero, gt_succ, int_i, row_r, str_s, a.el, a.inr, a.lt, a.up, Bool.and_true, cond_true, hb, in38, Option.bind_some, bool_b, nonempty_beq, bor_step, flF, flwK]
      cases !decide (1 ≤ (x.c 0).i ∧ (x.c 0).i ≤ 12)
      case true => exact Ev.now _
      cases !decide (0 ≤ (x.c 1).i ∧ (x.c 1).i ≤ 2000) || (!decide (0 ≤ (x.c 2).i ∧ (x.c 2).i ≤ 51) || (!decide (0 ≤ (x.c 3).i ∧ (x.c 3).i ≤ 21) || !decide (0 ≤ (x.c 4).i ∧ (x.c 4).i ≤ 21)))
      case true => exact Ev.now _
      refine Ev.bind hn ?_
      simp only [gt_zero, bool_b]
      cases decide (1 ≤ (x.c 5).s.size) && (!isTag (x.c 5).s && !isName (x.c 5).s)
      case true => exact Ev.now _
      cases prevB (fun p => decide ((x.c 1).i < (p.c 1).i)) pre
      case true => exact Ev.now _
      exact ih)
  unfold F109 flaws
  simp only [gt_zero, row_r]
  cases decide ((l.length : Int) > 500)
  · exact h0
  · exact Ev.now _
def some2 (m : D) : Bool := decide (((m.c 3).r.length : Int) > 0) || decide (((m.c 4).r.length : Int) > 0)
def faF (v : Int) (some : Bool) : List D → List D → Int
  | _, [] => bif (v == 1) && some then 12 else 0
  | pre, x :: post => bif !isName x.s then 5 else bif prevB (fun p => Go.Op.bytesLess (ByteArray.toList x.s) (ByteArray.toList p.s) || ((ByteArray.toList x.s) == (ByteArray.toList p.s))) pre then 8 else faF v some (pre ++ [x]) post
def twice (pre : List D) (s : ByteArray) : Bool := pre.any fun o => (ByteArray.toList (o.c 0).s) == (ByteArray.toList s)
def msgT (m : D) : Int :=
  bif (m.c 2).b && (((m.c 1).i != 3) || some2 m) then 12
  else bif flaws (m.c 3).r != 0 then flaws (m.c 3).r
  else bif decide (((m.c 4).r.length : Int) > 200) then 2
  else faF (m.c 1).i (some2 m) [] (m.c 4).r
def msgF (pre : List D) (m : D) : Int :=
  bif !isRef (m.c 0).s then 3
  else bif !decide (1 ≤ (m.c 1).i ∧ (m.c 1).i ≤ 3) then 4
  else bif twice pre (m.c 0).s then 7 else msgT m
theorem twice54 (before : List D) (hl : before.length ≤ 140737488355328) (b : Bool) (s : ByteArray) (v : Int) (u : Bool) (fl fa : List D) :
    Ev (fun k => iter B90x0 k [.row before, .int (before.length : Int), .int 0, .bool b, .str s, .int v, .bool u, .row fl, .row fa]) [.bool b, .bool (twice before s), .str s, .int v, .bool u, .row fl, .row fa] :=
  Ev.scan (B := B90x0) before (fun pre => [.row before, .int (before.length : Int), .int (pre.length : Int), .bool b, .str s, .int v, .bool u, .row fl, .row fa]) (fun pre post => [.bool b, .bool (twice post s), .str s, .int v, .bool u, .row fl, .row fa])
    (Ev.of fun k => by unfold B90x0; simp only [gt_zero, gt_succ, int_i, row_r, str_s, bool_b, no_more, cond_false]; rfl)
    (fun pre x post go hp ih => by
      have a := at_of hp hl
      unfold B90x0
      simp only [gt_zero, gt_succ, int_i, row_r, str_s, bool_b, a.el, a.inr, a.lt, a.up, Bool.and_true, cond_true, twice, List.any_cons]
      rw [show (decide ((pre.length : Int) ≥ 0)) = true from decide_eq_true (by omega)]
      cases (ByteArray.toList (x.c 0).s == ByteArray.toList s)
      · exact ih
      · exact Ev.now _)
theorem fail54 (fa : List D) (hl : fa.length ≤ 140737488355328) (hx : ∀ x ∈ fa, okS x) (b : Bool) (s : ByteArray) (v : Int) (u : Bool) (fl : List D) :
    Ev (fun k => iter B90x1 k [.bool b, .row fa, .int (fa.length : Int), .int 0, .str s, .int v, .bool u, .row fl, .row fa]) [.int (faF v b [] fa)] :=
  Ev.scan (B := B90x1) fa (fun pre => [.bool b, .row fa, .int (fa.length : Int), .int (pre.length : Int), .str s, .int v, .bool u, .row fl, .row fa]) (fun pre post => [.int (faF v b pre post)])
    (Ev.of fun k => by
      unfold B90x1
      simp only [gt_zero, gt_succ, int_i, row_r, str_s, bool_b, no_more, cond_false, band_step, Option.bind_some, faF]
      cases ((v == 1) && b) <;> rfl)
    (fun pre x post go hp ih => by
      have a := at_of hp hl
      have hb := prev_bind hp hl (fun p => Go.Op.bytesLess (ByteArray.toList x.s) (ByteArray.toList p.s) || ((ByteArray.toList x.s) == (ByteArray.toList p.s)))
      unfold B90x1
      simp only [gt_zero, gt_succ, int_i, row_r, str_s, bool_b, a.el, a.inr, a.lt, a.up, Bool.and_true, cond_true, hb, name82 _ _ (hx x (by simp [hp])), Option.bind_some, faF]
      cases !isName x.s
      case true => exact Ev.now _
      cases prevB (fun p => Go.Op.bytesLess (ByteArray.toList x.s) (ByteArray.toList p.s) || ((ByteArray.toList x.s) == (ByteArray.toList p.s))) pre
      case true => exact Ev.now _
      exact ih)
theorem msg54 (before : List D) (m : D) (hl : before.length ≤ 140737488355328) (hm : okM m) :
    Ev (fun k => F90 k [.str (m.c 0).s, .int (m.c 1).i, .bool (m.c 2).b, .row (m.c 3).r, .row (m.c 4).r, .row before]) [.int (msgF before m)] := by
  obtain ⟨h0, ⟨h1, h2⟩, h3, h4⟩ := hm
  unfold F90
  simp only [gt_zero, gt_succ, int_i, row_r, str_s, bool_b, bor_step, ref43, verdict44, Option.bind_some, msgF]
  cases !isRef (m.c 0).s
  case true => exact Ev.now _
  cases !decide (1 ≤ (m.c 1).i ∧ (m.c 1).i ≤ 3)
  case true => exact Ev.now _
  refine Ev.bind (twice54 before hl _ _ _ _ _ _) ?_
  simp only [gt_zero, gt_succ, int_i, row_r, str_s, bool_b]
  cases twice before (m.c 0).s
  case true => exact Ev.now _
  have e0 : (decide (((m.c 3).r.length : Int) > 0) || decide (((m.c 4).r.length : Int) > 0)) = some2 m := rfl
  simp only [bor_step, band_step, Option.bind_some, gt_zero, bool_b, e0, msgT]
  cases ((m.c 2).b && (((m.c 1).i != 3) || some2 m))
  case true => exact Ev.now _
  refine Ev.bind (flaws81 _ h1 h2) ?_
  simp only [gt_zero, int_i]
  cases (flaws (m.c 3).r != 0)
  case true => exact Ev.now _
  cases decide (((m.c 4).r.length : Int) > 200)
  case true => exact Ev.now _
  exact fail54 (m.c 4).r (by omega) h4 _ _ _ _ _
theorem fail57 (fa : List D) (hl : fa.length ≤ 140737488355328) (hx : ∀ x ∈ fa, okS x) (s : ByteArray) (v : Int) (u : Bool) (fl : List D) :
    Ev (fun k => iter B84x0 k [.int 0, .str s, .int v, .bool u, .row fl, .row fa]) [.int (faF v (decide ((fl.length : Int) > 0) || decide ((fa.length : Int) > 0)) [] fa)] :=
  Ev.scan (B := B84x0) fa (fun pre => [.int (pre.length : Int), .str s, .int v, .bool u, .row fl, .row fa]) (fun pre post => [.int (faF v (decide ((fl.length : Int) > 0) || decide ((fa.length : Int) > 0)) pre post)])
    (Ev.of fun k => by
      unfold B84x0
      simp only [gt_zero, gt_succ, int_i, row_r, str_s, bool_b, no_more, cond_false, bor_step, band_step, Option.bind_some, faF]
      cases ((v == 1) && (decide ((fl.length : Int) > 0) || decide ((fa.length : Int) > 0))) <;> rfl)
    (fun pre x post go hp ih => by
      have a := at_of hp hl
      have hb := prev_bind hp hl (fun p => Go.Op.bytesLess (ByteArray.toList x.s) (ByteArray.toList p.s) || ((ByteArray.toList x.s) == (ByteArray.toList p.s)))
      unfold B84x0
      simp only [gt_zero, gt_succ, int_i, row_r, str_s, bool_b, a.el, a.inr, a.lt, a.up, Bool.and_true, cond_true, hb, Option.bind_some, faF]
      refine Ev.bind (name87 _ (hx x (by simp [hp]))) ?_
      simp only [gt_zero, bool_b]
      cases !isName x.s
      case true => exact Ev.now _
      cases prevB (fun p => Go.Op.bytesLess (ByteArray.toList x.s) (ByteArray.toList p.s) || ((ByteArray.toList x.s) == (ByteArray.toList p.s))) pre
      case true => exact Ev.now _
      exact ih)
theorem msg57 (l pre post : List D) (m : D) (hp : l = pre ++ m :: post) (hl : l.length * 8 ≤ 140737488351232) (hm : okM m) :
    Ev (fun k => F84 k [.row l, .int (pre.length : Int)]) [.int (msgF pre m)] := by
  obtain ⟨h0, ⟨h1, h2⟩, h3, h4⟩ := hm
  have hpl : pre.length ≤ 140737488355328 := by
    have := hl
    rw [hp] at this
    simp only [List.length_append, List.length_cons] at this
    omega
  have hloop : Ev (fun k => iter B84x1 k [.row l, .int (pre.length : Int), .int 0, .str (m.c 0).s, .int (m.c 1).i, .bool (m.c 2).b, .row (m.c 3).r, .row (m.c 4).r]) [.int (bif twice pre (m.c 0).s then 7 else msgT m)] :=
    Ev.scan (B := B84x1) pre (fun p => [.row l, .int (pre.length : Int), .int (p.length : Int), .str (m.c 0).s, .int (m.c 1).i, .bool (m.c 2).b, .row (m.c 3).r, .row (m.c 4).r]) (fun _ q => [.int (bif twice q (m.c 0).s then 7 else msgT m)])
      (by
        unfold B84x1
        have e0 : (decide (((m.c 3).r.length : Int) > 0) || decide (((m.c 4).r.length : Int) > 0)) = some2 m := rfl
        have e1 : (some2 m || false) = some2 m := by simp
        simp only [gt_zero, gt_succ, int_i, row_r, str_s, bool_b, no_more, cond_false, bor_step, band_step, Option.bind_some, e0, twice, List.any_nil, msgT]
        cases ((m.c 2).b && (((m.c 1).i != 3) || some2 m))
        case true => exact Ev.now _
        refine Ev.bind (flaws86 _ h1 h2) ?_
        simp only [gt_zero, int_i]
        cases (flaws (m.c 3).r != 0)
        case true => exact Ev.now _
        cases decide (((m.c 4).r.length : Int) > 200)
        case true => exact Ev.now _
        exact fail57 (m.c 4).r (by omega) h4 _ _ _ _)
      (fun p x q go hq ih => by
        have a := at_of (l := l) (pre := p) (x := x) (post := q ++ m :: post) (by rw [hp, hq]; simp) (by omega)
        have a' := at_of hq hpl
        unfold B84x1
        simp only [gt_zero, gt_succ, int_i, row_r, str_s, bool_b, a.el, a.inr, a'.lt, a.up, Bool.and_true, cond_true, twice, List.any_cons]
        cases (ByteArray.toList (x.c 0).s == ByteArray.toList (m.c 0).s)
        · exact ih
        · exact Ev.now _)
  have a := at_of hp (by omega)
  unfold F84
  simp only [gt_zero, gt_succ, int_i, row_r, str_s, bool_b, a.el, a.inr, Bool.and_true, cond_true, msgF]
  refine Ev.bind (ref41 _ h0) ?_
  simp only [gt_zero, bool_b, verdict42, Option.bind_some]
  cases !isRef (m.c 0).s
  case true => exact Ev.now _
  cases !decide (1 ≤ (m.c 1).i ∧ (m.c 1).i ≤ 3)
  case true => exact Ev.now _
  exact hloop
def msF (v : Int) (t : Int) : List D → List D → Int
  | _, [] => bif t != v then 12 else 0
  | pre, m :: post => bif msgF pre m != 0 then msgF pre m else msF v t (pre ++ [m]) post
def grpT (g : D) : Int := msF (g.c 1).i (tog (vs (g.c 2).r)) [] (g.c 2).r
def grpF (pre : List D) (g : D) : Int :=
  bif !isRef (g.c 0).s then 3
  else bif !decide (1 ≤ (g.c 1).i ∧ (g.c 1).i ≤ 3) then 4
  else bif twice pre (g.c 0).s then 7 else grpT g
theorem twice45 (before : List D) (hl : before.length ≤ 140737488355328) (s : ByteArray) (v : Int) (ms : List D) :
    Ev (fun k => iter B62x0 k [.row before, .int (before.length : Int), .int 0, .str s, .int v, .row ms]) [.bool (twice before s), .str s, .int v, .row ms] :=
  Ev.scan (B := B62x0) before (fun pre => [.row before, .int (before.length : Int), .int (pre.length : Int), .str s, .int v, .row ms]) (fun pre post => [.bool (twice post s), .str s, .int v, .row ms])
    (Ev.of fun k => by unfold B62x0; simp only [gt_zero, gt_succ, int_i, row_r, str_s, bool_b, no_more, cond_false]; rfl)
    (fun pre x post go hp ih => by
      have a := at_of hp hl
      unfold B62x0
      simp only [gt_zero, gt_succ, int_i, row_r, str_s, bool_b, a.el, a.inr, a.lt, a.up, Bool.and_true, cond_true, twice, List.any_cons]
      rw [show (decide ((pre.length : Int) ≥ 0)) = true from decide_eq_true (by omega)]
      cases (ByteArray.toList (x.c 0).s == ByteArray.toList s)
      · exact ih
      · exact Ev.now _)
theorem msgs45 (ms : List D) (hl : ms.length * 8 ≤ 140737488351232) (hx : ∀ x ∈ ms, okM x) (s : ByteArray) (v : Int) :
    Ev (fun k => iter B62x1 k [.row ms, .int (ms.length : Int), .int 0, .str s, .int v, .row ms]) [.int (msF v (tog (vs ms)) [] ms)] :=
  Ev.scan (B := B62x1) ms (fun pre => [.row ms, .int (ms.length : Int), .int (pre.length : Int), .str s, .int v, .row ms]) (fun pre post => [.int (msF v (tog (vs ms)) pre post)])
    (by
      unfold B62x1
      simp only [gt_zero, gt_succ, int_i, row_r, str_s, no_more, cond_false, msF]
      refine Ev.bind (of55 s v ms hl) ?_
      simp only [gt_zero, int_i]
      cases (tog (vs ms) != v) <;> exact Ev.now _)
    (fun pre x post go hp ih => by
      have a := at_of hp (by omega)
      unfold B62x1
      simp only [gt_zero, gt_succ, int_i, row_r, str_s, bool_b, a.el, a.inr, a.lt, a.up, a.tk, a.le, Bool.and_true, cond_true, msF]
      refine Ev.bind (msg54 pre x (by rw [hp] at hl; simp only [List.length_append, List.length_cons] at hl; omega) (hx x (by simp [hp]))) ?_
      simp only [gt_zero, int_i]
      cases (msgF pre x != 0)
      · exact ih
      · exact Ev.now _)
theorem grp45 (before : List D) (g : D) (hl : before.length ≤ 140737488355328) (hg : okG g) :
    Ev (fun k => F62 k [.str (g.c 0).s, .int (g.c 1).i, .row (g.c 2).r, .row before]) [.int (grpF before g)] := by
  obtain ⟨h0, h1, h2⟩ := hg
  unfold F62
  simp only [gt_zero, gt_succ, int_i, row_r, str_s, bool_b, ref43, verdict44, Option.bind_some, grpF]
  cases !isRef (g.c 0).s
  case true => exact Ev.now _
  cases !decide (1 ≤ (g.c 1).i ∧ (g.c 1).i ≤ 3)
  case true => exact Ev.now _
  refine Ev.bind (twice45 before hl _ _ _) ?_
  simp only [gt_zero, gt_succ, int_i, row_r, str_s, bool_b]
  cases twice before (g.c 0).s
  case true => exact Ev.now _
  exact msgs45 (g.c 2).r h1 h2 _ _
theorem msgs47 (ms : List D) (hl : ms.length * 8 ≤ 140737488351232) (hx : ∀ x ∈ ms, okM x) (s : ByteArray) (v : Int) :
    Ev (fun k => iter B58x0 k [.int 0, .str s, .int v, .row ms]) [.int (msF v (tog (vs ms)) [] ms)] :=
  Ev.scan (B := B58x0) ms (fun pre => [.int (pre.length : Int), .str s, .int v, .row ms]) (fun pre post => [.int (msF v (tog (vs ms)) pre post)])
    (by
      unfold B58x0
      simp only [gt_zero, gt_succ, int_i, row_r, str_s, no_more, cond_false, msF]
      refine Ev.bind (of58 s v ms hl) ?_
      simp only [gt_zero, int_i, bne_comm v]
      cases (tog (vs ms) != v) <;> exact Ev.now _)
    (fun pre x post go hp ih => by
      have a := at_of hp (by omega)
      unfold B58x0
      simp only [gt_zero, gt_succ, int_i, row_r, str_s, bool_b, a.el, a.inr, a.lt, a.up, Bool.and_true, cond_true, msF]
      refine Ev.bind (msg57 ms pre post x hp hl (hx x (by simp [hp]))) ?_
      simp only [gt_zero, int_i]
      cases (msgF pre x != 0)
      · exact ih
      · exact Ev.now _)
theorem grp47 (l pre post : List D) (g : D) (hp : l = pre ++ g :: post) (hl : l.length * 8 ≤ 140737488351232) (hg : okG g) :
    Ev (fun k => F58 k [.row l, .int (pre.length : Int)]) [.int (grpF pre g)] := by
  obtain ⟨h0, h1, h2⟩ := hg
  have hpl : pre.length ≤ 140737488355328 := by
    have := hl
    rw [hp] at this
    simp only [List.length_append, List.length_cons] at this
    omega
  have hloop : Ev (fun k => iter B58x1 k [.row l, .int (pre.length : Int), .int 0, .str (g.c 0).s, .int (g.c 1).i, .row (g.c 2).r]) [.int (bif twice pre (g.c 0).s then 7 else grpT g)] :=
    Ev.scan (B := B58x1) pre (fun p => [.row l, .int (pre.length : Int), .int (p.length : Int), .str (g.c 0).s, .int (g.c 1).i, .row (g.c 2).r]) (fun _ q => [.int (bif twice q (g.c 0).s then 7 else grpT g)])
      (by
        unfold B58x1
        simp only [gt_zero, gt_succ, int_i, row_r, str_s, bool_b, no_more, cond_false, twice, List.any_nil]
        exact msgs47 (g.c 2).r h1 h2 _ _)
      (fun p x q go hq ih => by
        have a := at_of (l := l) (pre := p) (x := x) (post := q ++ g :: post) (by rw [hp, hq]; simp) (by omega)
        have a' := at_of hq hpl
        unfold B58x1
        simp only [gt_zero, gt_succ, int_i, row_r, str_s, bool_b, a.el, a.inr, a'.lt, a.up, Bool.and_true, cond_true, twice, List.any_cons]
        cases (ByteArray.toList (x.c 0).s == ByteArray.toList (g.c 0).s)
        · exact ih
        · exact Ev.now _)
  have a := at_of hp (by omega)
  unfold F58
  simp only [gt_zero, gt_succ, int_i, row_r, str_s, bool_b, a.el, a.inr, Bool.and_true, cond_true, grpF]
  refine Ev.bind (ref41 _ h0) ?_
  simp only [gt_zero, bool_b, verdict42, Option.bind_some]
  cases !isRef (g.c 0).s
  case true => exact Ev.now _
  cases !decide (1 ≤ (g.c 1).i ∧ (g.c 1).i ≤ 3)
  case true => exact Ev.now _
  exact hloop
def many (l : List D) : Int := l.foldl (fun a g => IntKind.i64.wrap (a + ((g.c 2).r.length : Int))) 0
theorem many_snoc (l : List D) (g : D) : many (l ++ [g]) = IntKind.i64.wrap (many l + ((g.c 2).r.length : Int)) := by simp [many]
def gsF (v t : Int) : List D → List D → Int
  | pre, [] => bif decide (many pre > 200) then 2 else bif t != v then 12 else 0
  | pre, g :: post => bif grpF pre g != 0 then grpF pre g else gsF v t (pre ++ [g]) post
def repF (s : ByteArray) (v : Int) (gs : List D) : Int :=
  bif !isRef s then 3
  else bif !decide (1 ≤ v ∧ v ≤ 3) then 4
  else bif decide ((gs.length : Int) > 50) then 2
  else gsF v (tog (vs gs)) [] gs
theorem rep35 (s : ByteArray) (v : Int) (gs : List D) (hl : gs.length * 8 ≤ 140737488351232) (hx : ∀ x ∈ gs, okG x) : Ev (fun k => F29 k [.str s, .int v, .row gs]) [.int (repF s v gs)] := by
  have h0 := Ev.scan (B := B29x0) gs (fun pre => [.int (many pre), .row gs, .int (gs.length : Int), .int (pre.length : Int), .str s, .int v, .row gs]) (fun pre post => [.int (gsF v (tog (vs gs)) pre post)])
    (by
      unfold B29x0
      simp only [gt_zero, gt_succ, int_i, row_r, str_s, no_more, cond_false, gsF]
      cases decide (many gs > 200)
      case true => exact Ev.now _
      refine Ev.bind (of46 s v gs hl) ?_
      simp only [gt_zero, int_i]
      cases (tog (vs gs) != v) <;> exact Ev.now _)
    (fun pre x post go hp ih => by
      have a := at_of hp (by omega)
      unfold B29x0
      simp only [gt_zero, gt_succ, int_i, row_r, str_s, bool_b, a.el, a.inr, a.lt, a.up, a.tk, a.le, Bool.and_true, cond_true, gsF]
      refine Ev.bind (grp45 pre x (by rw [hp] at hl; simp only [List.length_append, List.length_cons] at hl; omega) (hx x (by simp [hp]))) ?_
      simp only [gt_zero, int_i]
      rw [← many_snoc]
      cases (grpF pre x != 0)
      · exact ih
      · exact Ev.now _)
  unfold F29 repF
  simp only [gt_zero, gt_succ, int_i, row_r, str_s, bool_b, ref43, verdict44, Option.bind_some]
  cases !isRef s
  case true => exact Ev.now _
  cases !decide (1 ≤ v ∧ v ≤ 3)
  case true => exact Ev.now _
  cases decide ((gs.length : Int) > 50)
  case true => exact Ev.now _
  exact h0
theorem rep37 (s : ByteArray) (hs : s.size ≤ 140737488351232) (v : Int) (gs : List D) (hl : gs.length * 8 ≤ 140737488351232) (hx : ∀ x ∈ gs, okG x) : Ev (fun k => F28 k [.str s, .int v, .row gs]) [.int (repF s v gs)] := by
  have h0 := Ev.scan (B := B28x0) gs (fun pre => [.int (many pre), .int (pre.length : Int), .str s, .int v, .row gs]) (fun pre post => [.int (gsF v (tog (vs gs)) pre post)])
    (by
      unfold B28x0
      simp only [gt_zero, gt_succ, int_i, row_r, str_s, no_more, cond_false, gsF]
      cases decide (many gs > 200)
      case true => exact Ev.now _
      refine Ev.bind (of48 s v gs hl) ?_
      simp only [gt_zero, int_i, bne_comm v]
      cases (tog (vs gs) != v) <;> exact Ev.now _)
    (fun pre x post go hp ih => by
      have a := at_of hp (by omega)
      unfold B28x0
      simp only [gt_zero, gt_succ, int_i, row_r, str_s, bool_b, a.el, a.inr, a.lt, a.up, Bool.and_true, cond_true, gsF]
      refine Ev.bind (grp47 gs pre post x hp hl (hx x (by simp [hp]))) ?_
      simp only [gt_zero, int_i]
      rw [← many_snoc]
      cases (grpF pre x != 0)
      · exact ih
      · exact Ev.now _)
  unfold F28 repF
  simp only [gt_zero, gt_succ, int_i, row_r, str_s, bool_b, verdict42, Option.bind_some]
  refine Ev.bind (ref41 s hs) ?_
  simp only [gt_zero, bool_b]
  cases !isRef s
  case true => exact Ev.now _
  cases !decide (1 ≤ v ∧ v ≤ 3)
  case true => exact Ev.now _
  cases decide ((gs.length : Int) > 50)
  case true => exact Ev.now _
  exact h0
end Go.Sx
