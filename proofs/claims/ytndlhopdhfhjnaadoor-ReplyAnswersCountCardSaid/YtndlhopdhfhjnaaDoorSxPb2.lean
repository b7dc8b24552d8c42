/- The reply book: checks, standings, equal lists. -/
import Derived.Test.YtndlhopdhfhjnaaDoorSxPb
set_option linter.unusedVariables false
set_option linter.unusedSimpArgs false
namespace Go.Sx
/-! ### Checks -/
theorem out31 (k : Nat) (n a b : Int) : F31 k [.int n, .int a, .int b] = some [.bool (decide ¬ (a ≤ n ∧ n ≤ b))] := by
  unfold F31
  simp only [gt_zero, gt_succ, int_i]
  by_cases h : n < a
  · rw [decide_eq_true h, decide_eq_true (show ¬ (a ≤ n ∧ n ≤ b) by omega)]; rfl
  · rw [decide_eq_false h]
    simp only [cond_false]
    congr 3
    exact decide_eq_decide.2 (by omega)
theorem in38 (k : Nat) (n a b : Int) : F38 k [.int n, .int a, .int b] = some [.bool (decide (a ≤ n ∧ n ≤ b))] := by
  unfold F38
  simp only [gt_zero, gt_succ, int_i]
  by_cases h : n ≥ a
  · rw [decide_eq_true h]
    simp only [cond_true]
    congr 3
    exact decide_eq_decide.2 (by omega)
  · rw [decide_eq_false h, decide_eq_false (show ¬ (a ≤ n ∧ n ≤ b) by omega)]; rfl
theorem moment28 (k : Nat) (n : Int) : F28 k [.int n] = some [.bool (decide (0 ≤ n ∧ n ≤ 1000000000000000))] := by
  unfold F28
  simp only [gt_zero, gt_succ, int_i, out31, Option.bind_some, bool_b]
  congr 3
  by_cases h : 0 ≤ n ∧ n ≤ 1000000000000000 <;> simp [h]
theorem verdict44 (k : Nat) (n : Int) : F44 k [.int n] = some [.bool (decide (1 ≤ n ∧ n ≤ 3))] := by
  unfold F44
  simp only [gt_zero, gt_succ, int_i, out31, Option.bind_some, bool_b]
  congr 3
  by_cases h : 1 ≤ n ∧ n ≤ 3 <;> simp [h]
theorem verdict42 (k : Nat) (n : Int) : F42 k [.int n] = some [.bool (decide (1 ≤ n ∧ n ≤ 3))] := by
  unfold F42
  simp only [gt_zero, gt_succ, int_i, in38, Option.bind_some, bool_b]
/-- The fault of one event. -/
def ef (x : Bk) : Int :=
  if x.kind ≠ 1 ∧ x.kind ≠ 2 then 4 else if ¬ (0 ≤ x.time ∧ x.time ≤ 1000000000000000) then 1 else if isRef x.ref = false then 3 else
    if x.kind = 1 then (if x.verdict ≠ 0 then 3 else if ¬ (x.time ≤ x.due ∧ x.due ≤ x.time + 10000000) then 1 else 0)
    else (if x.due ≠ 0 then 3 else if ¬ (1 ≤ x.verdict ∧ x.verdict ≤ 3) then 4 else 0)
theorem ev33 (x : Bk) (hx : x.ok) : Ev (fun k => F33 k [.int x.kind, .int x.time, .int x.due, .str x.ref, .int x.verdict]) [.int (ef x)] := by
  unfold F33 ef
  simp only [gt_zero, gt_succ, int_i, str_s, in38, verdict42, Option.bind_some, bool_b]
  have e1 : (bif (x.kind != 1) then some [D.bool (x.kind != 2)] else some [D.bool false]) = some [D.bool (decide (x.kind ≠ 1 ∧ x.kind ≠ 2))] := by
    by_cases h1 : x.kind = 1
    · rw [bneI_false h1]; simp [h1]
    · rw [bneI_true h1]
      by_cases h2 : x.kind = 2
      · rw [bneI_false h2]; simp [h2]
      · rw [bneI_true h2]; simp [h1, h2]
  rw [e1]
  simp only [Option.bind_some, gt_zero, bool_b]
  by_cases h1 : x.kind ≠ 1 ∧ x.kind ≠ 2
  · rw [if_pos h1]; exact Ev.pos (decide_eq_true h1) (Ev.now _)
  rw [if_neg h1]
  refine Ev.neg (decide_eq_false h1) ?_
  by_cases h2 : 0 ≤ x.time ∧ x.time ≤ 1000000000000000
  case neg => rw [if_pos h2]; exact Ev.pos (by simp [h2]) (Ev.now _)
  rw [if_neg (fun h => h h2)]
  refine Ev.neg (by simp [h2]) (Ev.bind (ref41 x.ref hx.ref) ?_)
  simp only [gt_zero, bool_b]
  cases h3 : isRef x.ref
  · rw [if_pos rfl]; exact Ev.pos rfl (Ev.now _)
  rw [if_neg (by simp)]
  refine Ev.neg rfl ?_
  rw [w64 (by omega) (by omega)]
  by_cases h4 : x.kind = 1
  · rw [if_pos h4]
    refine Ev.pos (beqI_true h4) ?_
    by_cases h5 : x.verdict = 0
    · rw [if_neg (fun h => h h5)]
      refine Ev.neg (bneI_false h5) ?_
      by_cases h6 : x.time ≤ x.due ∧ x.due ≤ x.time + 10000000
      · rw [if_neg (fun h => h h6)]; exact Ev.neg (by simp [h6]) (Ev.now _)
      · rw [if_pos h6]; exact Ev.pos (by simp [h6]) (Ev.now _)
    · rw [if_pos h5]; exact Ev.pos (bneI_true h5) (Ev.now _)
  · rw [if_neg h4]
    refine Ev.neg (beqI_false h4) ?_
    by_cases h5 : x.due = 0
    · rw [if_neg (fun h => h h5)]
      refine Ev.neg (bneI_false h5) ?_
      by_cases h6 : 1 ≤ x.verdict ∧ x.verdict ≤ 3
      · rw [if_neg (fun h => h h6)]; exact Ev.neg (by simp [h6]) (Ev.now _)
      · rw [if_pos h6]; exact Ev.pos (by simp [h6]) (Ev.now _)
    · rw [if_pos h5]; exact Ev.pos (bneI_true h5) (Ev.now _)
/-- Earlier than the one before. -/
def late (pre : List Bk) (x : Bk) : Bool :=
  match pre.getLast? with
  | some p => decide (x.time < p.time)
  | none => false
def chk : List Bk → List Bk → Int
  | _, [] => 0
  | pre, x :: l => if ef x ≠ 0 then ef x else if late pre x = true then 8 else chk (pre ++ [x]) l
def cb (es : List Bk) : Int := if (es.length : Int) > 3000 then 2 else chk [] es
theorem late_bind (pre post : List Bk) (x : Bk) (hl : (pre ++ x :: post).length ≤ 3000) :
    (bif decide ((pre.length : Int) > 0) then
      bif (inRow (IntKind.i64.wrap ((pre.length : Int) - 1)) ((pre ++ x :: post).map Bk.d).length) then
        some [D.bool (decide (x.time < ((elAt ((pre ++ x :: post).map Bk.d) (IntKind.i64.wrap ((pre.length : Int) - 1))).c 1).i))]
      else none
     else some [D.bool false]) = some [D.bool (late pre x)] := by
  rcases List.eq_nil_or_concat pre with rfl | ⟨pre', p, rfl⟩
  · simp [late]
  · have h1 : (((pre'.concat p).length : Nat) : Int) = (pre'.length : Int) + 1 := by simp
    have h2 : pre'.concat p ++ x :: post = pre' ++ p :: x :: post := by simp
    rw [h2] at hl
    simp only [List.length_append, List.length_cons] at hl
    have h3 : IntKind.i64.wrap ((pre'.length : Int) + 1 - 1) = (pre'.length : Int) := by rw [w64 (by omega) (by omega)]; omega
    rw [h1, h2, h3, decide_eq_true (show (pre'.length : Int) + 1 > 0 by omega), inRow_yes (by omega) (by simp; omega)]
    simp only [cond_true, elAt_mid, Bk.c1, int_i]
    simp [late]
theorem ef34 (k : Nat) (pre post : List Bk) (x : Bk) (hl : (pre ++ x :: post).length ≤ 3000) : F34 k [.row ((pre ++ x :: post).map Bk.d), .int (pre.length : Int)] = some [.int (if ef x ≠ 0 then ef x else if late pre x = true then 8 else 0)] := by
  have h2 : inRow (pre.length : Int) ((pre ++ x :: post).map Bk.d).length = true := inRow_yes (by omega) (by simp; omega)
  have hlate := late_bind pre post x hl
  unfold F34
  simp only [gt_zero, gt_succ, int_i, row_r, str_s, elAt_mid, Bk.c0, Bk.c1, Bk.c2, Bk.c3, Bk.c4, h2, Bool.and_true, cond_true, out31, moment28, ref43, verdict44, Option.bind_some, bool_b]
  by_cases h1 : x.kind ≠ 1 ∧ x.kind ≠ 2
  · have he : ef x = 4 := by unfold ef; rw [if_pos h1]
    rw [he, decide_eq_true (show ¬ (1 ≤ x.kind ∧ x.kind ≤ 2) by omega)]; simp
  rw [decide_eq_false (show ¬ ¬ (1 ≤ x.kind ∧ x.kind ≤ 2) by omega)]
  simp only [cond_false]
  by_cases h3 : 0 ≤ x.time ∧ x.time ≤ 1000000000000000
  case neg =>
    have he : ef x = 1 := by unfold ef; rw [if_neg h1, if_pos h3]
    rw [he, decide_eq_false h3]; simp
  rw [decide_eq_true h3]
  simp only [Bool.not_true, cond_false]
  cases h4 : isRef x.ref
  · have he : ef x = 3 := by unfold ef; rw [if_neg h1, if_neg (fun h => h h3), if_pos h4]
    rw [he]; simp
  have hn4 : ¬ isRef x.ref = false := by rw [h4]; simp
  simp only [Bool.not_true, cond_false]
  rw [w64 (show -9223372036854775808 ≤ x.time + 10000000 by omega) (by omega), hlate]
  by_cases h5 : x.kind = 1
  · rw [beqI_true h5, beqI_false (show x.kind ≠ 2 by omega)]
    simp only [cond_true, cond_false, Option.bind_some, gt_zero, bool_b]
    by_cases h6 : x.verdict = 0
    · rw [bneI_false h6]
      simp only [cond_false]
      by_cases h7 : x.time ≤ x.due ∧ x.due ≤ x.time + 10000000
      · have he : ef x = 0 := by unfold ef; rw [if_neg h1, if_neg (fun h => h h3), if_neg hn4, if_pos h5, if_neg (fun h => h h6), if_neg (fun h => h h7)]
        rw [he, decide_eq_false (fun h => h h7)]
        simp only [cond_false]
        cases late pre x <;> simp
      · have he : ef x = 1 := by unfold ef; rw [if_neg h1, if_neg (fun h => h h3), if_neg hn4, if_pos h5, if_neg (fun h => h h6), if_pos h7]
        rw [he, decide_eq_true h7]; simp
    · have he : ef x = 3 := by unfold ef; rw [if_neg h1, if_neg (fun h => h h3), if_neg hn4, if_pos h5, if_pos h6]
      rw [he, bneI_true h6]; simp
  · rw [beqI_false h5, beqI_true (show x.kind = 2 by omega)]
    simp only [cond_true, cond_false, Option.bind_some, gt_zero, bool_b]
    by_cases h6 : x.due = 0
    · rw [bneI_false h6]
      simp only [cond_false]
      by_cases h7 : 1 ≤ x.verdict ∧ x.verdict ≤ 3
      · have he : ef x = 0 := by unfold ef; rw [if_neg h1, if_neg (fun h => h h3), if_neg hn4, if_neg h5, if_neg (fun h => h h6), if_neg (fun h => h h7)]
        rw [he, decide_eq_true h7]
        simp only [Bool.not_true, cond_false]
        cases late pre x <;> simp
      · have he : ef x = 4 := by unfold ef; rw [if_neg h1, if_neg (fun h => h h3), if_neg hn4, if_neg h5, if_neg (fun h => h h6), if_pos h7]
        rw [he, decide_eq_false h7]; simp
    · have he : ef x = 3 := by unfold ef; rw [if_neg h1, if_neg (fun h => h h3), if_neg hn4, if_neg h5, if_pos h6]
      rw [he, bneI_true h6]; simp
theorem ev16 : ∀ (post pre : List Bk), (pre ++ post).length ≤ 3000 → Ev (fun k => iter B16x0 k [.row ((pre ++ post).map Bk.d), .int ((pre ++ post).length : Int), .int (pre.length : Int)]) [.int (chk pre post)]
  | [], pre, hl => by
    refine Ev.iter (Ev.of fun k => ?_)
    unfold B16x0
    simp [gt_zero, gt_succ, int_i, row_r, chk]
  | x :: post, pre, hl => by
    have h1 : (pre.length : Int) < ((pre ++ x :: post).length : Int) := by simp; omega
    have hpp : (pre ++ [x]) ++ post = pre ++ x :: post := by simp
    have ih := ev16 post (pre ++ [x]) (by simpa using hl)
    rw [hpp] at ih
    have hl3 := hl
    simp only [List.length_append, List.length_cons] at hl3
    have h3 : IntKind.i64.wrap ((pre.length : Int) + 1) = ((pre ++ [x]).length : Int) := by rw [w64 (by omega) (by omega)]; simp
    refine Ev.iterG fun go hgo => ?_
    have ih := hgo _ _ ih
    unfold B16x0
    simp only [gt_zero, gt_succ, int_i, row_r, h1, decide_true, cond_true, ef34 _ pre post x hl, Option.bind_some, h3, chk]
    by_cases he : ef x = 0
    · rw [if_neg (show ¬ ef x ≠ 0 from fun h => h he), if_neg (show ¬ ef x ≠ 0 from fun h => h he)]
      cases hlt : late pre x
      · exact ih
      · exact Ev.pos rfl (Ev.now _)
    · rw [if_pos he, if_pos he]
      exact Ev.pos (bneI_true he) (Ev.now _)
theorem ev16b (es : List Bk) : Ev (fun k => F16 k [.row (es.map Bk.d)]) [.int (cb es)] := by
  unfold F16 cb
  simp only [gt_zero, row_r, List.length_map]
  by_cases h : (es.length : Int) > 3000
  · rw [if_pos h]; exact Ev.pos (decide_eq_true h) (Ev.now _)
  · rw [if_neg h]
    refine Ev.neg (decide_eq_false h) ?_
    exact ev16 es [] (by simp; omega)
theorem ev15 : ∀ (post pre : List Bk), (∀ x ∈ post, x.ok) → (pre ++ post).length ≤ 3000 → Ev (fun k => iter B15x0 k [.row ((pre ++ post).map Bk.d), .int (pre.length : Int)]) [.int (chk pre post)]
  | [], pre, _, hl => by
    refine Ev.iter (Ev.of fun k => ?_)
    unfold B15x0
    simp [gt_zero, gt_succ, int_i, row_r, chk]
  | x :: post, pre, hx, hl => by
    have h1 : (pre.length : Int) < (((pre ++ x :: post).map Bk.d).length : Int) := by simp; omega
    have h2 : inRow (pre.length : Int) ((pre ++ x :: post).map Bk.d).length = true := inRow_yes (by omega) h1
    have hpp : (pre ++ [x]) ++ post = pre ++ x :: post := by simp
    have ih := ev15 post (pre ++ [x]) (fun z hz => hx z (by simp [hz])) (by simpa using hl)
    rw [hpp] at ih
    have hl3 := hl
    simp only [List.length_append, List.length_cons] at hl3
    have h3 : IntKind.i64.wrap ((pre.length : Int) + 1) = ((pre ++ [x]).length : Int) := by rw [w64 (by omega) (by omega)]; simp
    have hlate := late_bind pre post x hl
    refine Ev.iterG fun go hgo => ?_
    have ih := hgo _ _ ih
    unfold B15x0
    simp only [gt_zero, gt_succ, int_i, row_r, str_s, elAt_mid, Bk.c0, Bk.c1, Bk.c2, Bk.c3, Bk.c4, h1, h2, decide_true, cond_true, Bool.and_true, h3, chk, hlate]
    refine Ev.bind (ev33 x (hx x (by simp))) ?_
    simp only [gt_zero, int_i, Option.bind_some, bool_b]
    by_cases he : ef x = 0
    · rw [if_neg (show ¬ ef x ≠ 0 from fun h => h he)]
      refine Ev.neg (bneI_false he) ?_
      cases hlt : late pre x
      · exact ih
      · exact Ev.pos rfl (Ev.now _)
    · rw [if_pos he]
      exact Ev.pos (bneI_true he) (Ev.now _)
theorem ev15b (es : List Bk) (hx : ∀ x ∈ es, x.ok) : Ev (fun k => F15 k [.row (es.map Bk.d)]) [.int (cb es)] := by
  unfold F15 cb
  simp only [gt_zero, row_r, List.length_map]
  by_cases h : (es.length : Int) > 3000
  · rw [if_pos h]; exact Ev.pos (decide_eq_true h) (Ev.now _)
  · rw [if_neg h]
    refine Ev.neg (decide_eq_false h) ?_
    exact ev15 es [] hx (by simp; omega)
/-- A right book. -/
theorem chk_zero : ∀ {l pre : List Bk}, chk pre l = 0 → ∀ x ∈ l, ef x = 0
  | [], _, _, x, h => by simp at h
  | y :: l, pre, h, x, hx => by
    simp only [chk] at h
    by_cases he : ef y = 0
    · rw [if_neg (fun h => h he)] at h
      by_cases hl : late pre y = true
      · rw [if_pos hl] at h; cases h
      · rw [if_neg hl] at h
        rcases List.mem_cons.1 hx with rfl | hx
        · exact he
        · exact chk_zero h x hx
    · rw [if_pos he] at h; exact absurd h he
theorem cb_zero {es : List Bk} (h : cb es = 0) : es.length ≤ 3000 ∧ ∀ x ∈ es, ef x = 0 := by
  unfold cb at h
  split at h
  · cases h
  · exact ⟨by omega, chk_zero h⟩
theorem ef_zero {x : Bk} (h : ef x = 0) : (x.kind = 1 ∨ x.kind = 2) ∧ 0 ≤ x.time ∧ x.time ≤ 1000000000000000 ∧ isRef x.ref = true ∧ (x.kind = 1 → x.verdict = 0 ∧ x.time ≤ x.due ∧ x.due ≤ x.time + 10000000) ∧ (x.kind = 2 → x.due = 0 ∧ 1 ≤ x.verdict ∧ x.verdict ≤ 3) := by
  unfold ef at h
  split at h
  · cases h
  split at h
  · cases h
  split at h
  · cases h
  rename_i h1 h2 h3
  have hr : isRef x.ref = true := by simpa using h3
  split at h
  · rename_i h4
    split at h
    · cases h
    split at h
    · cases h
    rename_i h5 h6
    exact ⟨.inl h4, by omega, by omega, hr, fun _ => ⟨by omega, by omega, by omega⟩, fun h => by omega⟩
  · rename_i h4
    split at h
    · cases h
    split at h
    · cases h
    rename_i h5 h6
    exact ⟨by omega, by omega, by omega, hr, fun h => absurd h h4, fun _ => ⟨by omega, by omega, by omega⟩⟩

/-! ### Equal lists -/
theorem ba_beq (a : ByteArray) : (a == a) = true := by
  obtain ⟨⟨l⟩⟩ := a
  show (Array.mk l == Array.mk l) = true
  simp
theorem ev17 : ∀ (post pre : List Sd), (pre ++ post).length ≤ 3000000 → Ev (fun k => iter B17x0 k [.row ((pre ++ post).map Sd.d), .row ((pre ++ post).map Sd.d), .int ((pre ++ post).length : Int), .int (pre.length : Int)]) [.bool true]
  | [], pre, hl => by
    refine Ev.iter (Ev.of fun k => ?_)
    unfold B17x0
    simp [gt_zero, gt_succ, int_i, row_r]
  | x :: post, pre, hl => by
    have h1 : (pre.length : Int) < ((pre ++ x :: post).length : Int) := by simp; omega
    have h2 : inRow (pre.length : Int) ((pre ++ x :: post).map Sd.d).length = true := inRow_yes (by omega) (by simpa using h1)
    have hpp : (pre ++ [x]) ++ post = pre ++ x :: post := by simp
    have ih := ev17 post (pre ++ [x]) (by simpa using hl)
    rw [hpp] at ih
    simp only [List.length_append, List.length_cons] at hl
    have h3 : IntKind.i64.wrap ((pre.length : Int) + 1) = ((pre ++ [x]).length : Int) := by rw [w64 (by omega) (by omega)]; simp
    refine Ev.iterG fun go hgo => Ev.congr (fun k => ?_) (hgo _ _ ih)
    unfold B17x0
    simp only [gt_zero, gt_succ, int_i, row_r, str_s, elAt_mid, Sd.c0, Sd.c1, Sd.c2, Sd.c3, Sd.c4, h1, h2, decide_true, cond_true, Bool.and_true, h3, ba_beq, beq_self_eq_true, Bool.not_true, cond_false]
theorem ev17b (l : List Sd) (hl : l.length ≤ 3000000) : Ev (fun k => F17 k [.row (l.map Sd.d), .row (l.map Sd.d)]) [.bool true] := by
  have := ev17 l [] (by simpa using hl)
  refine Ev.congr (fun k => ?_) this
  simp [F17, gt_zero, gt_succ, row_r]
theorem ev18 : ∀ (post pre : List Int), (pre ++ post).length ≤ 3000000 → Ev (fun k => iter B18x0 k [.row ((pre ++ post).map .int), .row ((pre ++ post).map .int), .int ((pre ++ post).length : Int), .int (pre.length : Int)]) [.bool true]
  | [], pre, hl => by
    refine Ev.iter (Ev.of fun k => ?_)
    unfold B18x0
    simp [gt_zero, gt_succ, int_i, row_r]
  | x :: post, pre, hl => by
    have h1 : (pre.length : Int) < ((pre ++ x :: post).length : Int) := by simp; omega
    have h2 : inRow (pre.length : Int) ((pre ++ x :: post).map D.int).length = true := inRow_yes (by omega) (by simpa using h1)
    have hpp : (pre ++ [x]) ++ post = pre ++ x :: post := by simp
    have ih := ev18 post (pre ++ [x]) (by simpa using hl)
    rw [hpp] at ih
    simp only [List.length_append, List.length_cons] at hl
    have h3 : IntKind.i64.wrap ((pre.length : Int) + 1) = ((pre ++ [x]).length : Int) := by rw [w64 (by omega) (by omega)]; simp
    refine Ev.iterG fun go hgo => Ev.congr (fun k => ?_) (hgo _ _ ih)
    unfold B18x0
    simp only [gt_zero, gt_succ, int_i, row_r, elAt_mid, h1, h2, decide_true, cond_true, Bool.and_true, h3, bne_self_eq_false, cond_false]
theorem ev18b (l : List Int) (hl : l.length ≤ 3000000) : Ev (fun k => F18 k [.row (l.map .int), .row (l.map .int)]) [.bool true] := by
  have := ev18 l [] (by simpa using hl)
  refine Ev.congr (fun k => ?_) this
  simp [F18, gt_zero, gt_succ, row_r]
end Go.Sx
