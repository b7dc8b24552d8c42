/- The reply book: what was sent by a moment, standings; the package is awake; row 5. -/
import Derived.Test.YtndlhopdhfhjnaaDoorSxPb2
set_option linter.unusedVariables false
set_option linter.unusedSimpArgs false
namespace Go.Sx
theorem run_len : ∀ {l : List Bk} {i : Nat} {s : List Sd × List Int}, s.1.length ≤ i → s.2.length ≤ i → (runA l i s).1.length ≤ i + l.length ∧ (runA l i s).2.length ≤ i + l.length
  | [], _, _, h1, h2 => ⟨h1, h2⟩
  | x :: l, i, s, h1, h2 => by
    have h3 : (stepA s i x).1.length ≤ i + 1 ∧ (stepA s i x).2.length ≤ i + 1 := by
      simp only [stepA]
      split
      · simp; omega
      · split
        · rename_i l' hc
          have := close_len hc
          simp only; omega
        · simp; omega
    have := run_len (l := l) h3.1 h3.2
    simp only [runA, List.length_cons]
    omega
/-- The events up to a moment. -/
def upto (mo : Int) (l : List Bk) : List Bk := l.takeWhile fun x => decide (x.time ≤ mo)
theorem ev29 (mo : Int) : ∀ (post pre : List Bk), (∀ x ∈ pre ++ post, x.ok ∧ 0 ≤ x.time) → (pre ++ post).length ≤ 3000 →
    Ev (fun k => iter B29x0 k [.row ((pre ++ post).map Bk.d), .int mo, .int (pre.length : Int)]) [.row ((runA (pre ++ upto mo post) 0 ([], [])).1.map Sd.d)]
  | post, pre, hx, hl => by
    have stop : ∀ rec1 k, (∀ x l, post = x :: l → ¬ x.time ≤ mo) → B29x0 k rec1 [.row ((pre ++ post).map Bk.d), .int mo, .int (pre.length : Int)] = (F27 k [.row (pre.map Bk.d)]).bind fun ds4 => some [D.row ((gt ds4 0).r)] := fun rec1 k hno => by
      unfold B29x0
      simp only [gt_zero, gt_succ, int_i, row_r]
      have e1 : (bif decide ((pre.length : Int) < (((pre ++ post).map Bk.d).length : Int)) then
          bif ((inRow (pre.length : Int) ((pre ++ post).map Bk.d).length) && true) then some [D.bool (decide (((elAt ((pre ++ post).map Bk.d) (pre.length : Int)).c 1).i ≤ mo))] else none
          else some [D.bool false]) = some [D.bool false] := by
        cases post with
        | nil => simp
        | cons x l =>
          have h1 : (pre.length : Int) < (((pre ++ x :: l).map Bk.d).length : Int) := by simp; omega
          rw [decide_eq_true h1, inRow_yes (by omega) h1, elAt_mid, Bk.c1, int_i, decide_eq_false (hno x l rfl)]
          rfl
      rw [e1]
      simp only [Option.bind_some, gt_zero, bool_b, cond_false]
      have e2 : (decide (0 ≤ (pre.length : Int)) && decide ((pre.length : Int) ≤ (((pre ++ post).map Bk.d).length : Int))) = true := by simp; omega
      rw [e2]
      simp [Int.toNat_natCast]
    have fin : (∀ x l, post = x :: l → ¬ x.time ≤ mo) → upto mo post = [] := fun hno => by
      cases post with
      | nil => rfl
      | cons x l => simp [upto, List.takeWhile_cons, hno x l rfl]
    cases post with
    | nil =>
      refine Ev.iter (Ev.congr (fun k => stop _ k (fun _ _ h => by cases h)) ?_)
      rw [fin (fun _ _ h => by cases h), List.append_nil]
      refine Ev.bind (book27 pre (fun x hx' => hx x (by simpa using hx')) (by simpa using hl)) ?_
      simp only [gt_zero, row_r]
      exact Ev.now _
    | cons x post =>
      by_cases ht : x.time ≤ mo
      · have hpp : (pre ++ [x]) ++ post = pre ++ x :: post := by simp
        have ih := ev29 mo post (pre ++ [x]) (by simpa using hx) (by simpa using hl)
        rw [hpp] at ih
        have h1 : (pre.length : Int) < (((pre ++ x :: post).map Bk.d).length : Int) := by simp; omega
        have h2 : inRow (pre.length : Int) ((pre ++ x :: post).map Bk.d).length = true := inRow_yes (by omega) h1
        have hl3 := hl
        simp only [List.length_append, List.length_cons] at hl3
        have h3 : IntKind.i64.wrap ((pre.length : Int) + 1) = ((pre ++ [x]).length : Int) := by rw [w64 (by omega) (by omega)]; simp
        refine Ev.iterG fun go hgo => Ev.congr (fun k => ?_) ((hgo _ _ ih).cast ?_)
        · unfold B29x0
          simp only [gt_zero, gt_succ, int_i, row_r, elAt_mid, Bk.c1, h1, h2, decide_true, cond_true, Bool.and_true, decide_eq_true ht, Option.bind_some, bool_b, h3]
        · simp [upto, List.takeWhile_cons, ht]
      · refine Ev.iter (Ev.congr (fun k => stop _ k (fun y l h => by cases h; exact ht)) ?_)
        rw [fin (fun y l h => by cases h; exact ht), List.append_nil]
        refine Ev.bind (book27 pre (fun z hz => hx z (by simp [hz])) (by simp at hl; omega)) ?_
        simp only [gt_zero, row_r]
        exact Ev.now _
termination_by post => post.length
theorem at29 (es : List Bk) (mo : Int) (hx : ∀ x ∈ es, x.ok ∧ 0 ≤ x.time) (hl : es.length ≤ 3000) : Ev (fun k => F29 k [.row (es.map Bk.d), .int mo]) [.row ((runA (upto mo es) 0 ([], [])).1.map Sd.d)] := by
  have := ev29 mo es [] (by simpa using hx) (by simpa using hl)
  refine Ev.congr (fun k => ?_) this
  simp [F29, gt_zero, gt_succ, row_r, int_i]

/-! ### Standings -/
def Sd.state (y : Sd) (mo : Int) : Int := if y.answer ≥ 0 then 3 else if mo > y.due then 2 else 1
theorem state30 (k : Nat) (y : Sd) (mo : Int) : F30 k [.str y.ref, .int y.time, .int y.due, .int y.answer, .int y.verdict, .int mo] = some [.int (y.state mo)] := by
  unfold F30 Sd.state
  simp only [gt_zero, gt_succ, int_i]
  by_cases h1 : y.answer ≥ 0
  · rw [decide_eq_true h1, if_pos h1]; rfl
  · rw [decide_eq_false h1, if_neg h1]
    by_cases h2 : mo > y.due
    · rw [decide_eq_true h2, if_pos h2]; rfl
    · rw [decide_eq_false h2, if_neg h2]; rfl
structure Stg where
  w : Int
  l : Int
  t : Int
  f : Int
  r : Int
  o : Int
def one (p : Prop) [Decidable p] : Int := if p then 1 else 0
def Stg.add (c : Stg) (mo : Int) (y : Sd) : Stg :=
  ⟨c.w + one (y.state mo = 1), c.l + one (y.state mo = 2), c.t + one (y.verdict = 1), c.f + one (y.verdict = 2), c.r + one (y.verdict = 3), c.o + one (y.answer > y.due)⟩
def standing (mo : Int) : List Sd → Stg → Stg
  | [], c => c
  | y :: l, c => standing mo l (c.add mo y)
structure Stg.le (c : Stg) (n : Nat) : Prop where
  w : 0 ≤ c.w ∧ c.w ≤ n
  l : 0 ≤ c.l ∧ c.l ≤ n
  t : 0 ≤ c.t ∧ c.t ≤ n
  f : 0 ≤ c.f ∧ c.f ≤ n
  r : 0 ≤ c.r ∧ c.r ≤ n
  o : 0 ≤ c.o ∧ c.o ≤ n
theorem one_le (p : Prop) [Decidable p] : 0 ≤ one p ∧ one p ≤ 1 := by unfold one; split <;> omega
theorem Stg.le_add {c : Stg} {n : Nat} (h : c.le n) (mo : Int) (y : Sd) : (c.add mo y).le (n + 1) := by
  obtain ⟨h1, h2, h3, h4, h5, h6⟩ := h
  have a1 := one_le (y.state mo = 1); have a2 := one_le (y.state mo = 2); have a3 := one_le (y.verdict = 1); have a4 := one_le (y.verdict = 2); have a5 := one_le (y.verdict = 3); have a6 := one_le (y.answer > y.due)
  constructor <;> simp only [Stg.add] <;> omega
def stD (mo : Int) (n i : Nat) (z : List D) (c : Stg) (l : List Sd) : List D := [.int mo, .int (n : Int), .int (i : Int), gt z 0, gt z 1, gt z 2, gt z 3, gt z 4, gt z 5, .int c.w, .int c.l, .int c.t, .int c.f, .int c.r, .int c.o, .row (l.map Sd.d)]
theorem step12 (k : Nat) (rec1 : List D → Option (List D)) (mo : Int) (pre post : List Sd) (y : Sd) (c : Stg) (hl : (pre ++ y :: post).length ≤ 3000) (hc : c.le pre.length) :
    B12x0 k rec1 [.int mo, .int ((pre ++ y :: post).length : Int), .int (pre.length : Int), .int 0, .int 0, .int 0, .int 0, .int 0, .int 0, .int c.w, .int c.l, .int c.t, .int c.f, .int c.r, .int c.o, .row ((pre ++ y :: post).map Sd.d)] =
      rec1 [.int mo, .int ((pre ++ y :: post).length : Int), .int ((pre ++ [y]).length : Int), .int 0, .int 0, .int 0, .int 0, .int 0, .int 0, .int (c.add mo y).w, .int (c.add mo y).l, .int (c.add mo y).t, .int (c.add mo y).f, .int (c.add mo y).r, .int (c.add mo y).o, .row ((pre ++ y :: post).map Sd.d)] := by
  have h1 : (pre.length : Int) < ((pre ++ y :: post).length : Int) := by simp; omega
  have h2 : inRow (pre.length : Int) ((pre ++ y :: post).map Sd.d).length = true := inRow_yes (by omega) (by simpa using h1)
  simp only [List.length_append, List.length_cons] at hl
  have h3 : IntKind.i64.wrap ((pre.length : Int) + 1) = ((pre ++ [y]).length : Int) := by rw [w64 (by omega) (by omega)]; simp
  obtain ⟨b1, b2, b3, b4, b5, b6⟩ := hc
  unfold B12x0
  simp only [gt_zero, gt_succ, int_i, row_r, str_s, elAt_mid, Sd.c0, Sd.c1, Sd.c2, Sd.c3, Sd.c4, h1, h2, decide_true, cond_true, Bool.and_true, state30, Option.bind_some]
  rw [w64 (n := c.w + 1) (by omega) (by omega), w64 (n := c.l + 1) (by omega) (by omega)]
  -- the state
  have e1 : (bif (y.state mo == 1) then some [D.int mo, D.int ((pre ++ y :: post).length : Int), D.int (pre.length : Int), D.int 0, D.int 0, D.int 0, D.int 0, D.int 0, D.int 0, D.int (c.w + 1), D.int c.l, D.int c.t, D.int c.f, D.int c.r, D.int c.o, D.str y.ref, D.int y.time, D.int y.due, D.int y.answer, D.int y.verdict, D.row ((pre ++ y :: post).map Sd.d)]
      else bif (y.state mo == 2) then some [D.int mo, D.int ((pre ++ y :: post).length : Int), D.int (pre.length : Int), D.int 0, D.int 0, D.int 0, D.int 0, D.int 0, D.int 0, D.int c.w, D.int (c.l + 1), D.int c.t, D.int c.f, D.int c.r, D.int c.o, D.str y.ref, D.int y.time, D.int y.due, D.int y.answer, D.int y.verdict, D.row ((pre ++ y :: post).map Sd.d)]
      else some [D.int mo, D.int ((pre ++ y :: post).length : Int), D.int (pre.length : Int), D.int 0, D.int 0, D.int 0, D.int 0, D.int 0, D.int 0, D.int c.w, D.int c.l, D.int c.t, D.int c.f, D.int c.r, D.int c.o, D.str y.ref, D.int y.time, D.int y.due, D.int y.answer, D.int y.verdict, D.row ((pre ++ y :: post).map Sd.d)]) =
      some [D.int mo, D.int ((pre ++ y :: post).length : Int), D.int (pre.length : Int), D.int 0, D.int 0, D.int 0, D.int 0, D.int 0, D.int 0, D.int (c.add mo y).w, D.int (c.add mo y).l, D.int c.t, D.int c.f, D.int c.r, D.int c.o, D.str y.ref, D.int y.time, D.int y.due, D.int y.answer, D.int y.verdict, D.row ((pre ++ y :: post).map Sd.d)] := by
    simp only [Stg.add]
    by_cases s1 : y.state mo = 1
    · rw [beqI_true s1, one, if_pos s1, one, if_neg (by omega)]; simp
    · rw [beqI_false s1, one, if_neg s1]
      by_cases s2 : y.state mo = 2
      · rw [beqI_true s2, one, if_pos s2]; simp
      · rw [beqI_false s2, one, if_neg s2]; simp
  rw [e1]
  simp only [Option.bind_some, gt_zero, gt_succ, int_i, row_r, str_s]
  rw [w64 (n := c.t + 1) (by omega) (by omega), w64 (n := c.f + 1) (by omega) (by omega), w64 (n := c.r + 1) (by omega) (by omega)]
  have e2 : ∀ (A B : Int) (q : List D), (bif (y.verdict == 1) then some [D.int mo, D.int ((pre ++ y :: post).length : Int), D.int (pre.length : Int), D.int 0, D.int 0, D.int 0, D.int 0, D.int 0, D.int 0, D.int A, D.int B, D.int (c.t + 1), D.int c.f, D.int c.r, D.int c.o, D.str y.ref, D.int y.time, D.int y.due, D.int y.answer, D.int y.verdict, D.row q]
      else bif (y.verdict == 2) then some [D.int mo, D.int ((pre ++ y :: post).length : Int), D.int (pre.length : Int), D.int 0, D.int 0, D.int 0, D.int 0, D.int 0, D.int 0, D.int A, D.int B, D.int c.t, D.int (c.f + 1), D.int c.r, D.int c.o, D.str y.ref, D.int y.time, D.int y.due, D.int y.answer, D.int y.verdict, D.row q]
      else bif (y.verdict == 3) then some [D.int mo, D.int ((pre ++ y :: post).length : Int), D.int (pre.length : Int), D.int 0, D.int 0, D.int 0, D.int 0, D.int 0, D.int 0, D.int A, D.int B, D.int c.t, D.int c.f, D.int (c.r + 1), D.int c.o, D.str y.ref, D.int y.time, D.int y.due, D.int y.answer, D.int y.verdict, D.row q]
      else some [D.int mo, D.int ((pre ++ y :: post).length : Int), D.int (pre.length : Int), D.int 0, D.int 0, D.int 0, D.int 0, D.int 0, D.int 0, D.int A, D.int B, D.int c.t, D.int c.f, D.int c.r, D.int c.o, D.str y.ref, D.int y.time, D.int y.due, D.int y.answer, D.int y.verdict, D.row q]) =
      some [D.int mo, D.int ((pre ++ y :: post).length : Int), D.int (pre.length : Int), D.int 0, D.int 0, D.int 0, D.int 0, D.int 0, D.int 0, D.int A, D.int B, D.int (c.add mo y).t, D.int (c.add mo y).f, D.int (c.add mo y).r, D.int c.o, D.str y.ref, D.int y.time, D.int y.due, D.int y.answer, D.int y.verdict, D.row q] := by
    intro A B q
    simp only [Stg.add]
    by_cases s1 : y.verdict = 1
    · rw [beqI_true s1, one, if_pos s1, one, if_neg (by omega), one, if_neg (by omega)]; simp
    · rw [beqI_false s1, one, if_neg s1]
      by_cases s2 : y.verdict = 2
      · rw [beqI_true s2, one, if_pos s2, one, if_neg (by omega)]; simp
      · rw [beqI_false s2, one, if_neg s2]
        by_cases s3 : y.verdict = 3
        · rw [beqI_true s3, one, if_pos s3]; simp
        · rw [beqI_false s3, one, if_neg s3]; simp
  rw [e2]
  simp only [Option.bind_some, gt_zero, gt_succ, int_i, row_r, str_s]
  rw [w64 (n := c.o + 1) (by omega) (by omega)]
  by_cases s1 : y.answer > y.due
  · rw [decide_eq_true s1]
    simp only [cond_true, Option.bind_some, gt_zero, gt_succ, int_i, row_r, h3]
    simp only [Stg.add, one, if_pos s1]
  · rw [decide_eq_false s1]
    simp only [cond_false, Option.bind_some, gt_zero, gt_succ, int_i, row_r, h3]
    simp only [Stg.add, one, if_neg s1, Int.add_zero]
def Stg.ds (c : Stg) : List D := [.int c.w, .int c.l, .int c.t, .int c.f, .int c.r, .int c.o]
theorem ev12 (mo : Int) : ∀ (post pre : List Sd) (c : Stg), (pre ++ post).length ≤ 3000 → c.le pre.length →
    Ev (fun k => iter B12x0 k [.int mo, .int ((pre ++ post).length : Int), .int (pre.length : Int), .int 0, .int 0, .int 0, .int 0, .int 0, .int 0, .int c.w, .int c.l, .int c.t, .int c.f, .int c.r, .int c.o, .row ((pre ++ post).map Sd.d)]) ((standing mo post c).ds ++ [.int 0])
  | [], pre, c, hl, hc => by
    refine Ev.iter (Ev.of fun k => ?_)
    unfold B12x0
    simp [gt_zero, gt_succ, int_i, row_r, standing, Stg.ds]
  | y :: post, pre, c, hl, hc => by
    have hpp : (pre ++ [y]) ++ post = pre ++ y :: post := by simp
    have ih := ev12 mo post (pre ++ [y]) (c.add mo y) (by simpa using hl) (by rw [List.length_append]; exact Stg.le_add hc mo y)
    rw [hpp] at ih
    exact Ev.iter (Ev.congr (fun k => step12 k _ mo pre post y c hl hc) ih)
def zeroS : Stg := ⟨0, 0, 0, 0, 0, 0⟩
/-- StandingAt. -/
theorem stand12 (es : List Bk) (hx : ∀ x ∈ es, x.ok) (mo : Int) : Ev (fun k => F12 k [.row (es.map Bk.d), .int mo])
    (if cb es ≠ 0 then zeroS.ds ++ [.int (cb es)] else if 0 ≤ mo ∧ mo ≤ 1000000000000000 then (standing mo (runA (upto mo es) 0 ([], [])).1 zeroS).ds ++ [.int 0] else zeroS.ds ++ [.int 1]) := by
  unfold F12
  simp only [gt_zero, gt_succ, row_r, int_i]
  refine Ev.bind (ev16b es) ?_
  simp only [gt_zero, int_i, moment28, Option.bind_some, bool_b]
  by_cases h1 : cb es = 0
  · rw [if_neg (fun h => h h1)]
    refine Ev.neg (bneI_false h1) ?_
    by_cases h2 : 0 ≤ mo ∧ mo ≤ 1000000000000000
    · rw [if_pos h2]
      refine Ev.neg (by simp [h2]) ?_
      obtain ⟨hl, hz⟩ := cb_zero h1
      refine Ev.bind (at29 es mo (fun x h => ⟨hx x h, (ef_zero (hz x h)).2.1⟩) hl) ?_
      simp only [gt_zero, row_r, List.length_map]
      have hle : (upto mo es).length ≤ es.length := (List.takeWhile_sublist _).length_le
      have hq : (runA (upto mo es) 0 ([], [])).1.length ≤ 3000 := Nat.le_trans (run_len (l := upto mo es) (i := 0) (s := ([], [])) (Nat.le_refl _) (Nat.le_refl _)).1 (by omega)
      exact ev12 mo _ [] zeroS (by rw [List.nil_append]; exact hq) ⟨by simp [zeroS], by simp [zeroS], by simp [zeroS], by simp [zeroS], by simp [zeroS], by simp [zeroS]⟩
    · rw [if_neg h2]
      exact Ev.pos (by simp [h2]) (Ev.now _)
  · rw [if_pos h1]
    exact Ev.pos (bneI_true h1) (Ev.now _)
theorem awake11 : Ev (fun k => F11 k []) [.bool true] := by
  let x : Bk := ⟨1, 0, 0, ⟨#[65]⟩, 0⟩
  have hok : ∀ z ∈ [x], z.ok := fun z hz => by
    obtain rfl : z = x := by simpa using hz
    exact ⟨⟨by decide, by decide⟩, ⟨by decide, by decide⟩, ⟨by decide, by decide⟩, by decide, ⟨by decide, by decide⟩⟩
  have h := stand12 [x] hok 0
  have hcb : cb [x] = 0 := by
    have hr : isRef x.ref = true := by decide
    have he : ef x = 0 := by
      unfold ef
      rw [hr]
      simp [x]
    simp [cb, chk, he, late]
  have hu : upto 0 [x] = [x] := by simp [upto, x]
  rw [if_neg (fun h => h hcb), if_pos (by omega), hu] at h
  unfold F11
  refine Ev.bind h ?_
  refine (Ev.now _).cast ?_
  rfl

/-! ### Row 5 -/
theorem book10 (es : List Bk) (hx : ∀ x ∈ es, x.ok) : Ev (fun k => F10 k [.row (es.map Bk.d)])
    (if cb es ≠ 0 then [.row [], .row [], .int (cb es)] else [.row ((runA es 0 ([], [])).1.map Sd.d), .row ((runA es 0 ([], [])).2.map .int), .int 0]) := by
  unfold F10
  simp only [gt_zero, row_r]
  refine Ev.bind (ev16b es) ?_
  simp only [gt_zero, int_i]
  by_cases h1 : cb es = 0
  · rw [if_neg (fun h => h h1)]
    refine Ev.neg (bneI_false h1) ?_
    obtain ⟨hl, hz⟩ := cb_zero h1
    refine Ev.bind (book27 es (fun x h => ⟨hx x h, (ef_zero (hz x h)).2.1⟩) hl) ?_
    simp only [gt_zero, gt_succ, row_r]
    exact Ev.now _
  · rw [if_pos h1]
    exact Ev.pos (bneI_true h1) (Ev.now _)
theorem book14 (es : List Bk) (hx : ∀ x ∈ es, x.ok) : Ev (fun k => F14 k [.row (es.map Bk.d)])
    (if cb es ≠ 0 then [.row [], .row [], .int (cb es)] else [.row ((runA es 0 ([], [])).1.map Sd.d), .row ((runA es 0 ([], [])).2.map .int), .int 0]) := by
  unfold F14
  simp only [gt_zero, row_r]
  refine Ev.bind (ev15b es hx) ?_
  simp only [gt_zero, int_i]
  by_cases h1 : cb es = 0
  · rw [if_neg (fun h => h h1)]
    refine Ev.neg (bneI_false h1) ?_
    obtain ⟨hl, hz⟩ := cb_zero h1
    refine Ev.bind (book32 es _ hl) ?_
    rw [runM_all (fun x h => (ef_zero (hz x h)).2.2.1)]
    simp only [gt_zero, gt_succ, row_r]
    exact Ev.now _
  · rw [if_pos h1]
    exact Ev.pos (bneI_true h1) (Ev.now _)
theorem law5 (es : List Bk) (hx : ∀ x ∈ es, x.ok) : Ev (fun k => F5 k [.row (es.map Bk.d)]) [.bool true] := by
  unfold F5
  simp only [gt_zero, row_r]
  refine Ev.bind (book14 es hx) (Ev.bind (book10 es hx) (Ev.bind (ev15b es hx) (Ev.bind (ev16b es) ?_)))
  simp only [gt_zero, int_i]
  refine Ev.pos (beqI_true rfl) ?_
  by_cases h1 : cb es = 0
  · rw [if_neg (fun h => h h1)]
    obtain ⟨hl, hz⟩ := cb_zero h1
    have hr := run_len (l := es) (i := 0) (s := ([], [])) (Nat.le_refl _) (Nat.le_refl _)
    simp only [gt_zero, gt_succ, row_r, int_i]
    refine Ev.bind (ev17b _ (by omega)) ?_
    simp only [gt_zero, bool_b]
    refine Ev.pos rfl (Ev.bind (ev18b _ (by omega)) ?_)
    simp only [gt_zero, bool_b]
    refine Ev.pos rfl (Ev.pos rfl (Ev.bind awake11 ?_))
    simp only [gt_zero, bool_b]
    exact Ev.now _
  · rw [if_pos h1]
    simp only [gt_zero, gt_succ, row_r, int_i]
    refine Ev.bind (ev17b [] (by simp)) ?_
    simp only [gt_zero, bool_b]
    refine Ev.pos rfl (Ev.bind (ev18b [] (by simp)) ?_)
    simp only [gt_zero, bool_b]
    refine Ev.pos rfl (Ev.pos (beqI_true rfl) (Ev.bind awake11 ?_))
    simp only [gt_zero, bool_b]
    exact Ev.now _
end Go.Sx
