/- Segments: where a part stands, what stands at a byte (row 18). -/
import Derived.Test.YtlhbonpdlghlbaaDoorSxWk
set_option linter.unusedVariables false
set_option linter.unusedSimpArgs false
namespace Go.Sx
def rng (e r p : Int) : Bool := decide (1 ≤ e ∧ e ≤ 50) && (decide (1 ≤ r ∧ r ≤ 20) && decide (1 ≤ p ∧ p ≤ 20))
theorem in79 (k : Nat) (n b : Int) : F79 k [.int n, .int b] = some [.bool (decide (1 ≤ n ∧ n ≤ b))] := by
  unfold F79
  simp only [gt_zero, gt_succ, int_i]
  by_cases h : n ≥ 1
  · rw [decide_eq_true h]
    simp only [cond_true]
    congr 3
    exact decide_eq_decide.2 (by omega)
  · rw [decide_eq_false h, decide_eq_false (show ¬ (1 ≤ n ∧ n ≤ b) by omega)]; rfl
theorem out46 (k : Nat) (n a b : Int) : F46 k [.int n, .int a, .int b] = some [.bool (!decide (a ≤ n ∧ n ≤ b))] := by
  unfold F46
  simp only [gt_zero, gt_succ, int_i]
  by_cases h : n < a
  · rw [decide_eq_true h, decide_eq_false (show ¬ (a ≤ n ∧ n ≤ b) by omega)]; rfl
  · rw [decide_eq_false h]
    simp only [cond_false]
    by_cases h2 : n > b
    · rw [decide_eq_true h2, decide_eq_false (show ¬ (a ≤ n ∧ n ≤ b) by omega)]; rfl
    · rw [decide_eq_false h2, decide_eq_true (show a ≤ n ∧ n ≤ b by omega)]; rfl
theorem rng47 (k : Nat) (e r p : Int) : F47 k [.int e, .int r, .int p] = some [.int (bif rng e r p then 0 else 1)] := by
  unfold F47 rng
  simp only [gt_zero, gt_succ, int_i, out46, Option.bind_some, bool_b]
  cases decide (1 ≤ e ∧ e ≤ 50) <;> cases decide (1 ≤ r ∧ r ≤ 20) <;> cases decide (1 ≤ p ∧ p ≤ 20) <;> rfl
theorem spot45 (d : D) (h : okSg d) (h0 : sgK d = 0) (e r p : Int) : Ev (fun k => F45 k [.str (d.c 0).s, .row (d.c 1).r, .int e, .int r, .int p]) [.int (bif rng e r p then 0 else 1)] := by
  unfold F45
  simp only [gt_zero, gt_succ, int_i, str_s, row_r]
  refine Ev.bind (sg39 d h) ?_
  simp only [gt_zero, int_i, in79, Option.bind_some, bool_b]
  rw [h0]
  refine Ev.neg rfl (Ev.of fun k => ?_)
  unfold rng
  cases decide (1 ≤ e ∧ e ≤ 50) <;> cases decide (1 ≤ r ∧ r ≤ 20) <;> cases decide (1 ≤ p ∧ p ≤ 20) <;> rfl
/-! ### Where -/
def hit (sg e r p : Int) (d : D) : Bool := ((d.c 0).i == sg) && (((d.c 1).i == e) && (((d.c 2).i == r) && ((d.c 3).i == p)))
/-- The first one that is hit. -/
inductive Hit (f : D → Bool) (l : List D) : Prop where
  | no (h : ∀ x ∈ l, f x = false) : Hit f l
  | yes (q : List D) (y : D) (w : List D) (hl : l = q ++ y :: w) (hq : ∀ x ∈ q, f x = false) (hy : f y = true) : Hit f l
theorem hit_of (f : D → Bool) : ∀ l, Hit f l
  | [] => .no (by simp)
  | x :: l => by
    cases hx : f x
    · rcases hit_of f l with h | ⟨q, y, w, rfl, hq, hy⟩
      · exact .no fun z hz => (List.mem_cons.1 hz).elim (fun e => e ▸ hx) (h z)
      · exact .yes (x :: q) y w rfl (fun z hz => (List.mem_cons.1 hz).elim (fun e => e ▸ hx) (hq z)) hy
    · exact .yes [] x l rfl (by simp) hx
theorem where21 (W : D) (l : List D) (sg e r p : Int) (hW : (W.c 0).b = false) (hl : ((W.c 1).c 6).r = l) (hn : l.length ≤ 140737488355328) (res : List D)
    (h : (∀ x ∈ l, hit sg e r p x = false) ∧ res = [.int 0, .int 0, .int 9] ∨ ∃ q y w, l = q ++ y :: w ∧ (∀ x ∈ q, hit sg e r p x = false) ∧ hit sg e r p y = true ∧ res = [.int (y.c 5).i, .int (y.c 6).i, .int 0]) :
    Ev (fun k => iter B21x0 k [.int sg, W, .int 0, .int e, .int r, .int p, .int 0, .int 0]) res := by
  have main : ∀ (post pre : List D), l = pre ++ post → ((∀ x ∈ post, hit sg e r p x = false) ∧ res = [.int 0, .int 0, .int 9] ∨ ∃ q y w, post = q ++ y :: w ∧ (∀ x ∈ q, hit sg e r p x = false) ∧ hit sg e r p y = true ∧ res = [.int (y.c 5).i, .int (y.c 6).i, .int 0]) →
      Ev (fun k => iter B21x0 k [.int sg, W, .int (pre.length : Int), .int e, .int r, .int p, .int 0, .int 0]) res := by
    intro post
    induction post with
    | nil =>
      intro pre hp hh
      rw [List.append_nil] at hp
      subst hp
      refine Ev.iter (Ev.of fun k => ?_)
      unfold B21x0
      simp only [gt_zero, gt_succ, int_i, hW, hl, no_more, Bool.not_false, cond_true, cond_false]
      rcases hh with ⟨_, h2⟩ | ⟨q, y, w, h2, _⟩
      · rw [h2]
      · simp at h2
    | cons x post ih =>
      intro pre hp hh
      have a := at_of hp hn
      refine Ev.iter ?_
      have key : ∀ (go : Nat → List D → Option (List D)), Ev (fun n_ => bif hit sg e r p x then some [D.int (x.c 5).i, D.int (x.c 6).i, D.int 0] else go n_ [.int sg, W, .int ((pre ++ [x]).length : Int), .int e, .int r, .int p, .int 0, .int 0]) res → Ev (fun n_ => B21x0 n_ (go n_) [.int sg, W, .int (pre.length : Int), .int e, .int r, .int p, .int 0, .int 0]) res := fun go hgo => by
        refine Ev.congr (fun n_ => ?_) hgo
        unfold B21x0 hit
        simp only [gt_zero, gt_succ, int_i, hW, hl, a.lt, a.inr, a.el, a.up, Bool.not_false, Bool.and_true, cond_true]
        cases ((x.c 0).i == sg) <;> cases ((x.c 1).i == e) <;> cases ((x.c 2).i == r) <;> cases ((x.c 3).i == p) <;> rfl
      refine key (fun n_ => iter B21x0 n_) ?_
      cases hx : hit sg e r p x
      · refine ih (pre ++ [x]) (by simp [hp]) ?_
        rcases hh with ⟨h1, h2⟩ | ⟨q, y, w, h2, h3, h4, h5⟩
        · exact .inl ⟨fun z hz => h1 z (by simp [hz]), h2⟩
        · cases q with
          | nil => simp only [List.nil_append, List.cons.injEq] at h2; rw [← h2.1, hx] at h4; cases h4
          | cons q0 q => simp only [List.cons_append, List.cons.injEq] at h2; exact .inr ⟨q, y, w, h2.2, fun z hz => h3 z (by simp [hz]), h4, h5⟩
      · rcases hh with ⟨h1, h2⟩ | ⟨q, y, w, h2, h3, h4, h5⟩
        · rw [h1 x (by simp)] at hx; cases hx
        · cases q with
          | nil => simp only [List.nil_append, List.cons.injEq] at h2; rw [h5, ← h2.1]; exact Ev.now _
          | cons q0 q => simp only [List.cons_append, List.cons.injEq] at h2; rw [h2.1, h3 q0 (by simp)] at hx; cases hx
  exact main l [] rfl h
theorem where22 (W : D) (l : List D) (sg e r p : Int) (hn : l.length ≤ 140737488355328) (n : Int)
    (h : (∀ x ∈ l, hit sg e r p x = false) ∧ n = -1 ∨ ∃ q y w, l = q ++ y :: w ∧ (∀ x ∈ q, hit sg e r p x = false) ∧ hit sg e r p y = true ∧ n = (q.length : Int)) :
    Ev (fun k => iter B22x0 k [.row l, .int (l.length : Int), .int 0, W, .int sg, .int e, .int r, .int p, .int 0, .int 0]) [W, .int n, .int 0, .int 0] := by
  have main : ∀ (post pre : List D), l = pre ++ post → ((∀ x ∈ post, hit sg e r p x = false) ∧ n = -1 ∨ ∃ q y w, post = q ++ y :: w ∧ (∀ x ∈ q, hit sg e r p x = false) ∧ hit sg e r p y = true ∧ n = ((pre ++ q).length : Int)) →
      Ev (fun k => iter B22x0 k [.row l, .int (l.length : Int), .int (pre.length : Int), W, .int sg, .int e, .int r, .int p, .int 0, .int 0]) [W, .int n, .int 0, .int 0] := by
    intro post
    induction post with
    | nil =>
      intro pre hp hh
      rw [List.append_nil] at hp
      subst hp
      refine Ev.iter (Ev.of fun k => ?_)
      unfold B22x0
      simp only [gt_zero, gt_succ, int_i, row_r, no_more, cond_false]
      rcases hh with ⟨_, h2⟩ | ⟨q, y, w, h2, _⟩
      · rw [h2]
      · simp at h2
    | cons x post ih =>
      intro pre hp hh
      have a := at_of hp hn
      refine Ev.iter ?_
      have key : ∀ (go : Nat → List D → Option (List D)), Ev (fun n_ => bif hit sg e r p x then some [W, D.int (pre.length : Int), D.int 0, D.int 0] else go n_ [.row l, .int (l.length : Int), .int ((pre ++ [x]).length : Int), W, .int sg, .int e, .int r, .int p, .int 0, .int 0]) [W, .int n, .int 0, .int 0] → Ev (fun n_ => B22x0 n_ (go n_) [.row l, .int (l.length : Int), .int (pre.length : Int), W, .int sg, .int e, .int r, .int p, .int 0, .int 0]) [W, .int n, .int 0, .int 0] := fun go hgo => by
        refine Ev.congr (fun n_ => ?_) hgo
        unfold B22x0 hit
        simp only [gt_zero, gt_succ, int_i, row_r, a.lt, a.inr, a.el, a.up, Bool.and_true, cond_true]
        cases ((x.c 0).i == sg) <;> cases ((x.c 1).i == e) <;> cases ((x.c 2).i == r) <;> cases ((x.c 3).i == p) <;> rfl
      refine key (fun n_ => iter B22x0 n_) ?_
      cases hx : hit sg e r p x
      · refine ih (pre ++ [x]) (by simp [hp]) ?_
        rcases hh with ⟨h1, h2⟩ | ⟨q, y, w, h2, h3, h4, h5⟩
        · exact .inl ⟨fun z hz => h1 z (by simp [hz]), h2⟩
        · cases q with
          | nil => simp only [List.nil_append, List.cons.injEq] at h2; rw [← h2.1, hx] at h4; cases h4
          | cons q0 q =>
            simp only [List.cons_append, List.cons.injEq] at h2
            refine .inr ⟨q, y, w, h2.2, fun z hz => h3 z (by simp [hz]), h4, ?_⟩
            rw [h5]; simp
      · rcases hh with ⟨h1, h2⟩ | ⟨q, y, w, h2, h3, h4, h5⟩
        · rw [h1 x (by simp)] at hx; cases hx
        · cases q with
          | nil => rw [h5, List.append_nil]; exact Ev.now _
          | cons q0 q => simp only [List.cons_append, List.cons.injEq] at h2; rw [h2.1, h3 q0 (by simp)] at hx; cases hx
  exact main l [] rfl (by simpa using h)
/-- What the reference hits, the program hits. -/
theorem hit_pl (sg e r p : Int) (he : e ≠ 0) : ∀ (l : List D), ((∀ x ∈ l, hit sg e r p x = false) ∧ (∀ x ∈ plOf l, hit sg e r p x = false)) ∨
    ∃ q y w q' y' w', l = q ++ y :: w ∧ (∀ x ∈ q, hit sg e r p x = false) ∧ hit sg e r p y = true ∧ plOf l = q' ++ y' :: w' ∧ (∀ x ∈ q', hit sg e r p x = false) ∧ hit sg e r p y' = true ∧ (y'.c 4).i = (y.c 5).i ∧ (y'.c 5).i = (y.c 6).i ∧ (y.c 1).i ≠ 0
  | [] => .inl ⟨by simp, by simp [plOf]⟩
  | x :: l => by
    by_cases h0 : (x.c 1).i = 0
    · have hx : hit sg e r p x = false := by
        unfold hit
        rw [h0, show ((0 : Int) == e) = false from beqI_false (fun h => he h.symm)]
        simp
      rw [plOf_cons, beqI_true h0]
      rcases hit_pl sg e r p he l with ⟨h1, h2⟩ | ⟨q, y, w, q', y', w', h1, h2, h3, h4, h5⟩
      · exact .inl ⟨fun z hz => (List.mem_cons.1 hz).elim (fun e => e ▸ hx) (h1 z), h2⟩
      · exact .inr ⟨x :: q, y, w, q', y', w', by rw [h1]; rfl, fun z hz => (List.mem_cons.1 hz).elim (fun e => e ▸ hx) (h2 z), h3, h4, h5⟩
    · rw [plOf_cons, beqI_false h0]
      simp only [cond_false]
      have hxx : hit sg e r p (.agg [.int (x.c 0).i, .int (x.c 1).i, .int (x.c 2).i, .int (x.c 3).i, .int (x.c 5).i, .int (x.c 6).i]) = hit sg e r p x := rfl
      cases hx : hit sg e r p x
      · rcases hit_pl sg e r p he l with ⟨h1, h2⟩ | ⟨q, y, w, q', y', w', h1, h2, h3, h4, h5, h6⟩
        · exact .inl ⟨fun z hz => (List.mem_cons.1 hz).elim (fun e => e ▸ hx) (h1 z), fun z hz => (List.mem_cons.1 hz).elim (fun e => e ▸ (hxx.trans hx)) (h2 z)⟩
        · exact .inr ⟨x :: q, y, w, _ :: q', y', w', by rw [h1]; rfl, fun z hz => (List.mem_cons.1 hz).elim (fun e => e ▸ hx) (h2 z), h3, by rw [h4]; rfl, fun z hz => (List.mem_cons.1 hz).elim (fun e => e ▸ (hxx.trans hx)) (h5 z), h6⟩
      · exact .inr ⟨[], x, l, [], _, plOf l, rfl, by simp, hx, rfl, by simp, hxx.trans hx, rfl, rfl, h0⟩
end Go.Sx
