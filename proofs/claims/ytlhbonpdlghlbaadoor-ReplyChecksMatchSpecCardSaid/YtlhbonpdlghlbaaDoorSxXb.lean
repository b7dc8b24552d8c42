/- Replies: their segments, both ways (row 27). -/
import Derived.Test.YtlhbonpdlghlbaaDoorSxXa
set_option linter.unusedVariables false
set_option linter.unusedSimpArgs false
namespace Go.Sx
/-! ### Segments that are alike -/
def small (d : D) : Prop := (d.c 1).r.length ≤ 10 ∧ ∀ x ∈ (d.c 1).r, (x.c 0).r.length ≤ 10 ∧ ∀ y ∈ (x.c 0).r, y.r.length ≤ 10
theorem same93 (l : List D) (h : l.length ≤ 10) : Ev (fun k => F93 k [.row l, .row l]) [.bool true] := by
  unfold F93
  simp only [gt_zero, gt_succ, row_r]
  refine Ev.neg (bneI_false rfl) ?_
  refine Ev.congr (fun k => ?_) (Ev.scan (B := B93x0) l (fun pre => [.row l, .row l, .int (pre.length : Int)]) (fun _ _ => [.bool true]) ?_ ?_)
  · rfl
  · refine Ev.of fun k => ?_
    unfold B93x0
    simp only [gt_zero, gt_succ, int_i, row_r, no_more, cond_false]
  · intro pre x post go hp ih
    have a := at_of hp (by omega)
    unfold B93x0
    simp only [gt_zero, gt_succ, int_i, row_r, a.lt, a.inr, a.el, a.up, Bool.and_true, cond_true, toList_beq rfl, Bool.not_true, cond_false]
    exact ih
theorem same64 (d : D) (h : small d) : Ev (fun k => F64 k [.str (d.c 0).s, .row (d.c 1).r, .str (d.c 0).s, .row (d.c 1).r]) [.bool true] := by
  obtain ⟨h1, h2⟩ := h
  unfold F64
  simp only [gt_zero, gt_succ, row_r, str_s, toList_beq rfl, Bool.not_true, cond_false, Option.bind_some, bool_b]
  refine Ev.neg (bneI_false rfl) ?_
  refine EvG.nat (EvG.loopN (f := fun _ n => iter B64x1 n _) ?_)
  refine EvG.congr (fun k => ?_) (EvG.scan (ι := Nat) (B := fun _ => B64x1) (d.c 1).r (fun pre => [.int (pre.length : Int), .str (d.c 0).s, .row (d.c 1).r, .str (d.c 0).s, .row (d.c 1).r]) (fun _ _ => [.bool true]) ?_ ?_)
  · rfl
  · refine EvG.of fun k => ?_
    unfold B64x1
    simp only [gt_zero, gt_succ, int_i, row_r, no_more, cond_false]
  · intro pre x post go hp ih
    have a := at_of hp (by omega)
    obtain ⟨h3, h4⟩ := h2 x (by simp [hp])
    unfold B64x1
    simp only [gt_zero, gt_succ, int_i, row_r, str_s, a.lt, a.inr, a.el, Bool.and_true, cond_true]
    refine EvG.neg (bneI_false rfl) (EvG.loop (f := fun p n => iter (B64x0 (go p)) n _) ?_)
    refine EvG.congr (fun k => ?_) (EvG.scan (ι := Nat × Nat) (B := fun p => B64x0 (go p)) (x.c 0).r (fun q => [.int (pre.length : Int), .row (x.c 0).r, .row (x.c 0).r, .int (q.length : Int), .str (d.c 0).s, .row (d.c 1).r, .str (d.c 0).s, .row (d.c 1).r]) (fun _ _ => [.bool true]) ?_ ?_)
    · rfl
    · unfold B64x0
      simp only [gt_zero, gt_succ, int_i, row_r, str_s, no_more, cond_false, a.up]
      exact ih.fst
    · intro q y r go2 hq ih2
      have b := at_of hq (by omega)
      unfold B64x0
      simp only [gt_zero, gt_succ, int_i, row_r, str_s, b.lt, b.inr, b.el, b.up, Bool.and_true, cond_true]
      refine EvG.bind (Ev.snd (same93 y.r (h4 y (by simp [hq])))) ?_
      simp only [gt_zero, bool_b, Bool.not_true, cond_false]
      exact ih2
theorem same30 (l : List D) (h : l.length ≤ 1000000) (hs : ∀ d ∈ l, small d) : Ev (fun k => F30 k [.row l, .row l]) [.bool true] := by
  unfold F30
  simp only [gt_zero, gt_succ, row_r]
  refine Ev.neg (bneI_false rfl) ?_
  refine Ev.congr (fun k => ?_) (Ev.scan (B := B30x0) l (fun pre => [.row l, .row l, .int (pre.length : Int)]) (fun _ _ => [.bool true]) ?_ ?_)
  · rfl
  · refine Ev.of fun k => ?_
    unfold B30x0
    simp only [gt_zero, gt_succ, int_i, row_r, no_more, cond_false]
  · intro pre x post go hp ih
    have a := at_of hp (by omega)
    unfold B30x0
    simp only [gt_zero, gt_succ, int_i, row_r, a.lt, a.inr, a.el, a.up, Bool.and_true, cond_true]
    refine Ev.bind (same64 x (hs x (by simp [hp]))) ?_
    simp only [gt_zero, bool_b, Bool.not_true, cond_false]
    exact ih
/-! ### What is written -/
def ia (n : Int) : ByteArray := ⟨(Lib.itoa n).toArray⟩
def okI (n : Int) : Prop := -9223372036854775808 ≤ n ∧ n ≤ 9223372036854775807
theorem ia53 (k : Nat) (n : Int) (h : okI n) : F53 k [.int n] = some [.str (ia n)] := by
  simp only [F53, itoaK, gt_zero, int_i]
  rw [decide_eq_true h.1, decide_eq_true h.2]
  rfl
def elP (l : List D) : D := .agg [.row [.row l]]
def el (s : ByteArray) : D := elP [.str s]
def sgD (t : ByteArray) (l : List D) : D := .agg [.str t, .row l]
theorem seg52 (t : ByteArray) (l : List D) (h : l.length ≤ 1000) : Ev (fun k => F52 k [.str t, .row l]) [.str t, .row (l.map fun d => elP d.r)] := by
  unfold F52
  simp only [gt_zero, gt_succ, row_r, str_s]
  refine Ev.congr (fun k => ?_) (Ev.scan (B := B52x0) l (fun pre => [.row l, .int (pre.length : Int), .str (ByteArray.mk #[]), .str t, .row (pre.map fun d => elP d.r)]) (fun _ _ => [.str t, .row (l.map fun d => elP d.r)]) ?_ ?_)
  · rfl
  · refine Ev.of fun k => ?_
    unfold B52x0
    simp only [gt_zero, gt_succ, int_i, row_r, str_s, no_more, cond_false]
  · intro pre x post go hp ih
    have a := at_of hp (by omega)
    have hpl : pre.length ≤ 1000 := by have := congrArg List.length hp; simp at this; omega
    unfold B52x0
    simp only [gt_zero, gt_succ, int_i, row_r, str_s, a.lt, a.inr, a.el, a.up, Bool.and_true, cond_true]
    refine Ev.pos (needOk_yes (by simp only [List.length_map, List.length_cons, List.length_nil]; omega)) ?_
    rw [List.map_append] at ih
    exact ih
theorem made81 (t : ByteArray) (l : List D) (h : l.length ≤ 1000) : Ev (fun k => F81 k [.str t, .row l]) [.str t, .row (l.map fun d => el d.s)] := by
  unfold F81
  simp only [gt_zero, gt_succ, row_r, str_s]
  refine Ev.congr (fun k => ?_) (Ev.scan (B := B81x0) l (fun pre => [.row l, .int (l.length : Int), .int (pre.length : Int), .str (ByteArray.mk #[]), .str t, .row (pre.map fun d => el d.s)]) (fun _ _ => [.str t, .row (l.map fun d => el d.s)]) ?_ ?_)
  · rfl
  · refine Ev.of fun k => ?_
    unfold B81x0
    simp only [gt_zero, gt_succ, int_i, row_r, str_s, no_more, cond_false]
  · intro pre x post go hp ih
    have a := at_of hp (by omega)
    have hpl : pre.length ≤ 1000 := by have := congrArg List.length hp; simp at this; omega
    unfold B81x0
    simp only [gt_zero, gt_succ, int_i, row_r, str_s, a.lt, a.inr, a.el, a.up, Bool.and_true, cond_true]
    refine Ev.pos (needOk_yes (by simp only [List.length_map, List.length_cons, List.length_nil]; omega)) ?_
    rw [List.map_append] at ih
    exact ih
def akI : ByteArray := ByteArray.mk #[65, 75, 73]
def akG : ByteArray := ByteArray.mk #[65, 75, 71]
def akM : ByteArray := ByteArray.mk #[65, 75, 77]
def akF : ByteArray := ByteArray.mk #[65, 75, 70]
def akR : ByteArray := ByteArray.mk #[65, 75, 82]
def okI5 (x : D) : Prop := okI (x.c 0).i ∧ okI (x.c 1).i ∧ okI (x.c 2).i ∧ okI (x.c 3).i ∧ okI (x.c 4).i
def spt (x : D) : Bool := !(((x.c 2).i == 0) && (((x.c 3).i == 0) && (((x.c 4).i == 0) && true)))
def nam (x : D) : Bool := !((ByteArray.toList (x.c 5).s) == (ByteArray.toList (ByteArray.mk #[])))
def flE (x : D) : List D :=
  [el (ia (x.c 0).i), el (ia (x.c 1).i)] ++ (bif spt x then [elP [.str (ia (x.c 2).i), .str (ia (x.c 3).i), .str (ia (x.c 4).i)]] else bif nam x then [el (ByteArray.mk #[])] else []) ++ (bif nam x then [el (x.c 5).s] else [])
theorem flaw54 (x : D) (h : okI5 x) : Ev (fun k => F54 k [.int (x.c 0).i, .int (x.c 1).i, .int (x.c 2).i, .int (x.c 3).i, .int (x.c 4).i, .str (x.c 5).s]) [.str akF, .row (flE x)] := by
  obtain ⟨h0, h1, h2, h3, h4⟩ := h
  unfold F54
  simp only [gt_zero, gt_succ, int_i, str_s, ia53 _ _ h0, ia53 _ _ h1, ia53 _ _ h2, ia53 _ _ h3, ia53 _ _ h4, Option.bind_some]
  rw [show (!(((x.c 2).i == 0) && (((x.c 3).i == 0) && (((x.c 4).i == 0) && true)))) = spt x from rfl, show (!((ByteArray.toList (x.c 5).s) == (ByteArray.toList (ByteArray.mk #[])))) = nam x from rfl]
  unfold flE
  cases spt x <;> cases hn : nam x
  · simp only [cond_true, cond_false, Option.bind_some, gt_zero, gt_succ, int_i, str_s, row_r]
    rw [show (!((ByteArray.toList (x.c 5).s) == (ByteArray.toList (ByteArray.mk #[])))) = nam x from rfl, hn]
    simp only [cond_true, cond_false, Option.bind_some, gt_zero, gt_succ, int_i, str_s, row_r]
    exact Ev.bind (seg52 akF _ (by simp)) (by simp only [gt_zero, gt_succ, str_s, row_r]; exact Ev.now _)
  · simp only [cond_true, cond_false, Option.bind_some, gt_zero, gt_succ, int_i, str_s, row_r]
    rw [show (!((ByteArray.toList (x.c 5).s) == (ByteArray.toList (ByteArray.mk #[])))) = nam x from rfl, hn]
    rw [needOk_yes (by simp)]
    simp only [cond_true, cond_false, Option.bind_some, gt_zero, gt_succ, int_i, str_s, row_r]
    exact Ev.bind (seg52 akF _ (by simp)) (by simp only [gt_zero, gt_succ, str_s, row_r]; exact Ev.now _)
  · simp only [cond_true, cond_false, Option.bind_some, gt_zero, gt_succ, int_i, str_s, row_r]
    rw [show (!((ByteArray.toList (x.c 5).s) == (ByteArray.toList (ByteArray.mk #[])))) = nam x from rfl, hn]
    simp only [cond_true, cond_false, Option.bind_some, gt_zero, gt_succ, int_i, str_s, row_r]
    exact Ev.bind (seg52 akF _ (by simp)) (by simp only [gt_zero, gt_succ, str_s, row_r]; exact Ev.now _)
  · simp only [cond_true, cond_false, Option.bind_some, gt_zero, gt_succ, int_i, str_s, row_r]
    rw [show (!((ByteArray.toList (x.c 5).s) == (ByteArray.toList (ByteArray.mk #[])))) = nam x from rfl, hn]
    rw [needOk_yes (by simp)]
    simp only [cond_true, cond_false, Option.bind_some, gt_zero, gt_succ, int_i, str_s, row_r]
    exact Ev.bind (seg52 akF _ (by simp)) (by simp only [gt_zero, gt_succ, str_s, row_r]; exact Ev.now _)
theorem flaw82 (x : D) (h : okI5 x) : Ev (fun k => F82 k [.int (x.c 0).i, .int (x.c 1).i, .int (x.c 2).i, .int (x.c 3).i, .int (x.c 4).i, .str (x.c 5).s]) [.str akF, .row (flE x)] := by
  obtain ⟨h0, h1, h2, h3, h4⟩ := h
  unfold F82
  simp only [gt_zero, gt_succ, int_i, str_s, ia53 _ _ h0, ia53 _ _ h1, ia53 _ _ h2, ia53 _ _ h3, ia53 _ _ h4, Option.bind_some, F108, row_r]
  refine Ev.bind (made81 akF [.str (ia (x.c 0).i), .str (ia (x.c 1).i)] (by simp)) ?_
  simp only [gt_zero, gt_succ, str_s, row_r, List.map_cons, List.map_nil]
  rw [show (!(((x.c 2).i == 0) && (((x.c 3).i == 0) && (((x.c 4).i == 0) && true)))) = spt x from rfl, show (!((ByteArray.toList (x.c 5).s) == (ByteArray.toList (ByteArray.mk #[])))) = nam x from rfl]
  unfold flE
  cases spt x <;> cases hn : nam x
  · simp only [cond_true, cond_false, Option.bind_some, gt_zero, gt_succ, int_i, str_s, row_r]
    rw [show (!((ByteArray.toList (x.c 5).s) == (ByteArray.toList (ByteArray.mk #[])))) = nam x from rfl, hn]
    simp only [cond_true, cond_false, Option.bind_some, gt_zero, gt_succ, int_i, str_s, row_r]
    exact Ev.now _
  · simp only [cond_true, cond_false]
    rw [needOk_yes (by simp)]
    simp only [cond_true, cond_false, Option.bind_some, gt_zero, gt_succ, int_i, str_s, row_r]
    rw [show (!((ByteArray.toList (x.c 5).s) == (ByteArray.toList (ByteArray.mk #[])))) = nam x from rfl, hn]
    rw [needOk_yes (by simp)]
    simp only [cond_true, cond_false, Option.bind_some, gt_zero, gt_succ, int_i, str_s, row_r]
    exact Ev.now _
  · simp only [cond_true, cond_false]
    rw [needOk_yes (by simp)]
    simp only [cond_true, cond_false, Option.bind_some, gt_zero, gt_succ, int_i, str_s, row_r]
    rw [show (!((ByteArray.toList (x.c 5).s) == (ByteArray.toList (ByteArray.mk #[])))) = nam x from rfl, hn]
    simp only [cond_true, cond_false, Option.bind_some, gt_zero, gt_succ, int_i, str_s, row_r]
    exact Ev.now _
  · simp only [cond_true, cond_false]
    rw [needOk_yes (by simp)]
    simp only [cond_true, cond_false, Option.bind_some, gt_zero, gt_succ, int_i, str_s, row_r]
    rw [show (!((ByteArray.toList (x.c 5).s) == (ByteArray.toList (ByteArray.mk #[])))) = nam x from rfl, hn]
    rw [needOk_yes (by simp)]
    simp only [cond_true, cond_false, Option.bind_some, gt_zero, gt_succ, int_i, str_s, row_r]
    exact Ev.now _
end Go.Sx
