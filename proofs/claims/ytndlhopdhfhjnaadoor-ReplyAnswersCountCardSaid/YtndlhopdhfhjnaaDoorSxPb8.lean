/- Replies: verdicts together, flaws, messages, groups. -/
import Derived.Test.YtndlhopdhfhjnaaDoorSxPb7
set_option linter.unusedVariables false
set_option linter.unusedSimpArgs false
namespace Go.Sx
theorem bor_step (a b : Bool) : (bif a then some [D.bool true] else some [D.bool b]) = some [D.bool (a || b)] := by cases a <;> rfl
theorem band_step (a b : Bool) : (bif a then some [D.bool b] else some [D.bool false]) = some [D.bool (a && b)] := by cases a <;> rfl
theorem bne_comm (a b : Int) : (a != b) = (b != a) := by
  by_cases h : a = b
  · rw [bneI_false h, bneI_false h.symm]
  · rw [bneI_true h, bneI_true (fun hh => h hh.symm)]
def tog (l : List D) : Int := bif l.all (fun d => d.i == 1) then 1 else bif l.all (fun d => d.i == 3) then 3 else 2
theorem together56 (l : List D) (hl : l.length ≤ 140737488355328) : Ev (fun k => F56 k [.row l]) [.int (tog l)] := by
  have h0 := Ev.scan (B := B56x0) l (fun pre => [.row l, .int (l.length : Int), .int (pre.length : Int), .row l, .int 1]) (fun pre post => [.row l, .bool (post.all (fun d => d.i == 1))])
    (Ev.of fun k => by unfold B56x0; simp only [gt_zero, gt_succ, int_i, row_r, no_more, cond_false, List.all_nil])
    (fun pre x post go hp ih => by
      have a := at_of hp hl
      unfold B56x0
      simp only [gt_zero, gt_succ, int_i, row_r, a.el, a.inr, a.lt, a.up, Bool.and_true, cond_true, List.all_cons]
      rw [show (decide ((pre.length : Int) ≥ 0)) = true from decide_eq_true (by omega)]
      by_cases h : x.i = 1
      · rw [beqI_true h]; exact Ev.neg (bneI_false h) ih
      · rw [beqI_false h]; exact Ev.pos (bneI_true h) (Ev.now _))
  have h1 := Ev.scan (B := B56x1) l (fun pre => [.row l, .int (l.length : Int), .int (pre.length : Int), .int 3]) (fun pre post => [.bool (post.all (fun d => d.i == 3))])
    (Ev.of fun k => by unfold B56x1; simp only [gt_zero, gt_succ, int_i, row_r, no_more, cond_false, List.all_nil])
    (fun pre x post go hp ih => by
      have a := at_of hp hl
      unfold B56x1
      simp only [gt_zero, gt_succ, int_i, row_r, a.el, a.inr, a.lt, a.up, Bool.and_true, cond_true, List.all_cons]
      rw [show (decide ((pre.length : Int) ≥ 0)) = true from decide_eq_true (by omega)]
      by_cases h : x.i = 3
      · rw [beqI_true h]; exact Ev.neg (bneI_false h) ih
      · rw [beqI_false h]; exact Ev.pos (bneI_true h) (Ev.now _))
  unfold F56 tog
  simp only [gt_zero, row_r]
  refine Ev.bind h0 ?_
  simp only [gt_zero, gt_succ, row_r, bool_b]
  cases l.all (fun d => d.i == 1)
  · refine Ev.neg rfl (Ev.bind h1 ?_)
    simp only [gt_zero, bool_b]
    cases l.all (fun d => d.i == 3)
    · exact Ev.now _
    · exact Ev.now _
  · exact Ev.pos rfl (Ev.now _)
theorem together59 (l : List D) (hl : l.length ≤ 140737488355328) : Ev (fun k => F59 k [.row l]) [.int (tog l)] := by
  have h0 := Ev.scan (B := B59x0) l (fun pre => [.row l, .bool (pre.all (fun d => d.i == 1)), .bool (pre.all (fun d => d.i == 3)), .int (pre.length : Int)]) (fun pre post => [.int (tog l)])
    (Ev.of fun k => by
      unfold B59x0 tog
      simp only [gt_zero, gt_succ, int_i, row_r, bool_b, no_more, cond_false]
      cases l.all (fun d => d.i == 1) <;> cases l.all (fun d => d.i == 3) <;> rfl)
    (fun pre x post go hp ih => by
      have a := at_of hp hl
      have ih : Ev (fun n => go n [.row l, .bool (pre.all (fun d => d.i == 1) && (x.i == 1)), .bool (pre.all (fun d => d.i == 3) && (x.i == 3)), .int ((pre ++ [x]).length : Int)]) [.int (tog l)] := by
        simpa [List.all_append] using ih
      unfold B59x0
      simp only [gt_zero, gt_succ, int_i, row_r, bool_b, a.el, a.inr, a.lt, a.up, Bool.and_true, cond_true]
      revert ih
      cases pre.all (fun d => d.i == 1) <;> cases pre.all (fun d => d.i == 3) <;> exact fun ih => ih)
  exact Ev.congr (fun k => by simp [F59, gt_zero, row_r]) h0
/-- The verdicts of a list. -/
def vs (l : List D) : List D := l.map fun x => .int (x.c 1).i
theorem vs_snoc (l : List D) (x : D) : vs (l ++ [x]) = vs l ++ [.int (x.c 1).i] := by simp [vs]
theorem vs_len (l : List D) : (vs l).length = l.length := by simp [vs]
theorem need_vs {l pre post : List D} {x d : D} (hp : l = pre ++ x :: post) (hl : l.length * 8 ≤ 140737488351232) : needOk ((vs pre).length + [d].length) 8 = true := needOk_yes (by
  subst hp
  rw [vs_len]
  simp only [List.length_append, List.length_cons, List.length_nil] at hl ⊢
  omega)
theorem of46 (s : ByteArray) (v : Int) (l : List D) (hl : l.length * 8 ≤ 140737488351232) : Ev (fun k => F46 k [.str s, .int v, .row l]) [.int (tog (vs l))] := by
  have h0 := Ev.scan (B := B46x0) l (fun pre => [.row l, .int (l.length : Int), .int (pre.length : Int), .row (vs pre)]) (fun pre post => [.int (tog (vs l))])
    (by
      unfold B46x0
      simp only [gt_zero, gt_succ, int_i, row_r, no_more, cond_false]
      exact Ev.bind (together56 (vs l) (by rw [vs_len]; omega)) ((Ev.now _).cast (by simp [gt_zero, int_i])))
    (fun pre x post go hp ih => by
      have a := at_of hp (by omega)
      unfold B46x0
      simp only [gt_zero, gt_succ, int_i, row_r, a.el, a.inr, a.lt, a.up, Bool.and_true, cond_true, need_vs hp hl]
      rw [← vs_snoc]; exact ih)
  exact Ev.congr (fun k => by simp [F46, gt_zero, gt_succ, row_r, vs]) h0
theorem of55 (s : ByteArray) (v : Int) (l : List D) (hl : l.length * 8 ≤ 140737488351232) : Ev (fun k => F55 k [.str s, .int v, .row l]) [.int (tog (vs l))] := by
  have h0 := Ev.scan (B := B55x0) l (fun pre => [.row l, .int (l.length : Int), .int (pre.length : Int), .row (vs pre)]) (fun pre post => [.int (tog (vs l))])
    (by
      unfold B55x0
      simp only [gt_zero, gt_succ, int_i, row_r, no_more, cond_false]
      exact Ev.bind (together56 (vs l) (by rw [vs_len]; omega)) ((Ev.now _).cast (by simp [gt_zero, int_i])))
    (fun pre x post go hp ih => by
      have a := at_of hp (by omega)
      unfold B55x0
      simp only [gt_zero, gt_succ, int_i, row_r, a.el, a.inr, a.lt, a.up, Bool.and_true, cond_true, need_vs hp hl]
      rw [← vs_snoc]; exact ih)
  exact Ev.congr (fun k => by simp [F55, gt_zero, gt_succ, row_r, vs]) h0
theorem of48 (s : ByteArray) (v : Int) (l : List D) (hl : l.length * 8 ≤ 140737488351232) : Ev (fun k => F48 k [.str s, .int v, .row l]) [.int (tog (vs l))] := by
  have h0 := Ev.scan (B := B48x0) l (fun pre => [.int (pre.length : Int), .str s, .int v, .row l, .row (vs pre)]) (fun pre post => [.int (tog (vs l))])
    (by
      unfold B48x0
      simp only [gt_zero, gt_succ, int_i, row_r, str_s, no_more, cond_false]
      exact Ev.bind (together59 (vs l) (by rw [vs_len]; omega)) ((Ev.now _).cast (by simp [gt_zero, int_i])))
    (fun pre x post go hp ih => by
      have a := at_of hp (by omega)
      unfold B48x0
      simp only [gt_zero, gt_succ, int_i, row_r, str_s, a.el, a.inr, a.lt, a.up, Bool.and_true, cond_true, need_vs hp hl]
      rw [← vs_snoc]; exact ih)
  exact Ev.congr (fun k => by simp [F48, gt_zero, gt_succ, row_r, int_i, str_s, vs]) h0
theorem of58 (s : ByteArray) (v : Int) (l : List D) (hl : l.length * 8 ≤ 140737488351232) : Ev (fun k => F58 k [.str s, .int v, .row l]) [.int (tog (vs l))] := by
  have h0 := Ev.scan (B := B58x0) l (fun pre => [.int (pre.length : Int), .str s, .int v, .row l, .row (vs pre)]) (fun pre post => [.int (tog (vs l))])
    (by
      unfold B58x0
      simp only [gt_zero, gt_succ, int_i, row_r, str_s, no_more, cond_false]
      exact Ev.bind (together59 (vs l) (by rw [vs_len]; omega)) ((Ev.now _).cast (by simp [gt_zero, int_i])))
    (fun pre x post go hp ih => by
      have a := at_of hp (by omega)
      unfold B58x0
      simp only [gt_zero, gt_succ, int_i, row_r, str_s, a.el, a.inr, a.lt, a.up, Bool.and_true, cond_true, need_vs hp hl]
      rw [← vs_snoc]; exact ih)
  exact Ev.congr (fun k => by simp [F58, gt_zero, gt_succ, row_r, int_i, str_s, vs]) h0
/-! ### Flaws -/
def okS (d : D) : Prop := d.s.size ≤ 140737488351232
def okRow (P : D → Prop) (d : D) : Prop := d.r.length * 8 ≤ 140737488351232 ∧ ∀ x ∈ d.r, P x
def okFl (x : D) : Prop := okS (x.c 5)
def okM (m : D) : Prop := okS (m.c 0) ∧ okRow okFl (m.c 3) ∧ okRow okS (m.c 4)
def okG (g : D) : Prop := okS (g.c 0) ∧ okRow okM (g.c 2)
def flwK (x : D) : Int :=
  bif !decide (1 ≤ (x.c 0).i ∧ (x.c 0).i ≤ 12) then 4
  else bif !decide (0 ≤ (x.c 1).i ∧ (x.c 1).i ≤ 2000) || (!decide (0 ≤ (x.c 2).i ∧ (x.c 2).i ≤ 51) || (!decide (0 ≤ (x.c 3).i ∧ (x.c 3).i ≤ 21) || !decide (0 ≤ (x.c 4).i ∧ (x.c 4).i ≤ 21))) then 1
  else bif decide (1 ≤ (x.c 5).s.size) && (!isTag (x.c 5).s && !isName (x.c 5).s) then 3 else 0
def flF : List D → List D → Int
  | _, [] => 0
  | pre, x :: post => bif flwK x != 0 then flwK x else bif prevB (fun p => decide ((x.c 1).i < (p.c 1).i)) pre then 8 else flF (pre ++ [x]) post
def flaws (l : List D) : Int := bif decide ((l.length : Int) > 500) then 2 else flF [] l
theorem flaw99 (k : Nat) (n : Int) : F99 k [.int n] = some [.bool (decide (1 ≤ n ∧ n ≤ 12))] := by
  unfold F99
  simp only [gt_zero, gt_succ, int_i, out31, Option.bind_some, bool_b]
  congr 3
  by_cases h : 1 ≤ n ∧ n ≤ 12 <;> simp [h]
theorem flaws81 (l : List D) (hl : l.length * 8 ≤ 140737488351232) (hx : ∀ x ∈ l, okFl x) : Ev (fun k => F81 k [.row l]) [.int (flaws l)] := by
  have h0 := Ev.scan (B := B81x0) l (fun pre => [.row l, .row l, .int (l.length : Int), .int (pre.length : Int)]) (fun pre post => [.int (flF pre post)])
    (Ev.of fun k => by unfold B81x0; simp only [gt_zero, gt_succ, int_i, row_r, no_more, cond_false, flF])
    (fun pre x post go hp ih => by
      have a := at_of hp (by omega)
      have hb := prev_bind hp (by omega) (fun p => decide ((x.c 1).i < (p.c 1).i))
      have hs : okFl x := hx x (by simp [hp])
      unfold B81x0
      simp only [gt_zero, gt_succ, int_i, row_r, str_s, a.el, a.inr, a.lt, a.up, Bool.and_true, cond_true, hb, flaw99, out31, tag100 _ _ hs, name82 _ _ hs, Option.bind_some, bool_b, nonempty_beq, decide_not, bor_step, band_step, flF, flwK]
      cases !decide (1 ≤ (x.c 0).i ∧ (x.c 0).i ≤ 12)
      case true => exact Ev.now _
      cases !decide (0 ≤ (x.c 1).i ∧ (x.c 1).i ≤ 2000) || (!decide (0 ≤ (x.c 2).i ∧ (x.c 2).i ≤ 51) || (!decide (0 ≤ (x.c 3).i ∧ (x.c 3).i ≤ 21) || !decide (0 ≤ (x.c 4).i ∧ (x.c 4).i ≤ 21)))
      case true => exact Ev.now _
      cases decide (1 ≤ (x.c 5).s.size) && (!isTag (x.c 5).s && !isName (x.c 5).s)
      case true => exact Ev.now _
      cases prevB (fun p => decide ((x.c 1).i < (p.c 1).i)) pre
      case true => exact Ev.now _
      exact ih)
  unfold F81 flaws
  simp only [gt_zero, row_r]
  cases decide ((l.length : Int) > 500)
  · exact h0
  · exact Ev.now _
theorem flaws86 (l : List D) (hl : l.length * 8 ≤ 140737488351232) (hx : ∀ x ∈ l, okFl x) : Ev (fun k => F86 k [.row l]) [.int (flaws l)] := by
  have h0 := Ev.scan (B := B86x0) l (fun pre => [.row l, .int (pre.length : Int)]) (fun pre post => [.int (flF pre post)])
    (Ev.of fun k => by unfold B86x0; simp only [gt_zero, gt_succ, int_i, row_r, no_more, cond_false, flF])
    (fun pre x post go hp ih => by
      have a := at_of hp (by omega)
      have hb := prev_bind hp (by omega) (fun p => decide ((x.c 1).i < (p.c 1).i))
      have hs : okFl x := hx x (by simp [hp])
      have hn : Ev (fun n => bif decide (1 ≤ (x.c 5).s.size) then (F102 n [D.str (x.c 5).s]).bind fun ds9 => bif (!(gt ds9 0).b) then (F87 n [D.str (x.c 5).s]).bind fun ds10 => some [D.bool (!(gt ds10 0).b)] else some [D.bool false] else some [D.bool false]) [D.bool (decide (1 ≤ (x.c 5).s.size) && (!isTag (x.c 5).s && !isName (x.c 5).s))] := by
        cases decide (1 ≤ (x.c 5).s.size)
        case false => exact Ev.now _
        refine Ev.bind (tag102 _ hs) ?_
        simp only [gt_zero, bool_b]
        cases isTag (x.c 5).s
        case true => exact Ev.now _
        refine Ev.bind (name87 _ hs) ?_
        simp only [gt_zero, bool_b]
        exact Ev.now _
      unfold B86x0
      simp only [gt_zero, gt_succ, int_i, row_r, str_s, a.el, a.inr, a.lt, a.up, Bool.and_true, cond_true, hb, in38, Option.bind_some, bool_b, nonempty_beq, bor_step, flF, flwK]
      cases !decide (1 ≤ (x.c 0).i ∧ (x.c 0).i ≤ 12)
      case true => exact Ev.now _
      cases !decide (0 ≤ (x.c 1).i ∧ (x.c 1).i ≤ 2000) || (!decide (0 ≤ (x.c 2).i ∧ (x.c 2).i ≤ 51) || (!decide (0 ≤ (x.c 3).i ∧ (x.c 3).i ≤ 21) || !decide (0 ≤ (x.c 4).i ∧ (x.c 4).i ≤ 21)))
      case true => exact Ev.now _
      refine Ev.bind hn ?_
      simp only [gt_zero, bool_b]
      cases decide (1 ≤ (x.c 5).s.size) && (!isTag (x.c 5).s && !isName (x.c 5).s)
      case true => exact Ev.now _
      cases prevB (fun p => decide ((x.c 1).i < (p.c 1).i)) pre
      case true => exact Ev.now _
      exact ih)
  unfold F86 flaws
  simp only [gt_zero, row_r]
  cases decide ((l.length : Int) > 500)
  · exact h0
  · exact Ev.now _
end Go.Sx
