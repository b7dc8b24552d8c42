/- Replies: messages, groups, all of them. -/
import Derived.Test.YtndlhopdhfhjnaaDoorSxPb8
set_option linter.unusedVariables false
set_option linter.unusedSimpArgs false
namespace Go.Sx
def some2 (m : D) : Bool := decide (((m.c 3).r.length : Int) > 0) || decide (((m.c 4).r.length : Int) > 0)
def faF (v : Int) (some : Bool) : List D → List D → Int
  | _, [] => bif (v == 1) && some then 12 else 0
  | pre, x :: post => bif !isName x.s then 5 else bif prevB (fun p => Go.Op.bytesLess (ByteArray.toList x.s) (ByteArray.toList p.s) || ((ByteArray.toList x.s) == (ByteArray.toList p.s))) pre then 8 else faF v some (pre ++ [x]) post
def twice (pre : List D) (s : ByteArray) : Bool := pre.any fun o => (ByteArray.toList (o.c 0).s) == (ByteArray.toList s)
def msgT (m : D) : Int :=
  bif (m.c 2).b && (((m.c 1).i != 3) || some2 m) then 12
  else bif flaws (m.c 3).r != 0 then flaws (m.c 3).r
  else bif decide (((m.c 4).r.length : Int) > 200) then 2
  else faF (m.c 1).i (some2 m) [] (m.c 4).r
def msgF (pre : List D) (m : D) : Int :=
  bif !isRef (m.c 0).s then 3
  else bif !decide (1 ≤ (m.c 1).i ∧ (m.c 1).i ≤ 3) then 4
  else bif twice pre (m.c 0).s then 7 else msgT m
theorem twice54 (before : List D) (hl : before.length ≤ 140737488355328) (b : Bool) (s : ByteArray) (v : Int) (u : Bool) (fl fa : List D) :
    Ev (fun k => iter B54x0 k [.row before, .int (before.length : Int), .int 0, .bool b, .str s, .int v, .bool u, .row fl, .row fa]) [.bool b, .bool (twice before s), .str s, .int v, .bool u, .row fl, .row fa] :=
  Ev.scan (B := B54x0) before (fun pre => [.row before, .int (before.length : Int), .int (pre.length : Int), .bool b, .str s, .int v, .bool u, .row fl, .row fa]) (fun pre post => [.bool b, .bool (twice post s), .str s, .int v, .bool u, .row fl, .row fa])
    (Ev.of fun k => by unfold B54x0; simp only [gt_zero, gt_succ, int_i, row_r, str_s, bool_b, no_more, cond_false]; rfl)
    (fun pre x post go hp ih => by
      have a := at_of hp hl
      unfold B54x0
      simp only [gt_zero, gt_succ, int_i, row_r, str_s, bool_b, a.el, a.inr, a.lt, a.up, Bool.and_true, cond_true, twice, List.any_cons]
      rw [show (decide ((pre.length : Int) ≥ 0)) = true from decide_eq_true (by omega)]
      cases (ByteArray.toList (x.c 0).s == ByteArray.toList s)
      · exact ih
      · exact Ev.now _)
theorem fail54 (fa : List D) (hl : fa.length ≤ 140737488355328) (hx : ∀ x ∈ fa, okS x) (b : Bool) (s : ByteArray) (v : Int) (u : Bool) (fl : List D) :
    Ev (fun k => iter B54x1 k [.bool b, .row fa, .int (fa.length : Int), .int 0, .str s, .int v, .bool u, .row fl, .row fa]) [.int (faF v b [] fa)] :=
  Ev.scan (B := B54x1) fa (fun pre => [.bool b, .row fa, .int (fa.length : Int), .int (pre.length : Int), .str s, .int v, .bool u, .row fl, .row fa]) (fun pre post => [.int (faF v b pre post)])
    (Ev.of fun k => by
      unfold B54x1
      simp only [gt_zero, gt_succ, int_i, row_r, str_s, bool_b, no_more, cond_false, band_step, Option.bind_some, faF]
      cases ((v == 1) && b) <;> rfl)
    (fun pre x post go hp ih => by
      have a := at_of hp hl
      have hb := prev_bind hp hl (fun p => Go.Op.bytesLess (ByteArray.toList x.s) (ByteArray.toList p.s) || ((ByteArray.toList x.s) == (ByteArray.toList p.s)))
      unfold B54x1
      simp only [gt_zero, gt_succ, int_i, row_r, str_s, bool_b, a.el, a.inr, a.lt, a.up, Bool.and_true, cond_true, hb, name82 _ _ (hx x (by simp [hp])), Option.bind_some, faF]
      cases !isName x.s
      case true => exact Ev.now _
      cases prevB (fun p => Go.Op.bytesLess (ByteArray.toList x.s) (ByteArray.toList p.s) || ((ByteArray.toList x.s) == (ByteArray.toList p.s))) pre
      case true => exact Ev.now _
      exact ih)
theorem msg54 (before : List D) (m : D) (hl : before.length ≤ 140737488355328) (hm : okM m) :
    Ev (fun k => F54 k [.str (m.c 0).s, .int (m.c 1).i, .bool (m.c 2).b, .row (m.c 3).r, .row (m.c 4).r, .row before]) [.int (msgF before m)] := by
  obtain ⟨h0, ⟨h1, h2⟩, h3, h4⟩ := hm
  unfold F54
  simp only [gt_zero, gt_succ, int_i, row_r, str_s, bool_b, bor_step, ref43, verdict44, Option.bind_some, msgF]
  cases !isRef (m.c 0).s
  case true => exact Ev.now _
  cases !decide (1 ≤ (m.c 1).i ∧ (m.c 1).i ≤ 3)
  case true => exact Ev.now _
  refine Ev.bind (twice54 before hl _ _ _ _ _ _) ?_
  simp only [gt_zero, gt_succ, int_i, row_r, str_s, bool_b]
  cases twice before (m.c 0).s
  case true => exact Ev.now _
  have e0 : (decide (((m.c 3).r.length : Int) > 0) || decide (((m.c 4).r.length : Int) > 0)) = some2 m := rfl
  simp only [bor_step, band_step, Option.bind_some, gt_zero, bool_b, e0, msgT]
  cases ((m.c 2).b && (((m.c 1).i != 3) || some2 m))
  case true => exact Ev.now _
  refine Ev.bind (flaws81 _ h1 h2) ?_
  simp only [gt_zero, int_i]
  cases (flaws (m.c 3).r != 0)
  case true => exact Ev.now _
  cases decide (((m.c 4).r.length : Int) > 200)
  case true => exact Ev.now _
  exact fail54 (m.c 4).r (by omega) h4 _ _ _ _ _
theorem fail57 (fa : List D) (hl : fa.length ≤ 140737488355328) (hx : ∀ x ∈ fa, okS x) (s : ByteArray) (v : Int) (u : Bool) (fl : List D) :
    Ev (fun k => iter B57x0 k [.int 0, .str s, .int v, .bool u, .row fl, .row fa]) [.int (faF v (decide ((fl.length : Int) > 0) || decide ((fa.length : Int) > 0)) [] fa)] :=
  Ev.scan (B := B57x0) fa (fun pre => [.int (pre.length : Int), .str s, .int v, .bool u, .row fl, .row fa]) (fun pre post => [.int (faF v (decide ((fl.length : Int) > 0) || decide ((fa.length : Int) > 0)) pre post)])
    (Ev.of fun k => by
      unfold B57x0
      simp only [gt_zero, gt_succ, int_i, row_r, str_s, bool_b, no_more, cond_false, bor_step, band_step, Option.bind_some, faF]
      cases ((v == 1) && (decide ((fl.length : Int) > 0) || decide ((fa.length : Int) > 0))) <;> rfl)
    (fun pre x post go hp ih => by
      have a := at_of hp hl
      have hb := prev_bind hp hl (fun p => Go.Op.bytesLess (ByteArray.toList x.s) (ByteArray.toList p.s) || ((ByteArray.toList x.s) == (ByteArray.toList p.s)))
      unfold B57x0
      simp only [gt_zero, gt_succ, int_i, row_r, str_s, bool_b, a.el, a.inr, a.lt, a.up, Bool.and_true, cond_true, hb, Option.bind_some, faF]
      refine Ev.bind (name87 _ (hx x (by simp [hp]))) ?_
      simp only [gt_zero, bool_b]
      cases !isName x.s
      case true => exact Ev.now _
      cases prevB (fun p => Go.Op.bytesLess (ByteArray.toList x.s) (ByteArray.toList p.s) || ((ByteArray.toList x.s) == (ByteArray.toList p.s))) pre
      case true => exact Ev.now _
      exact ih)
theorem msg57 (l pre post : List D) (m : D) (hp : l = pre ++ m :: post) (hl : l.length * 8 ≤ 140737488351232) (hm : okM m) :
    Ev (fun k => F57 k [.row l, .int (pre.length : Int)]) [.int (msgF pre m)] := by
  obtain ⟨h0, ⟨h1, h2⟩, h3, h4⟩ := hm
  have hpl : pre.length ≤ 140737488355328 := by
    have := hl
    rw [hp] at this
    simp only [List.length_append, List.length_cons] at this
    omega
  have hloop : Ev (fun k => iter B57x1 k [.row l, .int (pre.length : Int), .int 0, .str (m.c 0).s, .int (m.c 1).i, .bool (m.c 2).b, .row (m.c 3).r, .row (m.c 4).r]) [.int (bif twice pre (m.c 0).s then 7 else msgT m)] :=
    Ev.scan (B := B57x1) pre (fun p => [.row l, .int (pre.length : Int), .int (p.length : Int), .str (m.c 0).s, .int (m.c 1).i, .bool (m.c 2).b, .row (m.c 3).r, .row (m.c 4).r]) (fun _ q => [.int (bif twice q (m.c 0).s then 7 else msgT m)])
      (by
        unfold B57x1
        have e0 : (decide (((m.c 3).r.length : Int) > 0) || decide (((m.c 4).r.length : Int) > 0)) = some2 m := rfl
        have e1 : (some2 m || false) = some2 m := by simp
        simp only [gt_zero, gt_succ, int_i, row_r, str_s, bool_b, no_more, cond_false, bor_step, band_step, Option.bind_some, e0, twice, List.any_nil, msgT]
        cases ((m.c 2).b && (((m.c 1).i != 3) || some2 m))
        case true => exact Ev.now _
        refine Ev.bind (flaws86 _ h1 h2) ?_
        simp only [gt_zero, int_i]
        cases (flaws (m.c 3).r != 0)
        case true => exact Ev.now _
        cases decide (((m.c 4).r.length : Int) > 200)
        case true => exact Ev.now _
        exact fail57 (m.c 4).r (by omega) h4 _ _ _ _)
      (fun p x q go hq ih => by
        have a := at_of (l := l) (pre := p) (x := x) (post := q ++ m :: post) (by rw [hp, hq]; simp) (by omega)
        have a' := at_of hq hpl
        unfold B57x1
        simp only [gt_zero, gt_succ, int_i, row_r, str_s, bool_b, a.el, a.inr, a'.lt, a.up, Bool.and_true, cond_true, twice, List.any_cons]
        cases (ByteArray.toList (x.c 0).s == ByteArray.toList (m.c 0).s)
        · exact ih
        · exact Ev.now _)
  have a := at_of hp (by omega)
  unfold F57
  simp only [gt_zero, gt_succ, int_i, row_r, str_s, bool_b, a.el, a.inr, Bool.and_true, cond_true, msgF]
  refine Ev.bind (ref41 _ h0) ?_
  simp only [gt_zero, bool_b, verdict42, Option.bind_some]
  cases !isRef (m.c 0).s
  case true => exact Ev.now _
  cases !decide (1 ≤ (m.c 1).i ∧ (m.c 1).i ≤ 3)
  case true => exact Ev.now _
  exact hloop
/-! ### Groups -/
def msF (v : Int) (t : Int) : List D → List D → Int
  | _, [] => bif t != v then 12 else 0
  | pre, m :: post => bif msgF pre m != 0 then msgF pre m else msF v t (pre ++ [m]) post
def grpT (g : D) : Int := msF (g.c 1).i (tog (vs (g.c 2).r)) [] (g.c 2).r
def grpF (pre : List D) (g : D) : Int :=
  bif !isRef (g.c 0).s then 3
  else bif !decide (1 ≤ (g.c 1).i ∧ (g.c 1).i ≤ 3) then 4
  else bif twice pre (g.c 0).s then 7 else grpT g
theorem twice45 (before : List D) (hl : before.length ≤ 140737488355328) (s : ByteArray) (v : Int) (ms : List D) :
    Ev (fun k => iter B45x0 k [.row before, .int (before.length : Int), .int 0, .str s, .int v, .row ms]) [.bool (twice before s), .str s, .int v, .row ms] :=
  Ev.scan (B := B45x0) before (fun pre => [.row before, .int (before.length : Int), .int (pre.length : Int), .str s, .int v, .row ms]) (fun pre post => [.bool (twice post s), .str s, .int v, .row ms])
    (Ev.of fun k => by unfold B45x0; simp only [gt_zero, gt_succ, int_i, row_r, str_s, bool_b, no_more, cond_false]; rfl)
    (fun pre x post go hp ih => by
      have a := at_of hp hl
      unfold B45x0
      simp only [gt_zero, gt_succ, int_i, row_r, str_s, bool_b, a.el, a.inr, a.lt, a.up, Bool.and_true, cond_true, twice, List.any_cons]
      rw [show (decide ((pre.length : Int) ≥ 0)) = true from decide_eq_true (by omega)]
      cases (ByteArray.toList (x.c 0).s == ByteArray.toList s)
      · exact ih
      · exact Ev.now _)
theorem msgs45 (ms : List D) (hl : ms.length * 8 ≤ 140737488351232) (hx : ∀ x ∈ ms, okM x) (s : ByteArray) (v : Int) :
    Ev (fun k => iter B45x1 k [.row ms, .int (ms.length : Int), .int 0, .str s, .int v, .row ms]) [.int (msF v (tog (vs ms)) [] ms)] :=
  Ev.scan (B := B45x1) ms (fun pre => [.row ms, .int (ms.length : Int), .int (pre.length : Int), .str s, .int v, .row ms]) (fun pre post => [.int (msF v (tog (vs ms)) pre post)])
    (by
      unfold B45x1
      simp only [gt_zero, gt_succ, int_i, row_r, str_s, no_more, cond_false, msF]
      refine Ev.bind (of55 s v ms hl) ?_
      simp only [gt_zero, int_i]
      cases (tog (vs ms) != v) <;> exact Ev.now _)
    (fun pre x post go hp ih => by
      have a := at_of hp (by omega)
      unfold B45x1
      simp only [gt_zero, gt_succ, int_i, row_r, str_s, bool_b, a.el, a.inr, a.lt, a.up, a.tk, a.le, Bool.and_true, cond_true, msF]
      refine Ev.bind (msg54 pre x (by rw [hp] at hl; simp only [List.length_append, List.length_cons] at hl; omega) (hx x (by simp [hp]))) ?_
      simp only [gt_zero, int_i]
      cases (msgF pre x != 0)
      · exact ih
      · exact Ev.now _)
theorem grp45 (before : List D) (g : D) (hl : before.length ≤ 140737488355328) (hg : okG g) :
    Ev (fun k => F45 k [.str (g.c 0).s, .int (g.c 1).i, .row (g.c 2).r, .row before]) [.int (grpF before g)] := by
  obtain ⟨h0, h1, h2⟩ := hg
  unfold F45
  simp only [gt_zero, gt_succ, int_i, row_r, str_s, bool_b, ref43, verdict44, Option.bind_some, grpF]
  cases !isRef (g.c 0).s
  case true => exact Ev.now _
  cases !decide (1 ≤ (g.c 1).i ∧ (g.c 1).i ≤ 3)
  case true => exact Ev.now _
  refine Ev.bind (twice45 before hl _ _ _) ?_
  simp only [gt_zero, gt_succ, int_i, row_r, str_s, bool_b]
  cases twice before (g.c 0).s
  case true => exact Ev.now _
  exact msgs45 (g.c 2).r h1 h2 _ _
theorem msgs47 (ms : List D) (hl : ms.length * 8 ≤ 140737488351232) (hx : ∀ x ∈ ms, okM x) (s : ByteArray) (v : Int) :
    Ev (fun k => iter B47x0 k [.int 0, .str s, .int v, .row ms]) [.int (msF v (tog (vs ms)) [] ms)] :=
  Ev.scan (B := B47x0) ms (fun pre => [.int (pre.length : Int), .str s, .int v, .row ms]) (fun pre post => [.int (msF v (tog (vs ms)) pre post)])
    (by
      unfold B47x0
      simp only [gt_zero, gt_succ, int_i, row_r, str_s, no_more, cond_false, msF]
      refine Ev.bind (of58 s v ms hl) ?_
      simp only [gt_zero, int_i, bne_comm v]
      cases (tog (vs ms) != v) <;> exact Ev.now _)
    (fun pre x post go hp ih => by
      have a := at_of hp (by omega)
      unfold B47x0
      simp only [gt_zero, gt_succ, int_i, row_r, str_s, bool_b, a.el, a.inr, a.lt, a.up, Bool.and_true, cond_true, msF]
      refine Ev.bind (msg57 ms pre post x hp hl (hx x (by simp [hp]))) ?_
      simp only [gt_zero, int_i]
      cases (msgF pre x != 0)
      · exact ih
      · exact Ev.now _)
theorem grp47 (l pre post : List D) (g : D) (hp : l = pre ++ g :: post) (hl : l.length * 8 ≤ 140737488351232) (hg : okG g) :
    Ev (fun k => F47 k [.row l, .int (pre.length : Int)]) [.int (grpF pre g)] := by
  obtain ⟨h0, h1, h2⟩ := hg
  have hpl : pre.length ≤ 140737488355328 := by
    have := hl
    rw [hp] at this
    simp only [List.length_append, List.length_cons] at this
    omega
  have hloop : Ev (fun k => iter B47x1 k [.row l, .int (pre.length : Int), .int 0, .str (g.c 0).s, .int (g.c 1).i, .row (g.c 2).r]) [.int (bif twice pre (g.c 0).s then 7 else grpT g)] :=
    Ev.scan (B := B47x1) pre (fun p => [.row l, .int (pre.length : Int), .int (p.length : Int), .str (g.c 0).s, .int (g.c 1).i, .row (g.c 2).r]) (fun _ q => [.int (bif twice q (g.c 0).s then 7 else grpT g)])
      (by
        unfold B47x1
        simp only [gt_zero, gt_succ, int_i, row_r, str_s, bool_b, no_more, cond_false, twice, List.any_nil]
        exact msgs47 (g.c 2).r h1 h2 _ _)
      (fun p x q go hq ih => by
        have a := at_of (l := l) (pre := p) (x := x) (post := q ++ g :: post) (by rw [hp, hq]; simp) (by omega)
        have a' := at_of hq hpl
        unfold B47x1
        simp only [gt_zero, gt_succ, int_i, row_r, str_s, bool_b, a.el, a.inr, a'.lt, a.up, Bool.and_true, cond_true, twice, List.any_cons]
        cases (ByteArray.toList (x.c 0).s == ByteArray.toList (g.c 0).s)
        · exact ih
        · exact Ev.now _)
  have a := at_of hp (by omega)
  unfold F47
  simp only [gt_zero, gt_succ, int_i, row_r, str_s, bool_b, a.el, a.inr, Bool.and_true, cond_true, grpF]
  refine Ev.bind (ref41 _ h0) ?_
  simp only [gt_zero, bool_b, verdict42, Option.bind_some]
  cases !isRef (g.c 0).s
  case true => exact Ev.now _
  cases !decide (1 ≤ (g.c 1).i ∧ (g.c 1).i ≤ 3)
  case true => exact Ev.now _
  exact hloop
/-! ### Replies -/
def many (l : List D) : Int := l.foldl (fun a g => IntKind.i64.wrap (a + ((g.c 2).r.length : Int))) 0
theorem many_snoc (l : List D) (g : D) : many (l ++ [g]) = IntKind.i64.wrap (many l + ((g.c 2).r.length : Int)) := by simp [many]
def gsF (v t : Int) : List D → List D → Int
  | pre, [] => bif decide (many pre > 200) then 2 else bif t != v then 12 else 0
  | pre, g :: post => bif grpF pre g != 0 then grpF pre g else gsF v t (pre ++ [g]) post
def repF (s : ByteArray) (v : Int) (gs : List D) : Int :=
  bif !isRef s then 3
  else bif !decide (1 ≤ v ∧ v ≤ 3) then 4
  else bif decide ((gs.length : Int) > 50) then 2
  else gsF v (tog (vs gs)) [] gs
theorem rep35 (s : ByteArray) (v : Int) (gs : List D) (hl : gs.length * 8 ≤ 140737488351232) (hx : ∀ x ∈ gs, okG x) : Ev (fun k => F35 k [.str s, .int v, .row gs]) [.int (repF s v gs)] := by
  have h0 := Ev.scan (B := B35x0) gs (fun pre => [.int (many pre), .row gs, .int (gs.length : Int), .int (pre.length : Int), .str s, .int v, .row gs]) (fun pre post => [.int (gsF v (tog (vs gs)) pre post)])
    (by
      unfold B35x0
      simp only [gt_zero, gt_succ, int_i, row_r, str_s, no_more, cond_false, gsF]
      cases decide (many gs > 200)
      case true => exact Ev.now _
      refine Ev.bind (of46 s v gs hl) ?_
      simp only [gt_zero, int_i]
      cases (tog (vs gs) != v) <;> exact Ev.now _)
    (fun pre x post go hp ih => by
      have a := at_of hp (by omega)
      unfold B35x0
      simp only [gt_zero, gt_succ, int_i, row_r, str_s, bool_b, a.el, a.inr, a.lt, a.up, a.tk, a.le, Bool.and_true, cond_true, gsF]
      refine Ev.bind (grp45 pre x (by rw [hp] at hl; simp only [List.length_append, List.length_cons] at hl; omega) (hx x (by simp [hp]))) ?_
      simp only [gt_zero, int_i]
      rw [← many_snoc]
      cases (grpF pre x != 0)
      · exact ih
      · exact Ev.now _)
  unfold F35 repF
  simp only [gt_zero, gt_succ, int_i, row_r, str_s, bool_b, ref43, verdict44, Option.bind_some]
  cases !isRef s
  case true => exact Ev.now _
  cases !decide (1 ≤ v ∧ v ≤ 3)
  case true => exact Ev.now _
  cases decide ((gs.length : Int) > 50)
  case true => exact Ev.now _
  exact h0
theorem rep37 (s : ByteArray) (hs : s.size ≤ 140737488351232) (v : Int) (gs : List D) (hl : gs.length * 8 ≤ 140737488351232) (hx : ∀ x ∈ gs, okG x) : Ev (fun k => F37 k [.str s, .int v, .row gs]) [.int (repF s v gs)] := by
  have h0 := Ev.scan (B := B37x0) gs (fun pre => [.int (many pre), .int (pre.length : Int), .str s, .int v, .row gs]) (fun pre post => [.int (gsF v (tog (vs gs)) pre post)])
    (by
      unfold B37x0
      simp only [gt_zero, gt_succ, int_i, row_r, str_s, no_more, cond_false, gsF]
      cases decide (many gs > 200)
      case true => exact Ev.now _
      refine Ev.bind (of48 s v gs hl) ?_
      simp only [gt_zero, int_i, bne_comm v]
      cases (tog (vs gs) != v) <;> exact Ev.now _)
    (fun pre x post go hp ih => by
      have a := at_of hp (by omega)
      unfold B37x0
      simp only [gt_zero, gt_succ, int_i, row_r, str_s, bool_b, a.el, a.inr, a.lt, a.up, Bool.and_true, cond_true, gsF]
      refine Ev.bind (grp47 gs pre post x hp hl (hx x (by simp [hp]))) ?_
      simp only [gt_zero, int_i]
      rw [← many_snoc]
      cases (grpF pre x != 0)
      · exact ih
      · exact Ev.now _)
  unfold F37 repF
  simp only [gt_zero, gt_succ, int_i, row_r, str_s, bool_b, verdict42, Option.bind_some]
  refine Ev.bind (ref41 s hs) ?_
  simp only [gt_zero, bool_b]
  cases !isRef s
  case true => exact Ev.now _
  cases !decide (1 ≤ v ∧ v ≤ 3)
  case true => exact Ev.now _
  cases decide ((gs.length : Int) > 50)
  case true => exact Ev.now _
  exact h0
end Go.Sx
