/- Segments: what stands at a byte (row 18). -/
import Derived.Test.YtlhbonpdlghlbaaDoorSxWm
set_option linter.unusedVariables false
set_option linter.unusedSimpArgs false
namespace Go.Sx
theorem spot23 (W : D) (l P Q : List D) (z : D) (at_ : Int) (hW : (W.c 0).b = false) (hl : ((W.c 1).c 6).r = l) (hn : l.length ≤ 140737488355328) (hp : l = P ++ z :: Q) (h1 : ∀ y ∈ P, bgP y ≤ at_) (h1z : bgP z ≤ at_) (h2 : ∀ y ∈ Q, at_ < bgP y) :
    Ev (fun k => iter B23x0 k [.int at_, W, .int 0, .int 0, .int 0, .int 0, .int 0]) [.int (z.c 0).i, .int (z.c 1).i, .int (z.c 2).i, .int (z.c 3).i, .int 0] := by
  have A := at_of hp hn
  have step : ∀ (k : Int) (pre post : List D) (x : D) (go : Nat → List D → Option (List D)) (r : List D), l = pre ++ x :: post → Ev (fun n => go n [.int at_, W, .int (bif decide (bgP x ≤ at_) then (pre.length : Int) else k), .int ((pre ++ [x]).length : Int), .int 0, .int 0, .int 0]) r → Ev (fun n => B23x0 n (go n) [.int at_, W, .int k, .int (pre.length : Int), .int 0, .int 0, .int 0]) r := fun k pre post x go r hx hr => by
    have a := at_of hx hn
    refine Ev.congr (fun n => ?_) hr
    unfold B23x0
    simp only [gt_zero, gt_succ, int_i, hW, hl, a.lt, a.inr, a.el, a.up, Bool.not_false, Bool.and_true, cond_true]
    rw [show (x.c 4).i = bgP x from rfl]
    cases decide (bgP x ≤ at_) <;> rfl
  have last : ∀ (post pre : List D), l = pre ++ post → (∀ y ∈ post, at_ < bgP y) → Ev (fun n => iter B23x0 n [.int at_, W, .int (P.length : Int), .int (pre.length : Int), .int 0, .int 0, .int 0]) [.int (z.c 0).i, .int (z.c 1).i, .int (z.c 2).i, .int (z.c 3).i, .int 0] := by
    intro post
    induction post with
    | nil =>
      intro pre hpre _
      rw [List.append_nil] at hpre
      have e : (pre.length : Int) = (l.length : Int) := by rw [hpre]
      rw [e]
      refine Ev.iter (Ev.of fun k => ?_)
      unfold B23x0
      simp only [gt_zero, gt_succ, int_i, hW, hl, A.inr, A.el, no_more, Bool.not_false, Bool.and_true, cond_true, cond_false]
    | cons x post ih =>
      intro pre hpre hq
      refine Ev.iter (step _ pre post x (fun n => iter B23x0 n) _ hpre ?_)
      rw [decide_eq_false (by have := hq x (by simp); omega)]
      exact ih (pre ++ [x]) (by simp [hpre]) (fun y hy => hq y (by simp [hy]))
  have first : ∀ (R pre : List D) (k : Int), l = pre ++ (R ++ z :: Q) → pre ++ R = P → (∀ y ∈ R, bgP y ≤ at_) → Ev (fun n => iter B23x0 n [.int at_, W, .int k, .int (pre.length : Int), .int 0, .int 0, .int 0]) [.int (z.c 0).i, .int (z.c 1).i, .int (z.c 2).i, .int (z.c 3).i, .int 0] := by
    intro R
    induction R with
    | nil =>
      intro pre k hpre hP _
      rw [List.append_nil] at hP
      refine Ev.iter (step _ pre Q z (fun n => iter B23x0 n) _ hpre ?_)
      rw [decide_eq_true h1z]
      simp only [cond_true]
      rw [hP]
      exact last Q (P ++ [z]) (by rw [hp]; simp) h2
    | cons x R ih =>
      intro pre k hpre hP hR
      refine Ev.iter (step _ pre (R ++ z :: Q) x (fun n => iter B23x0 n) _ hpre ?_)
      exact ih (pre ++ [x]) _ (by simp [hpre]) (by simpa using hP) (fun y hy => hR y (by simp [hy]))
  exact first P [] 0 hp rfl h1
theorem pl_bd : ∀ (a : List D) (N : Nat), numOK N a → ∀ d ∈ plOf a, 0 ≤ (d.c 4).i ∧ (d.c 4).i ≤ 1000000000000
  | [], N, _, z, hz => by simp [plOf] at hz
  | y :: a, N, h, z, hz => by
    rw [plOf_cons] at hz
    have h1 := h.1
    have h2 := h.2
    by_cases h0 : (y.c 1).i = 0
    · rw [if_pos h0] at h2
      rw [beqI_true h0] at hz
      exact pl_bd a (N + 1) h2.2.2.2 z hz
    · rw [if_neg h0] at h2
      rw [beqI_false h0] at hz
      simp only [cond_false] at hz
      rcases List.mem_cons.1 hz with rfl | hz
      · show 0 ≤ (y.c 5).i ∧ (y.c 5).i ≤ _
        have := h2.2.2.1
        have := h2.2.2.2.1
        omega
      · exact pl_bd a N h2.2.2.2.2 z hz
theorem st_mem : ∀ (a : List D), ∀ d ∈ stOf a, ∃ z ∈ a, d.i = bgP z
  | [], d, h => by simp [stOf] at h
  | y :: a, d, h => by
    rw [stOf_cons] at h
    by_cases h0 : (y.c 1).i = 0
    · rw [beqI_true h0] at h
      simp only [cond_true] at h
      rcases List.mem_cons.1 h with rfl | h
      · exact ⟨y, by simp, rfl⟩
      · obtain ⟨z, hz, e⟩ := st_mem a d h
        exact ⟨z, by simp [hz], e⟩
    · rw [beqI_false h0] at h
      obtain ⟨z, hz, e⟩ := st_mem a d h
      exact ⟨z, by simp [hz], e⟩
section
variable {ι : Type} [Dir ι]
theorem last24 (pl : List D) (seg at_ : Int) (hn : pl.length ≤ 140737488355328) (hb : ∀ d ∈ pl, 0 ≤ (d.c 4).i ∧ (d.c 4).i ≤ 1000000000000) :
    Ev (fun k => iter B24x0 k [.int at_, .int seg, .row pl, .int (pl.length : Int), .int 0, .int 0, .int 0, .int 0, .int 0, .int 0, .int 0]) [.int seg, .int (spF seg at_ (0, 0, 0) pl).1, .int (spF seg at_ (0, 0, 0) pl).2.1, .int (spF seg at_ (0, 0, 0) pl).2.2, .int 0] := by
  refine Ev.congr (fun k => ?_) (Ev.scan (B := B24x0) pl (fun pre => [.int at_, .int seg, .row pl, .int (pl.length : Int), .int (pre.length : Int), .int 0, .int 0, .int 0, .int (spF seg at_ (0, 0, 0) pre).1, .int (spF seg at_ (0, 0, 0) pre).2.1, .int (spF seg at_ (0, 0, 0) pre).2.2]) (fun _ _ => _) ?_ ?_)
  · rfl
  · refine Ev.of fun k => ?_
    unfold B24x0
    simp only [gt_zero, gt_succ, int_i, row_r, no_more, cond_false]
  · intro pre d post go hp ih
    have a := at_of hp hn
    have hd := hb d (by simp [hp])
    rw [spF_app] at ih
    have e : spF seg at_ (spF seg at_ (0, 0, 0) pre) [d] = sp1 seg at_ (spF seg at_ (0, 0, 0) pre) d := rfl
    rw [e] at ih
    generalize spF seg at_ (0, 0, 0) pre = acc at ih ⊢
    unfold B24x0
    simp only [gt_zero, gt_succ, int_i, row_r, a.lt, a.inr, a.el, Bool.and_true, cond_true, band_step, Option.bind_some, bool_b]
    rw [w64 (by omega) (by omega)]
    unfold sp1 at ih
    cases hc : (((d.c 0).i == seg) && decide ((d.c 4).i - 1 ≤ at_)) <;> rw [hc] at ih
    · simp only [cond_false, Option.bind_some, gt_zero, gt_succ, int_i, row_r, a.up] at ih ⊢
      exact ih
    · simp only [cond_true, Option.bind_some, gt_zero, gt_succ, int_i, row_r, a.up] at ih ⊢
      exact ih
end
theorem at_ix {l : List D} {i : Nat} (h : i < l.length) : l = l.take i ++ l[i] :: l.drop (i + 1) ∧ (l.take i).length = i := by
  refine ⟨(List.take_append_drop i l).symm.trans (by rw [List.drop_eq_getElem_cons h]), by rw [List.length_take]; omega⟩
theorem spot24 (W : D) (pl a0 b0 : List D) (at_ : Int) (r : List D) (hW : (W.c 0).b = false) (hpl : ((W.c 1).c 7).r = pl) (hst : ((W.c 1).c 8).r = a0 ++ b0) (hn : (a0 ++ b0).length ≤ 1000000000) (h1 : ∀ d ∈ a0, d.i ≤ at_) (h2 : ∀ d ∈ b0, at_ < d.i)
    (hr : Ev (fun k => iter B24x0 k [.int at_, .int ((a0.length : Int) - 1), .row pl, .int (pl.length : Int), .int 0, .int 0, .int 0, .int 0, .int 0, .int 0, .int 0]) r) :
    ∀ (n seg : Nat), seg + 1 + n = a0.length → Ev (fun k => iter B24x1 k [.int at_, W, .int (seg : Int), .int 0, .int 0, .int 0]) r := by
  intro n
  induction n with
  | zero =>
    intro seg hs
    have hseg : (seg : Int) = (a0.length : Int) - 1 := by omega
    have hlen := hn
    rw [List.length_append] at hlen
    refine EvG.nat (EvG.loopN (f := fun _ n => iter B24x1 n _) ?_)
    refine EvG.iter (f := fun _ => B24x1) ?_
    unfold B24x1
    simp only [gt_zero, gt_succ, int_i, hW, hpl, hst, Bool.not_false, cond_true]
    rw [w64 (n := (seg : Int) + 1) (by omega) (by omega)]
    refine EvG.bind (a := [.bool false]) ?_ ?_
    · by_cases hb : seg + 1 < (a0 ++ b0).length
      · obtain ⟨e1, e2⟩ := at_ix hb
        have B := at_of e1 (by omega)
        have hx : (a0 ++ b0)[seg + 1] ∈ b0 := by
          rw [List.getElem_append_right (by omega)]
          exact List.getElem_mem _
        have hel : elAt (a0 ++ b0) ((seg : Int) + 1) = (a0 ++ b0)[seg + 1] := by have e3 := B.el; rw [e2] at e3; exact e3
        have hin : inRow ((seg : Int) + 1) (a0 ++ b0).length = true := by have e3 := B.inr; rw [e2] at e3; exact e3
        rw [decide_eq_true (show (seg : Int) + 1 < (((a0 ++ b0).length : Nat) : Int) by omega), hin, hel]
        rw [decide_eq_false (by have := h2 _ hx; omega)]
        exact EvG.now _
      · rw [decide_eq_false (show ¬ (seg : Int) + 1 < (((a0 ++ b0).length : Nat) : Int) by omega)]
        exact EvG.now _
    · simp only [gt_zero, bool_b, cond_false]
      rw [hseg]
      exact Ev.snd hr
  | succ n ih =>
    intro seg hs
    have hlen := hn
    rw [List.length_append] at hlen
    have hb : seg + 1 < (a0 ++ b0).length := by rw [List.length_append]; omega
    obtain ⟨e1, e2⟩ := at_ix hb
    have B := at_of e1 (by omega)
    have hx : (a0 ++ b0)[seg + 1] ∈ a0 := by
      rw [List.getElem_append_left (by omega)]
      exact List.getElem_mem _
    have hel : elAt (a0 ++ b0) ((seg : Int) + 1) = (a0 ++ b0)[seg + 1] := by have e3 := B.el; rw [e2] at e3; exact e3
    have hin : inRow ((seg : Int) + 1) (a0 ++ b0).length = true := by have e3 := B.inr; rw [e2] at e3; exact e3
    refine Ev.iter ?_
    have key : ∀ (go : Nat → List D → Option (List D)), Ev (fun k => go k [.int at_, W, .int ((seg + 1 : Nat) : Int), .int 0, .int 0, .int 0]) r → Ev (fun k => B24x1 k (go k) [.int at_, W, .int (seg : Int), .int 0, .int 0, .int 0]) r := fun go hgo => by
      refine Ev.congr (fun k => ?_) hgo
      unfold B24x1
      simp only [gt_zero, gt_succ, int_i, hW, hpl, hst, Bool.not_false, cond_true]
      rw [w64 (n := (seg : Int) + 1) (by omega) (by omega)]
      rw [decide_eq_true (show (seg : Int) + 1 < (((a0 ++ b0).length : Nat) : Int) by omega), hin, hel]
      rw [decide_eq_true (h1 _ hx)]
      rfl
    exact key (fun k => iter B24x1 k) (ih (seg + 1) (by omega))
/-- A byte's spot, by both. -/
theorem spot_ok (l : List D) (m : Mk) (lines : Bool) (at_ : Int) (h : okR okSg l) (hb : bothK l m = 0) (S : SameW (WW.segs m lines 500000 0 WW0 l) (RW.segs m lines 0 RW0 l)) (hw : wrK l m lines 500000 = [wrD m lines (WW.segs m lines 500000 0 WW0 l), .int 0]) (hj : joinK l m lines 500000 = [rwD m (RW.segs m lines 0 RW0 l), .int 0])
    (hle : ((WW.segs m lines 500000 0 WW0 l).b.length : Int) ≤ 500000) (ha0 : 0 ≤ at_) (ha1 : at_ < ((RW.segs m lines 0 RW0 l).out.length : Int)) (P Q : List D) (z : D) (hp : (RW.segs m lines 0 RW0 l).pc = P ++ z :: Q) (h1 : ∀ y ∈ P, bgP y ≤ at_) (h1z : bgP z ≤ at_) (h2 : ∀ y ∈ Q, at_ < bgP y) :
    Ev (fun k => F23 k [.row l, .int m.e, .int m.p, .int m.r, .int m.x, .int m.z, .bool lines, .int at_]) [.int (z.c 0).i, .int (z.c 1).i, .int (z.c 2).i, .int (z.c 3).i, .int 0] ∧ Ev (fun k => F24 k [.row l, .int m.e, .int m.p, .int m.r, .int m.x, .int m.z, .bool lines, .int at_]) [.int (z.c 0).i, .int (z.c 1).i, .int (z.c 2).i, .int (z.c 3).i, .int 0] := by
  have hL := both_lim hb
  have hpc := pc_len m lines l hL
  have hpl := pl_len (RW.segs m lines 0 RW0 l).pc
  have I := segs_inv m lines l hL.2 hL.1
  have hp2 : (RW.segs m lines 0 RW0 l).pc = P ++ [z] ++ Q := by rw [hp]; simp
  have hnum := I.num
  rw [hp2] at hnum
  obtain ⟨s1, s2⟩ := spot_of (at_ := at_) hnum (fun y hy => by
    rcases List.mem_append.1 hy with hy | hy
    · exact h1 y hy
    · rw [List.mem_singleton.1 hy]; exact h1z) h2
  refine ⟨?_, ?_⟩
  · unfold F23
    simp only [gt_zero, gt_succ, int_i, row_r, bool_b]
    refine Ev.bind (both32 l m h) ?_
    simp only [gt_zero, int_i]
    refine Ev.neg (bneI_false hb) (Ev.bind ((join43 l m lines 500000 hL).cast hj) ?_)
    simp only [gt_zero, gt_succ, int_i]
    refine Ev.neg rfl (Ev.bind (a := [.bool false]) ?_ ?_)
    · refine Ev.neg (decide_eq_false (by omega)) (Ev.pos rfl ((Ev.now _).cast ?_))
      show [D.bool (decide (at_ ≥ ((RW.segs m lines 0 RW0 l).out.length : Int)))] = _
      rw [decide_eq_false (by omega)]
    · simp only [gt_zero, bool_b, cond_false]
      exact spot23 _ (RW.segs m lines 0 RW0 l).pc P Q z at_ rfl rfl (by omega) hp h1 h1z h2
  · unfold F24
    simp only [gt_zero, gt_succ, int_i, row_r, bool_b]
    refine Ev.bind ((wr44 l m lines 500000 h).cast hw) ?_
    simp only [gt_zero, gt_succ, int_i, out46, Option.bind_some, bool_b]
    have e6 : (((wrD m lines (WW.segs m lines 500000 0 WW0 l)).c 1).c 6).r = (RW.segs m lines 0 RW0 l).out := S.b
    rw [e6]
    have hble : ((RW.segs m lines 0 RW0 l).out.length : Int) ≤ 500000 := by rw [← S.b]; exact hle
    rw [w64 (by omega) (by omega), decide_eq_true (show 0 ≤ at_ ∧ at_ ≤ ((RW.segs m lines 0 RW0 l).out.length : Int) - 1 by omega)]
    refine Ev.neg rfl (Ev.pos rfl (Ev.neg rfl ?_))
    have hst : (((wrD m lines (WW.segs m lines 500000 0 WW0 l)).c 1).c 8).r = stOf (P ++ [z]) ++ stOf Q := by
      show (WW.segs m lines 500000 0 WW0 l).st = _
      rw [S.st, hp2, stOf_app]
    have hpos : 1 ≤ (stOf (P ++ [z])).length := by
      have hn2 := hnum
      rw [List.append_assoc, numOK_app] at hn2
      have hz := hn2.2
      rw [Nat.zero_add] at hz
      have hz2 := hz.2
      rw [stOf_app, stOf_cons, List.length_append]
      by_cases h0 : (z.c 1).i = 0
      · rw [beqI_true h0]; simp only [cond_true, List.length_cons]; omega
      · rw [if_neg h0] at hz2
        have := hz2.2.1
        omega
    have hstl : (stOf (P ++ [z]) ++ stOf Q).length ≤ 1000000000 := by
      rw [← stOf_app, ← hp2]
      have : (stOf (RW.segs m lines 0 RW0 l).pc).length = l.length := I.tags
      rw [this]
      have := hL.1
      omega
    refine spot24 _ (WW.segs m lines 500000 0 WW0 l).pl (stOf (P ++ [z])) (stOf Q) at_ _ rfl rfl hst hstl ?_ ?_ ?_ ((stOf (P ++ [z])).length - 1) 0 (by omega)
    · intro d hd
      obtain ⟨y, hy, e⟩ := st_mem _ d hd
      rw [e]
      rcases List.mem_append.1 hy with hy | hy
      · exact h1 y hy
      · rw [List.mem_singleton.1 hy]; exact h1z
    · intro d hd
      obtain ⟨y, hy, e⟩ := st_mem _ d hd
      rw [e]
      exact h2 y hy
    · rw [← s1]
      refine (last24 (WW.segs m lines 500000 0 WW0 l).pl (z.c 0).i at_ (by rw [S.pl]; omega) ?_).cast ?_
      · rw [S.pl]
        exact pl_bd _ 0 I.num
      · rw [S.pl, hp2, s2]
end Go.Sx
