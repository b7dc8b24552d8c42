/- Segments: places, both ways (row 18). -/
import Derived.Test.YtlhbonpdlghlbaaDoorSxWl
set_option linter.unusedVariables false
set_option linter.unusedSimpArgs false
namespace Go.Sx
inductive WhereR (l : List D) (m : Mk) (lines : Bool) (sg e r p : Int) (res : List D) : Prop where
  | fault (f : Int) (h0 : f ≠ 0) (hr : res = [.int 0, .int 0, .int f])
  | ok (hb : bothK l m = 0) (same : SameW (WW.segs m lines 500000 0 WW0 l) (RW.segs m lines 0 RW0 l)) (hw : wrK l m lines 500000 = [wrD m lines (WW.segs m lines 500000 0 WW0 l), .int 0]) (hle : ((WW.segs m lines 500000 0 WW0 l).b.length : Int) ≤ 500000)
    (h1 : 0 ≤ sg) (h2 : sg < (l.length : Int)) (h3 : rng e r p = true) (q : List D) (y : D) (w : List D) (hp : (RW.segs m lines 0 RW0 l).pc = q ++ y :: w) (hy : hit sg e r p y = true) (hy0 : (y.c 1).i ≠ 0) (hr : res = [.int (y.c 5).i, .int (y.c 6).i, .int 0])
theorem bor2 (a b : Bool) : (bif a then some [D.bool true] else some [D.bool b]) = some [D.bool (a || b)] := by cases a <;> rfl
theorem pc_len (m : Mk) (lines : Bool) (l : List D) (h : limL l) : (RW.segs m lines 0 RW0 l).pc.length ≤ 50000000 := by
  have hle := RW.le_segs (m := m) (lines := lines) (i := 0) (l := l) (s := RW0) (n := 0) ⟨by simp [RW0], by simp [RW0], by simp [RW0], by simp [RW0]⟩ h.2
  have := hle.pc
  have := h.1
  omega
theorem pl_len (l : List D) : (plOf l).length ≤ l.length := by
  unfold plOf
  exact List.length_filterMap_le _ _
theorem where_both (l : List D) (m : Mk) (lines : Bool) (sg e r p : Int) (h : okR okSg l) : ∃ res, Ev (fun k => F21 k [.row l, .int m.e, .int m.p, .int m.r, .int m.x, .int m.z, .bool lines, .int sg, .int e, .int r, .int p]) res ∧ Ev (fun k => F22 k [.row l, .int m.e, .int m.p, .int m.r, .int m.x, .int m.z, .bool lines, .int sg, .int e, .int r, .int p]) res ∧ WhereR l m lines sg e r p res := by
  rcases wrote l m lines 500000 with ⟨f, h0, hb, hw, hj⟩ | ⟨s, hb, hs, S, hw, hj, hle⟩
  · refine ⟨[.int 0, .int 0, .int f], ?_, ?_, .fault f h0 rfl⟩
    · unfold F21
      simp only [gt_zero, gt_succ, int_i, row_r, bool_b]
      refine Ev.bind (both32 l m h) ?_
      simp only [gt_zero, int_i]
      by_cases hz : bothK l m = 0
      · refine Ev.neg (bneI_false hz) (Ev.bind ((join43 l m lines 500000 (both_lim hz)).cast (hj hz)) ?_)
        simp only [gt_zero, gt_succ, int_i]
        exact Ev.pos (bneI_true h0) (Ev.now _)
      · have : bothK l m = f := hb.resolve_right hz
        rw [this]
        exact Ev.pos (bneI_true h0) (Ev.now _)
    · unfold F22
      simp only [gt_zero, gt_succ, int_i, row_r, bool_b]
      refine Ev.bind ((wr44 l m lines 500000 h).cast hw) ?_
      simp only [gt_zero, gt_succ, int_i]
      exact Ev.pos (bneI_true h0) (Ev.now _)
  · subst hs
    have hL := both_lim hb
    have hl2000 : l.length ≤ 2000 := hL.1
    have hpc := pc_len m lines l hL
    have hpl := pl_len (RW.segs m lines 0 RW0 l).pc
    have h21 : ∀ res, Ev (fun k => bif decide (sg < 0) || decide (sg ≥ (l.length : Int)) then some [D.int 0, .int 0, .int 1] else bif inRow sg l.length then (F45 k [D.str (((elAt l sg).c 0).s), D.row (((elAt l sg).c 1).r), D.int e, D.int r, D.int p]).bind fun ds3 =>
        bif ((gt ds3 0).i != 0) then some [D.int 0, D.int 0, D.int ((gt ds3 0).i)]
        else iter B21x0 k [D.int sg, rwD m (RW.segs m lines 0 RW0 l), D.int 0, D.int e, D.int r, D.int p, D.int 0, D.int 0] else none) res → Ev (fun k => F21 k [.row l, .int m.e, .int m.p, .int m.r, .int m.x, .int m.z, .bool lines, .int sg, .int e, .int r, .int p]) res := fun res hres => by
      unfold F21
      simp only [gt_zero, gt_succ, int_i, row_r, bool_b]
      refine Ev.bind (both32 l m h) ?_
      simp only [gt_zero, int_i]
      refine Ev.neg (bneI_false hb) (Ev.bind ((join43 l m lines 500000 hL).cast hj) ?_)
      simp only [gt_zero, gt_succ, int_i, bor2, Option.bind_some, bool_b, Bool.and_true]
      exact Ev.neg rfl hres
    have h22 : ∀ res, Ev (fun k => bif !decide (0 ≤ sg ∧ sg ≤ IntKind.i64.wrap ((l.length : Int) - 1)) then some [D.int 0, .int 0, .int 1] else bif (bif rng e r p then (0 : Int) else 1) != 0 then some [D.int 0, .int 0, .int (bif rng e r p then 0 else 1)] else
        (iter B22x0 k [D.row (WW.segs m lines 500000 0 WW0 l).pl, D.int ((WW.segs m lines 500000 0 WW0 l).pl.length : Int), D.int 0, wrD m lines (WW.segs m lines 500000 0 WW0 l), D.int sg, D.int e, D.int r, D.int p, D.int 0, D.int 0]).bind fun ds6 =>
        bif decide ((gt ds6 1).i < 0) then some [D.int 0, D.int 0, D.int 9]
        else bif (!((gt ds6 0).c 0).b) then
          bif ((inRow ((gt ds6 1).i) (((((gt ds6 0).c 1).c 7).r).length)) && true) then
           bif (!((gt ds6 0).c 0).b) then
            bif ((inRow ((gt ds6 1).i) (((((gt ds6 0).c 1).c 7).r).length)) && true) then
             some [D.int (((elAt ((((gt ds6 0).c 1).c 7).r) ((gt ds6 1).i)).c 4).i), D.int (((elAt ((((gt ds6 0).c 1).c 7).r) ((gt ds6 1).i)).c 5).i), D.int 0]
            else none
           else none
          else none
        else none) res → Ev (fun k => F22 k [.row l, .int m.e, .int m.p, .int m.r, .int m.x, .int m.z, .bool lines, .int sg, .int e, .int r, .int p]) res := fun res hres => by
      unfold F22
      simp only [gt_zero, gt_succ, int_i, row_r, bool_b]
      refine Ev.bind ((wr44 l m lines 500000 h).cast hw) ?_
      simp only [gt_zero, gt_succ, int_i, out46, rng47, Option.bind_some, bool_b]
      exact Ev.neg rfl hres
    by_cases hsg : 0 ≤ sg ∧ sg < (l.length : Int)
    case neg =>
      refine ⟨[.int 0, .int 0, .int 1], h21 _ (Ev.pos ?_ (Ev.now _)), h22 _ (Ev.pos ?_ (Ev.now _)), .fault 1 (by decide) rfl⟩
      · by_cases hz : sg < 0
        · rw [decide_eq_true hz]; rfl
        · rw [decide_eq_false hz, decide_eq_true (show sg ≥ (l.length : Int) by omega)]; rfl
      · have := hL.1
        rw [w64 (by omega) (by omega), decide_eq_false (by omega)]; rfl
    obtain ⟨hs1, hs2⟩ := hsg
    obtain ⟨lp, d, lq, hld, hlp⟩ : ∃ lp d lq, l = lp ++ d :: lq ∧ (lp.length : Int) = sg := by
      refine ⟨l.take sg.toNat, l[sg.toNat]'(by omega), l.drop (sg.toNat + 1), ?_, ?_⟩
      · exact (List.take_append_drop sg.toNat l).symm.trans (by rw [List.drop_eq_getElem_cons (by omega)])
      · rw [List.length_take]; omega
    have A := at_of hld (by have := hL.1; omega)
    have Ainr : inRow sg l.length = true := by rw [← hlp]; exact A.inr
    have Ael : elAt l sg = d := by rw [← hlp]; exact A.el
    have hd : sgK d = 0 := by
      have hck : ckS l = 0 := by
        unfold bothK at hb
        cases hc : (ckS l != 0) <;> rw [hc] at hb
        · simpa using hc
        · exact hb
      unfold ckS at hck
      rw [decide_eq_false (show ¬ (l.length : Int) > 2000 by have := hL.1; omega)] at hck
      exact fz_zero hck d (by simp [hld])
    have hdo : okSg d := h.2 d (by simp [hld])
    cases hrng : rng e r p
    · refine ⟨[.int 0, .int 0, .int 1], h21 _ (Ev.neg (by rw [decide_eq_false (by omega), decide_eq_false (by omega)]; rfl) (Ev.pos Ainr ?_)), h22 _ (Ev.neg ?_ ?_), .fault 1 (by decide) rfl⟩
      · rw [Ael]
        refine Ev.bind (spot45 d hdo hd e r p) ?_
        simp only [gt_zero, int_i]
        rw [hrng]
        exact Ev.pos rfl (Ev.now _)
      · rw [w64 (by omega) (by omega), decide_eq_true (by omega)]; rfl
      · rw [hrng]; exact Ev.pos rfl (Ev.now _)
    have he : e ≠ 0 := by
      unfold rng at hrng
      simp only [Bool.and_eq_true, decide_eq_true_eq] at hrng
      omega
    have fin : ∀ res, Ev (fun k => iter B21x0 k [D.int sg, rwD m (RW.segs m lines 0 RW0 l), D.int 0, D.int e, D.int r, D.int p, D.int 0, D.int 0]) res → Ev (fun k => F21 k [.row l, .int m.e, .int m.p, .int m.r, .int m.x, .int m.z, .bool lines, .int sg, .int e, .int r, .int p]) res := fun res hres => by
      refine h21 _ (Ev.neg (by rw [decide_eq_false (by omega), decide_eq_false (by omega)]; rfl) (Ev.pos Ainr ?_))
      rw [Ael]
      refine Ev.bind (spot45 d hdo hd e r p) ?_
      simp only [gt_zero, int_i]
      rw [hrng]
      exact Ev.neg rfl hres
    have hpl2 : (WW.segs m lines 500000 0 WW0 l).pl.length ≤ 140737488355328 := by rw [S.pl]; omega
    have hh : ∀ (hsg : (!decide (0 ≤ sg ∧ sg ≤ IntKind.i64.wrap ((l.length : Int) - 1))) = false → True), (!decide (0 ≤ sg ∧ sg ≤ IntKind.i64.wrap ((l.length : Int) - 1))) = false := fun _ => by
      rw [w64 (by omega) (by omega), decide_eq_true (by omega)]; rfl
    rcases hit_pl sg e r p he (RW.segs m lines 0 RW0 l).pc with ⟨g1, g2⟩ | ⟨q, y, w, q', y', w', g1, g2, g3, g4, g5, g6, g7, g8, g9⟩
    · refine ⟨[.int 0, .int 0, .int 9], fin _ (where21 _ (RW.segs m lines 0 RW0 l).pc sg e r p rfl rfl (by omega) _ (.inl ⟨g1, rfl⟩)), h22 _ (Ev.neg (hh fun _ => trivial) (Ev.neg (by rw [hrng]; rfl) (Ev.bind (where22 _ _ sg e r p hpl2 (-1) (.inl ⟨by rw [S.pl]; exact g2, rfl⟩)) ?_))), .fault 9 (by decide) rfl⟩
      simp only [gt_zero, gt_succ, int_i]
      exact Ev.pos rfl (Ev.now _)
    · refine ⟨[.int (y.c 5).i, .int (y.c 6).i, .int 0], fin _ (where21 _ (RW.segs m lines 0 RW0 l).pc sg e r p rfl rfl (by omega) _ (.inr ⟨q, y, w, g1, g2, g3, rfl⟩)), h22 _ (Ev.neg (hh fun _ => trivial) (Ev.neg (by rw [hrng]; rfl) (Ev.bind (where22 _ _ sg e r p hpl2 (q'.length : Int) (.inr ⟨q', y', w', by rw [S.pl]; exact g4, g5, g6, rfl⟩)) ?_))), .ok hb S hw hle hs1 hs2 hrng q y w g1 g3 g9 rfl⟩
      have B := at_of (l := (WW.segs m lines 500000 0 WW0 l).pl) (pre := q') (x := y') (post := w') (by rw [S.pl]; exact g4) hpl2
      simp only [gt_zero, gt_succ, int_i]
      have e1 : ((wrD m lines (WW.segs m lines 500000 0 WW0 l)).c 0).b = false := rfl
      have e2 : (((wrD m lines (WW.segs m lines 500000 0 WW0 l)).c 1).c 7).r = (WW.segs m lines 500000 0 WW0 l).pl := rfl
      rw [e1, e2]
      refine Ev.neg (decide_eq_false (by omega)) (Ev.pos rfl ?_)
      rw [B.inr, B.el, g7, g8]
      exact Ev.now _
end Go.Sx
