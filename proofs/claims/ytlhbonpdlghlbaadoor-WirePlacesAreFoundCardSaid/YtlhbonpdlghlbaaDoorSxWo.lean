/- Segments: places are as specified (row 18). -/
import Derived.Test.YtlhbonpdlghlbaaDoorSxWn
set_option linter.unusedVariables false
set_option linter.unusedSimpArgs false
namespace Go.Sx
theorem its_pc (m : Mk) (i : Int) : ∀ (l : List Pt) (s : RW), s.pc <+: (s.its m i l).pc
  | [], s => List.prefix_refl _
  | it :: l, s => (List.prefix_append s.pc _).trans (its_pc m i l (s.it m i it))
theorem seg_pc (m : Mk) (lines : Bool) (i : Int) (s : RW) (d : D) : s.pc ++ [.agg [.int i, .int 0, .int 0, .int 0, .int (s.out.length : Int), .int (s.out.length : Int), .int ((s.out.length : Int) + ((d.c 0).s.size : Int))]] <+: (s.seg m lines i d).pc := by
  unfold RW.seg
  dsimp only
  exact its_pc m i (segIts m (d.c 1).r) ⟨s.out ++ tgD (d.c 0).s, s.pc ++ [.agg [.int i, .int 0, .int 0, .int 0, .int (s.out.length : Int), .int (s.out.length : Int), .int ((s.out.length : Int) + ((d.c 0).s.size : Int))]], s.esc⟩
theorem segs_pc (m : Mk) (lines : Bool) : ∀ (l : List D) (i : Nat) (s : RW), s.pc <+: (RW.segs m lines i s l).pc
  | [], i, s => List.prefix_refl _
  | d :: l, i, s => ((List.prefix_append s.pc _).trans (seg_pc m lines (i : Int) s d)).trans (segs_pc m lines l (i + 1) (s.seg m lines (i : Int) d))
theorem pc_head (m : Mk) (lines : Bool) (d : D) (l : List D) : ∃ z t, (RW.segs m lines 0 RW0 (d :: l)).pc = z :: t ∧ bgP z = 0 := by
  obtain ⟨t, h⟩ := (seg_pc m lines ((0 : Nat) : Int) RW0 d).trans (segs_pc m lines l 1 (RW0.seg m lines ((0 : Nat) : Int) d))
  exact ⟨_, t, h.symm, rfl⟩
theorem spot_both (l : List D) (m : Mk) (lines : Bool) (at_ : Int) (h : okR okSg l) : ∃ a b c d f, Ev (fun k => F23 k [.row l, .int m.e, .int m.p, .int m.r, .int m.x, .int m.z, .bool lines, .int at_]) [.int a, .int b, .int c, .int d, .int f] ∧ Ev (fun k => F24 k [.row l, .int m.e, .int m.p, .int m.r, .int m.x, .int m.z, .bool lines, .int at_]) [.int a, .int b, .int c, .int d, .int f] := by
  rcases wrote l m lines 500000 with ⟨f, h0, hb, hw, hj⟩ | ⟨s, hb, hs, S, hw, hj, hle⟩
  · refine ⟨0, 0, 0, 0, f, ?_, ?_⟩
    · unfold F23
      simp only [gt_zero, gt_succ, int_i, row_r, bool_b]
      refine Ev.bind (both32 l m h) ?_
      simp only [gt_zero, int_i]
      by_cases hz : bothK l m = 0
      · refine Ev.neg (bneI_false hz) (Ev.bind ((join43 l m lines 500000 (both_lim hz)).cast (hj hz)) ?_)
        simp only [gt_zero, gt_succ, int_i]
        exact Ev.pos (bneI_true h0) (Ev.now _)
      · have : bothK l m = f := hb.resolve_right hz
        rw [this]
        exact Ev.pos (bneI_true h0) (Ev.now _)
    · unfold F24
      simp only [gt_zero, gt_succ, int_i, row_r, bool_b]
      refine Ev.bind ((wr44 l m lines 500000 h).cast hw) ?_
      simp only [gt_zero, gt_succ, int_i]
      exact Ev.pos (bneI_true h0) (Ev.now _)
  · subst hs
    have hL := both_lim hb
    by_cases hr : 0 ≤ at_ ∧ at_ < ((RW.segs m lines 0 RW0 l).out.length : Int)
    · have I := segs_inv m lines l hL.2 hL.1
      obtain ⟨P, Q, hp, h1, h2⟩ := cut_at at_ (srt_bg 0 I.num I.srt)
      have hP : P ≠ [] := fun e => by
        cases l with
        | nil => have := hr.2; simp only [RW.segs, RW0, List.length_nil] at this; omega
        | cons d l =>
          obtain ⟨z, t, hz, hz0⟩ := pc_head m lines d l
          rw [e, List.nil_append, hz] at hp
          have := h2 z (by rw [← hp]; simp)
          omega
      rcases List.eq_nil_or_concat P with e | ⟨P', z, e⟩
      · exact absurd e hP
      · rw [List.concat_eq_append] at e
        subst e
        have hp3 : (RW.segs m lines 0 RW0 l).pc = P' ++ z :: Q := by rw [hp]; simp
        obtain ⟨e1, e2⟩ := spot_ok l m lines at_ h hb S hw hj hle hr.1 hr.2 P' Q z hp3 (fun y hy => h1 y (by simp [hy])) (h1 z (by simp)) h2
        exact ⟨_, _, _, _, _, e1, e2⟩
    · refine ⟨0, 0, 0, 0, 1, ?_, ?_⟩
      · unfold F23
        simp only [gt_zero, gt_succ, int_i, row_r, bool_b]
        refine Ev.bind (both32 l m h) ?_
        simp only [gt_zero, int_i]
        refine Ev.neg (bneI_false hb) (Ev.bind ((join43 l m lines 500000 hL).cast hj) ?_)
        simp only [gt_zero, gt_succ, int_i]
        refine Ev.neg rfl (Ev.bind (a := [.bool true]) ?_ ?_)
        · by_cases hz : at_ < 0
          · exact Ev.pos (decide_eq_true hz) (Ev.now _)
          · refine Ev.neg (decide_eq_false hz) (Ev.pos rfl ((Ev.now _).cast ?_))
            show [D.bool (decide (at_ ≥ ((RW.segs m lines 0 RW0 l).out.length : Int)))] = _
            rw [decide_eq_true (by omega)]
        · simp only [gt_zero, bool_b, cond_true]
          exact Ev.now _
      · unfold F24
        simp only [gt_zero, gt_succ, int_i, row_r, bool_b]
        refine Ev.bind ((wr44 l m lines 500000 h).cast hw) ?_
        simp only [gt_zero, gt_succ, int_i, out46, Option.bind_some, bool_b]
        have e6 : (((wrD m lines (WW.segs m lines 500000 0 WW0 l)).c 1).c 6).r = (RW.segs m lines 0 RW0 l).out := S.b
        rw [e6]
        have hble : ((RW.segs m lines 0 RW0 l).out.length : Int) ≤ 500000 := by rw [← S.b]; exact hle
        rw [w64 (by omega) (by omega), decide_eq_false (show ¬ (0 ≤ at_ ∧ at_ ≤ ((RW.segs m lines 0 RW0 l).out.length : Int) - 1) by omega)]
        exact Ev.neg rfl (Ev.pos rfl (Ev.pos rfl (Ev.now _)))
theorem whereR3 {l : List D} {m : Mk} {lines : Bool} {sg e r p : Int} {res : List D} (h : WhereR l m lines sg e r p res) : ∃ a b c, res = [.int a, .int b, .int c] := by
  cases h with
  | fault f h0 hr => exact ⟨_, _, _, hr⟩
  | ok _ _ _ _ _ _ _ _ _ _ _ _ _ hr => exact ⟨_, _, _, hr⟩
theorem law6 (l : List D) (m : Mk) (lines : Bool) (sg e r p at_ : Int) (h : okR okSg l) : Ev (fun k => F6 k [.row l, .int m.e, .int m.p, .int m.r, .int m.x, .int m.z, .bool lines, .int sg, .int e, .int r, .int p, .int at_]) [.bool true] := by
  obtain ⟨res, w1, w2, hR⟩ := where_both l m lines sg e r p h
  obtain ⟨a, b, c, rfl⟩ := whereR3 hR
  obtain ⟨a2, b2, c2, d2, f2, s1, s2⟩ := spot_both l m lines at_ h
  unfold F6
  simp only [gt_zero, gt_succ, int_i, row_r, bool_b]
  refine Ev.bind w1 (Ev.bind w2 (Ev.bind s1 (Ev.bind s2 ?_)))
  simp only [gt_zero, gt_succ, int_i, beq_self_eq_true, Bool.and_true, cond_true]
  refine Ev.bind awake15 ?_
  simp only [gt_zero, bool_b]
  exact Ev.now _
theorem pure6 : ∀ xs, GoodL (tyTab TL) ([24, 23, 4, 3, 41, 3].flatMap fun t => (tyTab TL t).cells) xs → ∃ k, K6.f k xs = some [.bool true] := fun xs ⟨hl, hg⟩ => by
  have hl2 : xs.length = 12 := hl
  obtain ⟨f, a, b, c, d, e, g, s, x, y, z, q, rfl⟩ : ∃ f a b c d e g s x y z q, xs = [f, a, b, c, d, e, g, s, x, y, z, q] := by
    match xs, hl2 with
    | [f, a, b, c, d, e, g, s, x, y, z, q], _ => exact ⟨f, a, b, c, d, e, g, s, x, y, z, q, rfl⟩
  obtain ⟨l, rfl, hx⟩ := okL_of (hg 0 (.sl 53) f rfl rfl)
  obtain ⟨m1, rfl, _⟩ := GoodC.int_inv (hg 1 (.int .u8) a rfl rfl)
  obtain ⟨m2, rfl, _⟩ := GoodC.int_inv (hg 2 (.int .u8) b rfl rfl)
  obtain ⟨m3, rfl, _⟩ := GoodC.int_inv (hg 3 (.int .u8) c rfl rfl)
  obtain ⟨m4, rfl, _⟩ := GoodC.int_inv (hg 4 (.int .u8) d rfl rfl)
  obtain ⟨m5, rfl, _⟩ := GoodC.int_inv (hg 5 (.int .u8) e rfl rfl)
  obtain ⟨lines, rfl⟩ := (hg 6 .bool g rfl rfl).bool_inv
  obtain ⟨n1, rfl, _⟩ := GoodC.int_inv (hg 7 (.int .i64) s rfl rfl)
  obtain ⟨n2, rfl, _⟩ := GoodC.int_inv (hg 8 (.int .i64) x rfl rfl)
  obtain ⟨n3, rfl, _⟩ := GoodC.int_inv (hg 9 (.int .i64) y rfl rfl)
  obtain ⟨n4, rfl, _⟩ := GoodC.int_inv (hg 10 (.int .i64) z rfl rfl)
  obtain ⟨n5, rfl, _⟩ := GoodC.int_inv (hg 11 (.int .i64) q rfl rfl)
  exact (law6 l ⟨m1, m2, m3, m4, m5⟩ lines n1 n2 n3 n4 n5 hx).ex
end Go.Sx
