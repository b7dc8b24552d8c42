/- Segments: the best marks (row 12). -/
import Derived.Test.YtlhbonpdlghlbaaDoorSxWf
set_option linter.unusedVariables false
set_option linter.unusedSimpArgs false
namespace Go.Sx
def mkOf (d : D) : Mk := ⟨(d.c 0).i, (d.c 1).i, (d.c 2).i, (d.c 3).i, (d.c 4).i⟩
def mkK (d : D) : Int := (mkOf d).ck
/-- What a set of marks costs. -/
def cst (l : List D) (d : D) : Int := (sL (mkOf d) l : Int)
def fit (l : List D) (d : D) : Bool := ((mkOf d).x != 0) || (cst l d == 0)
def bst1 (l : List D) (i : Int) (p : Int × Int) (d : D) : Int × Int := bif fit l d && (decide (p.1 < 0) || decide (cst l d < p.2)) then (i, cst l d) else p
def bst (l : List D) : Nat → Int × Int → List D → Int × Int
  | _, p, [] => p
  | i, p, d :: s => bst l (i + 1) (bst1 l (i : Int) p d) s
theorem bst_snoc (l : List D) : ∀ (s : List D) (i : Nat) (p : Int × Int) (d : D), bst l i p (s ++ [d]) = bst1 l ((i + s.length : Nat) : Int) (bst l i p s) d
  | [], i, p, d => rfl
  | x :: s, i, p, d => by
    show bst l (i + 1) _ (s ++ [d]) = _
    rw [bst_snoc l s (i + 1), show i + 1 + s.length = i + (x :: s).length by simp; omega]
    rfl
def bestK (l s : List D) : List D :=
  bif ckS l != 0 then [.int 0, .int (ckS l)]
  else bif ((s.length : Int) == 0) then [.int 0, .int 9]
  else bif decide ((s.length : Int) > 50) then [.int 0, .int 2]
  else bif fz mkK s != 0 then [.int 0, .int (fz mkK s)]
  else bif decide ((bst l 0 (-1, 0) s).1 < 0) then [.int 0, .int 9] else [.int (bst l 0 (-1, 0) s).1, .int 0]
theorem wr33' (l : List D) (d : D) (h : limL l) : Ev (fun k => F33 k [.row l, .int (d.c 0).i, .int (d.c 1).i, .int (d.c 2).i, .int (d.c 3).i, .int (d.c 4).i, .bool false]) [.agg [.bool false, .agg [.int (d.c 0).i, .int (d.c 1).i, .int (d.c 2).i, .int (d.c 3).i, .int (d.c 4).i, .row (RW.segs (mkOf d) false 0 ⟨[], [], 0⟩ l).out, .row (RW.segs (mkOf d) false 0 ⟨[], [], 0⟩ l).pc, .int (cst l d)]]] := by
  have := wr33 l (mkOf d) false h
  rw [segs_esc] at this
  simp only [Int.zero_add] at this
  exact this
theorem best16 (l s : List D) (h : okR okSg l) (hs : s.length ≤ 140737488355328) : Ev (fun k => F16 k [.row l, .row s]) (bestK l s) := by
  unfold F16 bestK
  simp only [gt_zero, gt_succ, row_r]
  refine Ev.bind (ck13 l h) ?_
  simp only [gt_zero, int_i]
  cases hc : (ckS l != 0)
  case true => exact Ev.now _
  have hL : limL l := lim_l (by simpa using hc)
  cases ((s.length : Int) == 0)
  case true => exact Ev.now _
  cases decide ((s.length : Int) > 50)
  case true => exact Ev.now _
  simp only [cond_false]
  refine EvG.nat (EvG.loopN (f := fun _ n => iter B16x1 n _) ?_)
  refine EvG.congr (fun q => ?_) (EvG.scan (ι := Nat) (B := fun _ => B16x1) s (fun pre => [.row l, .row s, .int (pre.length : Int)]) (fun _ post => bif fz mkK post != 0 then [.int 0, .int (fz mkK post)] else bif decide ((bst l 0 (-1, 0) s).1 < 0) then [.int 0, .int 9] else [.int (bst l 0 (-1, 0) s).1, .int 0]) ?_ ?_)
  · rfl
  · unfold B16x1
    simp only [gt_zero, gt_succ, int_i, row_r, no_more, cond_false]
    refine EvG.loop (f := fun p n => iter B16x0 n _) ?_
    refine EvG.congr (fun q => ?_) (EvG.scan (ι := Nat × Nat) (B := fun _ => B16x0) s (fun pre => [.row l, .row s, .int (bst l 0 (-1, 0) pre).1, .int (bst l 0 (-1, 0) pre).2, .int (pre.length : Int)]) (fun _ _ => _) ?_ ?_)
    · rfl
    · unfold B16x0
      simp only [gt_zero, gt_succ, int_i, row_r, no_more, cond_false]
      cases decide ((bst l 0 (-1, 0) s).1 < 0) <;> exact EvG.now _
    · intro pre d post go hp ih
      have a := at_of hp hs
      rw [bst_snoc, Nat.zero_add] at ih
      generalize bst l 0 (-1, 0) pre = P at ih ⊢
      unfold B16x0
      simp only [gt_zero, gt_succ, int_i, row_r, a.lt, a.inr, a.el, a.up, Bool.and_true, cond_true]
      refine EvG.bind (a := [.int (bst1 l (pre.length : Int) P d).1, .int (bst1 l (pre.length : Int) P d).2]) ?_ ?_
      · refine EvG.bind (Ev.snd (wr33' l d hL)) ?_
        have e7 : (((gt [D.agg [.bool false, .agg [.int (d.c 0).i, .int (d.c 1).i, .int (d.c 2).i, .int (d.c 3).i, .int (d.c 4).i, .row (RW.segs (mkOf d) false 0 ⟨[], [], 0⟩ l).out, .row (RW.segs (mkOf d) false 0 ⟨[], [], 0⟩ l).pc, .int (cst l d)]]] 0).c 1).c 7).i = cst l d := rfl
        refine EvG.pos rfl ?_
        rw [e7]
        have e8 : (d.c 3).i = (mkOf d).x := rfl
        rw [e8]
        unfold bst1 fit
        cases ((mkOf d).x != 0) <;> cases (cst l d == 0) <;> cases decide (P.1 < 0) <;> cases decide (cst l d < P.2) <;> exact EvG.now _
      · simp only [gt_zero, gt_succ, int_i]
        exact ih
  · intro pre d post go hp ih
    have a := at_of hp hs
    unfold B16x1
    simp only [gt_zero, gt_succ, int_i, row_r, a.lt, a.inr, a.el, a.up, Bool.and_true, cond_true]
    refine EvG.bind (Ev.snd (ck11 (mkOf d))) ?_
    simp only [gt_zero, int_i, fz]
    cases h9 : (mkK d != 0) <;> rw [show ((mkOf d).ck != 0) = (mkK d != 0) from rfl, h9]
    · exact ih
    · simp only [cond_true, h9]; exact EvG.now _
theorem best17 (l s : List D) (h : okR okSg l) (hs : s.length ≤ 140737488355328) : Ev (fun k => F17 k [.row l, .row s]) (bestK l s) := by
  unfold F17 bestK
  simp only [gt_zero, gt_succ, row_r]
  refine Ev.bind (ck14 l h) ?_
  simp only [gt_zero, int_i]
  cases hc : (ckS l != 0)
  case true => exact Ev.now _
  have hL : limL l := lim_l (by simpa using hc)
  cases ((s.length : Int) == 0)
  case true => exact Ev.now _
  cases decide ((s.length : Int) > 50)
  case true => exact Ev.now _
  simp only [cond_false]
  refine EvG.nat (EvG.loopN (f := fun _ n => iter B17x1 n _) ?_)
  refine EvG.congr (fun q => ?_) (EvG.scan (ι := Nat) (B := fun _ => B17x1) s (fun pre => [.row l, .row s, .row s, .int (s.length : Int), .int (pre.length : Int)]) (fun _ post => bif fz mkK post != 0 then [.int 0, .int (fz mkK post)] else bif decide ((bst l 0 (-1, 0) s).1 < 0) then [.int 0, .int 9] else [.int (bst l 0 (-1, 0) s).1, .int 0]) ?_ ?_)
  · rfl
  · unfold B17x1
    simp only [gt_zero, gt_succ, int_i, row_r, no_more, cond_false]
    refine EvG.loop (f := fun p n => iter B17x0 n _) ?_
    refine EvG.congr (fun q => ?_) (EvG.scan (ι := Nat × Nat) (B := fun _ => B17x0) s (fun pre => [.row l, .int (bst l 0 (-1, 0) pre).1, .int (bst l 0 (-1, 0) pre).2, .row s, .int (s.length : Int), .int (pre.length : Int)]) (fun _ _ => _) ?_ ?_)
    · rfl
    · unfold B17x0
      simp only [gt_zero, gt_succ, int_i, row_r, no_more, cond_false]
      cases decide ((bst l 0 (-1, 0) s).1 < 0) <;> exact EvG.now _
    · intro pre d post go hp ih
      have a := at_of hp hs
      rw [bst_snoc, Nat.zero_add] at ih
      generalize bst l 0 (-1, 0) pre = P at ih ⊢
      unfold B17x0
      simp only [gt_zero, gt_succ, int_i, row_r, a.lt, a.inr, a.el, Bool.and_true, cond_true]
      refine EvG.bind (a := [.row l, .int (bst1 l (pre.length : Int) P d).1, .int (bst1 l (pre.length : Int) P d).2, .row s, .int (s.length : Int), .int (pre.length : Int)]) ?_ ?_
      · refine EvG.bind (Ev.snd (esc35 l (mkOf d) hL)) ?_
        simp only [gt_zero, int_i]
        rw [show (sL (mkOf d) l : Int) = cst l d from rfl]
        have e8 : (d.c 3).i = (mkOf d).x := rfl
        rw [e8]
        unfold bst1 fit
        cases ((mkOf d).x != 0) <;> cases (cst l d == 0) <;> cases decide (P.1 < 0) <;> cases decide (cst l d < P.2) <;> exact EvG.now _
      · simp only [gt_zero, gt_succ, int_i, row_r, a.up]
        exact ih
  · intro pre d post go hp ih
    have a := at_of hp hs
    unfold B17x1
    simp only [gt_zero, gt_succ, int_i, row_r, a.lt, a.inr, a.el, a.up, Bool.and_true, cond_true]
    refine EvG.bind (Ev.snd (ck12 (mkOf d))) ?_
    simp only [gt_zero, int_i, fz]
    cases h9 : (mkK d != 0) <;> rw [show ((mkOf d).ck != 0) = (mkK d != 0) from rfl, h9]
    · exact ih
    · simp only [cond_true, h9]; exact EvG.now _
/-- The best one is one of them, and none that can be taken costs less. -/
theorem bst_inv (l : List D) : ∀ (n : Nat) (s : List D), s.length = n → ((bst l 0 (-1, 0) s).1 < 0 ∧ ∀ d ∈ s, fit l d = false) ∨ ∃ q y w, s = q ++ y :: w ∧ (bst l 0 (-1, 0) s).1 = (q.length : Int) ∧ (bst l 0 (-1, 0) s).2 = cst l y ∧ ∀ d ∈ s, fit l d = true → cst l y ≤ cst l d := by
  intro n
  induction n with
  | zero =>
    intro s hs
    obtain rfl := List.eq_nil_of_length_eq_zero hs
    exact .inl ⟨show (-1 : Int) < 0 by decide, fun d hd => by simp at hd⟩
  | succ n ih =>
    intro s hs
    obtain ⟨s', d, rfl⟩ : ∃ s' d, s = s' ++ [d] := by
      rcases List.eq_nil_or_concat s with rfl | ⟨s', d, rfl⟩
      · simp at hs
      · exact ⟨s', d, by simp⟩
    have hs' : s'.length = n := by simpa using hs
    rw [bst_snoc, Nat.zero_add]
    rcases ih s' hs' with ⟨h1, h2⟩ | ⟨q, y, w, h1, h2, h3, h4⟩
    · unfold bst1
      rw [decide_eq_true h1]
      cases hf : fit l d
      · refine .inl ⟨by simpa using h1, fun z hz => ?_⟩
        rcases List.mem_append.1 hz with hz | hz
        · exact h2 z hz
        · rw [List.mem_singleton.1 hz]; exact hf
      · refine .inr ⟨s', d, [], by simp, by simp, by simp, fun z hz hfz => ?_⟩
        rcases List.mem_append.1 hz with hz | hz
        · rw [h2 z hz] at hfz; cases hfz
        · rw [List.mem_singleton.1 hz]; exact Int.le_refl _
    · unfold bst1
      rw [h2, h3, decide_eq_false (show ¬ (q.length : Int) < 0 by omega)]
      by_cases hc : fit l d = true ∧ cst l d < cst l y
      · rw [hc.1, decide_eq_true hc.2]
        refine .inr ⟨s', d, [], by simp, by simp, by simp, fun z hz hfz => ?_⟩
        rcases List.mem_append.1 hz with hz | hz
        · have := h4 z hz hfz; have := hc.2; omega
        · rw [List.mem_singleton.1 hz]; exact Int.le_refl _
      · have hcb : (fit l d && (false || decide (cst l d < cst l y))) = false := by
          cases hf : fit l d
          · rfl
          · rw [decide_eq_false (fun h => hc ⟨hf, h⟩)]; rfl
        rw [hcb]
        refine .inr ⟨q, y, w ++ [d], by rw [h1]; simp, h2, h3, fun z hz hfz => ?_⟩
        rcases List.mem_append.1 hz with hz | hz
        · exact h4 z hz hfz
        · rw [List.mem_singleton.1 hz] at hfz ⊢
          exact Int.not_lt.1 fun h => hc ⟨hfz, h⟩
theorem law4 (l s : List D) (h : okR okSg l) (hs : s.length ≤ 140737488355328) : Ev (fun k => F4 k [.row l, .row s]) [.bool true] := by
  unfold F4
  simp only [gt_zero, gt_succ, row_r]
  refine Ev.bind (best16 l s h hs) (Ev.bind (best17 l s h hs) ?_)
  rw [bneI_false rfl, bneI_false rfl]
  simp only [cond_false, Option.bind_some, gt_zero, bool_b]
  have aw : Ev (fun k => (F15 k []).bind fun ds3 => some [D.bool (gt ds3 0).b]) [.bool true] := by
    refine Ev.bind awake15 ?_
    simp only [gt_zero, bool_b]
    exact Ev.now _
  cases hc : (ckS l != 0)
  case true =>
    have hb : bestK l s = [.int 0, .int (ckS l)] := by unfold bestK; rw [hc]; rfl
    rw [hb]
    exact Ev.pos hc aw
  cases hc1 : ((s.length : Int) == 0)
  case true =>
    have hb : bestK l s = [.int 0, .int 9] := by unfold bestK; rw [hc, hc1]; rfl
    rw [hb]
    exact Ev.pos rfl aw
  cases hc2 : decide ((s.length : Int) > 50)
  case true =>
    have hb : bestK l s = [.int 0, .int 2] := by unfold bestK; rw [hc, hc1, hc2]; rfl
    rw [hb]
    exact Ev.pos rfl aw
  cases hc3 : (fz mkK s != 0)
  case true =>
    have hb : bestK l s = [.int 0, .int (fz mkK s)] := by unfold bestK; rw [hc, hc1, hc2, hc3]; rfl
    rw [hb]
    exact Ev.pos hc3 aw
  have hck : ckS l = 0 := by simpa using hc
  have hm0 : ∀ d ∈ s, (mkOf d).ck = 0 := fz_zero (f := mkK) (by simpa using hc3)
  have hbo : ∀ d ∈ s, escK l (mkOf d) = [.int (cst l d), .int 0] := fun d hd => by
    have : bothK l (mkOf d) = 0 := by unfold bothK; rw [hc]; exact hm0 d hd
    unfold escK
    rw [this]
    rfl
  rcases bst_inv l _ s rfl with ⟨h1, h2⟩ | ⟨q, y, w, h1, h2, h3, h4⟩
  · have hb : bestK l s = [.int 0, .int 9] := by unfold bestK; rw [hc, hc1, hc2, hc3, decide_eq_true h1]; rfl
    rw [hb]
    exact Ev.pos rfl aw
  · have hb : bestK l s = [.int (q.length : Int), .int 0] := by unfold bestK; rw [hc, hc1, hc2, hc3, h2, decide_eq_false (show ¬ (q.length : Int) < 0 by omega)]; rfl
    rw [hb]
    have a := at_of h1 hs
    simp only [gt_zero, gt_succ, int_i, a.inr, a.el, Bool.and_true]
    refine Ev.neg rfl (Ev.pos rfl (Ev.bind ((esc10 l (mkOf y) h).cast (hbo y (by simp [h1]))) ?_))
    simp only [gt_zero, gt_succ, int_i]
    refine Ev.neg rfl ?_
    refine EvG.nat (EvG.loopN (f := fun _ n => iter B4x0 n _) ?_)
    refine EvG.congr (fun _ => ?_) (EvG.scan (ι := Nat) (B := fun _ => B4x0) s (fun pre => [.row l, .row s, .int (cst l y), .int (pre.length : Int)]) (fun _ _ => [.bool true]) ?_ ?_)
    · rfl
    · unfold B4x0
      simp only [gt_zero, gt_succ, int_i, row_r, no_more, cond_false]
      exact Ev.snd aw
    · intro pre d post go hp ih
      have b := at_of hp hs
      unfold B4x0
      simp only [gt_zero, gt_succ, int_i, row_r, b.lt, b.inr, b.el, b.up, Bool.and_true, cond_true]
      refine EvG.bind (Ev.snd ((esc10 l (mkOf d) h).cast (hbo d (by simp [hp])))) ?_
      simp only [gt_zero, gt_succ, int_i]
      rw [bneI_false rfl]
      rw [show (d.c 3).i = (mkOf d).x from rfl]
      have hh : (bif ((mkOf d).x != 0) then some [D.bool (decide (cst l d < cst l y))] else some [D.bool false]) = some [D.bool false] := by
        cases hx : ((mkOf d).x != 0)
        · rfl
        · have := h4 d (by simp [hp]) (by unfold fit; rw [hx]; rfl)
          rw [decide_eq_false (by omega)]
          rfl
      rw [hh]
      simp only [cond_false, Option.bind_some, gt_zero, bool_b]
      exact ih
theorem pure4 : ∀ xs, GoodL (tyTab TL) ([24, 32].flatMap fun t => (tyTab TL t).cells) xs → ∃ k, K4.f k xs = some [.bool true] := fun xs ⟨hl, hg⟩ => by
  have hl2 : xs.length = 2 := hl
  obtain ⟨a, b, rfl⟩ : ∃ a b, xs = [a, b] := by
    match xs, hl2 with
    | [a, b], _ => exact ⟨a, b, rfl⟩
  obtain ⟨l, rfl, hx⟩ := okL_of (hg 0 (.sl 53) a rfl rfl)
  obtain ⟨s, rfl, hs, _, _⟩ := (hg 1 (.sl 23) b rfl rfl).sl_inv
  have hs : s.length * 5 ≤ 140737488351232 := hs
  exact (law4 l s hx (by omega)).ex
end Go.Sx
