/- Segments: the program's writer, whole. -/
import Derived.Test.YtlhbonpdlghlbaaDoorSxWh
set_option linter.unusedVariables false
set_option linter.unusedSimpArgs false
namespace Go.Sx
def needP (m : Mk) (d : D) : Bool := decide (0 < cnt m d.s.data.toList)
def anyR (m : Mk) (d : D) : Bool := d.r.any (needP m)
def anyE (m : Mk) (d : D) : Bool := (d.c 0).r.any (anyR m)
def anyS (m : Mk) (d : D) : Bool := (d.c 1).r.any (anyE m)
def WW.seg (m : Mk) (lines : Bool) (i : Int) (s : WW) (d : D) : WW :=
  let s2 := WW.its m i ⟨s.b ++ tgD (d.c 0).s, s.pl, s.st ++ [.int (s.b.length : Int)], s.bad⟩ (segIts m (d.c 1).r)
  ⟨s2.b ++ [.int m.z] ++ (bif lines then [.int 10] else []), s2.pl, s2.st, s2.bad⟩
def WW.skip (m : Mk) (s : WW) (d : D) : WW := ⟨s.b, s.pl, s.st, s.bad || ((m.x == 0) && anyS m d)⟩
def WW.step (m : Mk) (lines : Bool) (most : Int) (i : Int) (s : WW) (d : D) : WW := bif decide ((s.b.length : Int) ≤ most) then s.seg m lines i d else s.skip m d
def WW.segs (m : Mk) (lines : Bool) (most : Int) : Nat → WW → List D → WW
  | _, s, [] => s
  | i, s, d :: l => WW.segs m lines most (i + 1) (WW.step m lines most (i : Int) s d) l
theorem WW.segs_snoc (m : Mk) (lines : Bool) (most : Int) : ∀ (l : List D) (i : Nat) (s : WW) (d : D), WW.segs m lines most i s (l ++ [d]) = WW.step m lines most ((i + l.length : Nat) : Int) (WW.segs m lines most i s l) d
  | [], i, s, d => rfl
  | x :: l, i, s, d => by
    show WW.segs m lines most (i + 1) _ (l ++ [d]) = _
    rw [WW.segs_snoc m lines most l (i + 1)]
    rw [show i + 1 + l.length = i + (x :: l).length by simp; omega]
    rfl
theorem WW.le_seg {m : Mk} {lines : Bool} {i : Int} {s : WW} {d : D} {n : Nat} (h : s.le n) (hd : limS d) : (s.seg m lines i d).le (n + 20001) := by
  obtain ⟨h1, h2, h3⟩ := hd
  have hl := segIts_len (m := m) h3
  have ht := segIts_tx (m := m) h3
  have a1 := h.b; have a2 := h.pl; have a3 := h.st
  have hs : WW.le ⟨s.b ++ tgD (d.c 0).s, s.pl, s.st ++ [.int (s.b.length : Int)], s.bad⟩ (n + 1) := by
    refine ⟨?_, ?_, ?_⟩
    · simp only [List.length_append, tgD_len]; omega
    · show s.pl.length ≤ _; omega
    · simp only [List.length_append, List.length_cons, List.length_nil]; omega
  have b := WW.le_its (m := m) (i := i) hs ht
  have b0 := WW.its_b (m := m) (i := i) (s := ⟨s.b ++ tgD (d.c 0).s, s.pl, s.st ++ [.int (s.b.length : Int)], s.bad⟩) ht
  simp only [List.length_append, tgD_len] at b0
  unfold WW.seg
  dsimp only
  generalize WW.its m i ⟨s.b ++ tgD (d.c 0).s, s.pl, s.st ++ [.int (s.b.length : Int)], s.bad⟩ (segIts m (d.c 1).r) = Q at b b0 ⊢
  have b2 := b.pl; have b3 := b.st
  refine ⟨?_, ?_, ?_⟩
  · simp only [List.length_append, List.length_cons, List.length_nil]
    have : (bif lines then [D.int 10] else []).length ≤ 1 := by cases lines <;> simp
    omega
  · show Q.pl.length ≤ _; omega
  · show Q.st.length ≤ _; omega
theorem WW.le_step {m : Mk} {lines : Bool} {most i : Int} {s : WW} {d : D} {n : Nat} (h : s.le n) (hd : limS d) : (s.step m lines most i d).le (n + 20001) := by
  unfold WW.step
  cases decide ((s.b.length : Int) ≤ most)
  · have a1 := h.b; have a2 := h.pl; have a3 := h.st
    exact ⟨show s.b.length ≤ _ by omega, show s.pl.length ≤ _ by omega, show s.st.length ≤ _ by omega⟩
  · exact WW.le_seg h hd
theorem WW.le_segs {m : Mk} {lines : Bool} {most : Int} : ∀ {l : List D} {i : Nat} {s : WW} {n : Nat} (_ : s.le n) (_ : ∀ d ∈ l, limS d), (WW.segs m lines most i s l).le (n + 20001 * l.length)
  | [], i, s, n, h, _ => h
  | d :: l, i, s, n, h, hd => by
    have := WW.le_segs (m := m) (lines := lines) (most := most) (l := l) (i := i + 1) (WW.le_step (m := m) (lines := lines) (most := most) (i := (i : Int)) h (hd d (by simp))) (fun x hx => hd x (by simp [hx]))
    rw [show n + 20001 * (d :: l).length = n + 20001 + 20001 * l.length by simp only [List.length_cons]; omega]
    exact this
theorem sk4 (m : Mk) (parts l els reps : List D) (lines : Bool) (most n4 i n1 e n2 rr : Int) (b pl st : List D) (hl : limR (.row parts)) :
    Ev (fun k => iter B44x4 k [.row parts, .int (parts.length : Int), .int 0, .int most, .row l, .int n4, .int i, .row els, .int n1, .int e, .row reps, .int n2, .int rr, .bool false, .bool true, .int m.e, .int m.p, .int m.r, .int m.x, .int m.z, .int m.e, .int m.p, .int m.r, .int m.x, .int m.z, .bool lines, .bool false, .row b, .row pl, .row st])
      [.int most, .row l, .int n4, .int i, .row els, .int n1, .int e, .row reps, .int n2, .int rr, .int m.e, .int m.p, .int m.r, .int m.x, .int m.z, .int m.e, .int m.p, .int m.r, .int m.x, .int m.z, .bool lines, .bool (parts.any (needP m)), .row b, .row pl, .row st] := by
  obtain ⟨hl1, hl2⟩ := hl
  rw [row_r] at hl1 hl2
  refine Ev.congr (fun q => ?_) (Ev.scan (B := B44x4) parts (fun pre => [.row parts, .int (parts.length : Int), .int (pre.length : Int), .int most, .row l, .int n4, .int i, .row els, .int n1, .int e, .row reps, .int n2, .int rr, .bool false, .bool true, .int m.e, .int m.p, .int m.r, .int m.x, .int m.z, .int m.e, .int m.p, .int m.r, .int m.x, .int m.z, .bool lines, .bool false, .row b, .row pl, .row st]) (fun _ post => [.int most, .row l, .int n4, .int i, .row els, .int n1, .int e, .row reps, .int n2, .int rr, .int m.e, .int m.p, .int m.r, .int m.x, .int m.z, .int m.e, .int m.p, .int m.r, .int m.x, .int m.z, .bool lines, .bool (post.any (needP m)), .row b, .row pl, .row st]) ?_ ?_)
  · rfl
  · refine Ev.of fun k => ?_
    unfold B44x4
    simp only [gt_zero, gt_succ, int_i, row_r, bool_b, no_more, cond_false, cond_true, List.any_nil]
  · intro pre x post go hp ih
    have a := at_of hp (by omega)
    have hx : limT x := hl2 x (by simp [hp])
    unfold limT at hx
    unfold B44x4
    simp only [gt_zero, gt_succ, int_i, str_s, row_r, bool_b, a.lt, a.inr, a.el, a.up, Bool.and_true, cond_true, cond_false, List.any_cons]
    refine Ev.bind (need67 m x.s (by omega)) ?_
    simp only [gt_zero, int_i]
    have hn : decide ((cnt m x.s.data.toList : Int) > 0) = needP m x := decide_eq_decide.2 (by omega)
    rw [hn]
    cases needP m x
    · exact ih
    · refine Ev.pos rfl ((Ev.now _).cast ?_)
      rw [decide_eq_true (show (pre.length : Int) ≥ 0 by omega)]
      rfl
section
variable {ι : Type} [Dir ι]
theorem sk5 (go : ι → List D → Option (List D)) (m : Mk) (l els reps : List D) (lines bad : Bool) (most n4 i n1 e : Int) (b pl st : List D) (r : List D) (hl : reps.length ≤ 20) (hx : ∀ x ∈ reps, limR x)
    (k : EvG (fun p_ => go p_ [.int most, .row l, .int n4, .int i, .row els, .int n1, .int (IntKind.i64.wrap (e + 1)), .int m.e, .int m.p, .int m.r, .int m.x, .int m.z, .int m.e, .int m.p, .int m.r, .int m.x, .int m.z, .bool lines, .bool (bad || ((m.x == 0) && reps.any (anyR m))), .row b, .row pl, .row st]) r) :
    EvG (fun q : ι × Nat => iter (B44x5 (go q.1)) q.2 [.int most, .row l, .int n4, .int i, .row els, .int n1, .int e, .row reps, .int (reps.length : Int), .int 0, .int m.e, .int m.p, .int m.r, .int m.x, .int m.z, .int m.e, .int m.p, .int m.r, .int m.x, .int m.z, .bool lines, .bool bad, .row b, .row pl, .row st]) r := by
  have e1 : (bad || ((m.x == 0) && ([] : List D).any (anyR m))) = bad := by cases bad <;> cases (m.x == 0) <;> rfl
  refine EvG.congr (fun q => ?_) (EvG.scan (B := fun q => B44x5 (go q)) reps (fun pre => [.int most, .row l, .int n4, .int i, .row els, .int n1, .int e, .row reps, .int (reps.length : Int), .int (pre.length : Int), .int m.e, .int m.p, .int m.r, .int m.x, .int m.z, .int m.e, .int m.p, .int m.r, .int m.x, .int m.z, .bool lines, .bool (bad || ((m.x == 0) && pre.any (anyR m))), .row b, .row pl, .row st]) (fun _ _ => r) ?_ ?_)
  · simp only [e1]; rfl
  · unfold B44x5
    simp only [gt_zero, gt_succ, int_i, row_r, bool_b, no_more, cond_false]
    exact k.fst
  · intro pre y post go2 hp ih
    have a := at_of hp (by omega)
    have hy : limR y := hx y (by simp [hp])
    have hb : (bad || ((m.x == 0) && (pre ++ [y]).any (anyR m))) = ((bad || ((m.x == 0) && pre.any (anyR m))) || ((m.x == 0) && anyR m y)) := by
      simp only [List.any_append, List.any_cons, List.any_nil, Bool.or_false]
      cases bad <;> cases (m.x == 0) <;> simp
    rw [hb] at ih
    generalize (bad || ((m.x == 0) && pre.any (anyR m))) = bd at ih ⊢
    unfold B44x5
    simp only [gt_zero, gt_succ, int_i, row_r, bool_b, a.lt, a.inr, a.el, Bool.and_true, cond_true]
    refine EvG.bind (a := [.int most, .row l, .int n4, .int i, .row els, .int n1, .int e, .row reps, .int (reps.length : Int), .int (pre.length : Int), .int m.e, .int m.p, .int m.r, .int m.x, .int m.z, .int m.e, .int m.p, .int m.r, .int m.x, .int m.z, .bool lines, .bool (bd || ((m.x == 0) && anyR m y)), .row b, .row pl, .row st]) ?_ ?_
    · cases bd
      · cases hz : (m.x == 0)
        · simp only [cond_true, cond_false]
          exact EvG.now _
        · simp only [cond_true, cond_false]
          exact Ev.snd (sk4 m y.r l els reps lines most n4 i n1 e (reps.length : Int) (pre.length : Int) b pl st hy)
      · simp only [cond_true]
        exact EvG.now _
    · simp only [gt_zero, gt_succ, int_i, row_r, bool_b, a.up]
      exact ih
end
theorem sk6 (m : Mk) (l : List D) (d : D) (lines : Bool) (most n4 i : Int) (s : WW) (hd : limS d) :
    Ev (fun k => iter B44x6 k [.int most, .row l, .int n4, .int i, .row (d.c 1).r, .int ((d.c 1).r.length : Int), .int 0, .int m.e, .int m.p, .int m.r, .int m.x, .int m.z, .int m.e, .int m.p, .int m.r, .int m.x, .int m.z, .bool lines, .bool s.bad, .row s.b, .row s.pl, .row s.st])
      [.int most, .row l, .int n4, .int i, .int m.e, .int m.p, .int m.r, .int m.x, .int m.z, .int m.e, .int m.p, .int m.r, .int m.x, .int m.z, .bool lines, .bool (s.bad || ((m.x == 0) && anyS m d)), .row s.b, .row s.pl, .row s.st] := by
  obtain ⟨_, hl1, hl2⟩ := hd
  have e1 : (s.bad || ((m.x == 0) && ([] : List D).any (anyE m))) = s.bad := by cases s.bad <;> cases (m.x == 0) <;> rfl
  refine EvG.nat (EvG.loopN (f := fun _ n => iter B44x6 n _) ?_)
  refine EvG.congr (fun q => ?_) (EvG.scan (ι := Nat) (B := fun _ => B44x6) (d.c 1).r (fun pre => [.int most, .row l, .int n4, .int i, .row (d.c 1).r, .int ((d.c 1).r.length : Int), .int (pre.length : Int), .int m.e, .int m.p, .int m.r, .int m.x, .int m.z, .int m.e, .int m.p, .int m.r, .int m.x, .int m.z, .bool lines, .bool (s.bad || ((m.x == 0) && pre.any (anyE m))), .row s.b, .row s.pl, .row s.st]) (fun _ _ => _) ?_ ?_)
  · simp only [e1]; rfl
  · unfold B44x6
    simp only [gt_zero, gt_succ, int_i, row_r, bool_b, no_more, cond_false]
    exact EvG.now _
  · intro pre x post go hp ih
    have a := at_of hp (by omega)
    obtain ⟨hr1, hr2⟩ := hl2 x (by simp [hp])
    have hb : (s.bad || ((m.x == 0) && (pre ++ [x]).any (anyE m))) = ((s.bad || ((m.x == 0) && pre.any (anyE m))) || ((m.x == 0) && anyE m x)) := by
      simp only [List.any_append, List.any_cons, List.any_nil, Bool.or_false]
      cases s.bad <;> cases (m.x == 0) <;> simp
    rw [hb] at ih
    unfold B44x6
    simp only [gt_zero, gt_succ, int_i, row_r, bool_b, a.lt, a.inr, a.el, Bool.and_true, cond_true]
    refine EvG.loop (f := fun p n => iter (B44x5 (go p)) n _) ?_
    refine sk5 go m l (d.c 1).r (x.c 0).r lines _ most n4 i _ (pre.length : Int) s.b s.pl s.st _ hr1 hr2 ?_
    rw [a.up]
    exact ih
def nilD : D := .agg [.bool true, .int 0]
def WW0 : WW := ⟨[], [], [], false⟩
def wrD (m : Mk) (lines : Bool) (s : WW) : D := .agg [.bool false, .agg [.int m.e, .int m.p, .int m.r, .int m.x, .int m.z, .bool lines, .row s.b, .row s.pl, .row s.st, .bool s.bad]]
def wrK (l : List D) (m : Mk) (lines : Bool) (most : Int) : List D :=
  bif bothK l m != 0 then [nilD, .int (bothK l m)]
  else bif (WW.segs m lines most 0 WW0 l).bad then [nilD, .int 3]
  else bif decide (((WW.segs m lines most 0 WW0 l).b.length : Int) > most) then [nilD, .int 2]
  else [wrD m lines (WW.segs m lines most 0 WW0 l), .int 0]
theorem wr44 (l : List D) (m : Mk) (lines : Bool) (most : Int) (h : okR okSg l) : Ev (fun k => F44 k [.row l, .int m.e, .int m.p, .int m.r, .int m.x, .int m.z, .bool lines, .int most]) (wrK l m lines most) := by
  unfold F44 wrK
  simp only [gt_zero, gt_succ, int_i, row_r, bool_b]
  refine Ev.bind (both34 l m h) ?_
  simp only [gt_zero, int_i]
  cases hbk : (bothK l m != 0)
  case true => exact Ev.now _
  obtain ⟨hl1, hl2⟩ := both_lim (show bothK l m = 0 by simpa using hbk)
  simp only [cond_false]
  refine Ev.congr (fun q => ?_) (Ev.scan (B := B44x7) l (fun pre => [.int most, .row l, .int (l.length : Int), .int (pre.length : Int), .int m.e, .int m.p, .int m.r, .int m.x, .int m.z, .int m.e, .int m.p, .int m.r, .int m.x, .int m.z, .bool lines, .bool (WW.segs m lines most 0 WW0 pre).bad, .row (WW.segs m lines most 0 WW0 pre).b, .row (WW.segs m lines most 0 WW0 pre).pl, .row (WW.segs m lines most 0 WW0 pre).st]) (fun _ _ => _) ?_ ?_)
  · rfl
  · unfold B44x7
    simp only [gt_zero, gt_succ, int_i, row_r, bool_b, no_more, cond_false]
    cases hbd : (WW.segs m lines most 0 WW0 l).bad
    · cases decide (((WW.segs m lines most 0 WW0 l).b.length : Int) > most)
      · refine (Ev.now _).cast ?_
        simp only [cond_false, wrD, hbd]
      · exact Ev.now _
    · exact Ev.now _
  · intro pre d post go hp ih
    have A := at_of hp (by omega)
    have hpl : pre.length ≤ 2000 := by have := congrArg List.length hp; simp at this; omega
    have hd : limS d := hl2 d (by simp [hp])
    have hle := WW.le_segs (m := m) (lines := lines) (most := most) (i := 0) (l := pre) (s := WW0) (n := 0) ⟨by simp [WW0], by simp [WW0], by simp [WW0]⟩ (fun z hz => hl2 z (by simp [hp, hz]))
    rw [WW.segs_snoc, Nat.zero_add] at ih
    generalize hS : WW.segs m lines most 0 WW0 pre = S at ih hle ⊢
    have h1 := hle.b; have h2 := hle.pl; have h3 := hle.st
    have htg := hd.1
    unfold B44x7
    simp only [gt_zero, gt_succ, int_i, row_r, bool_b, A.inr, A.el, A.lt, Bool.and_true, cond_true]
    refine Ev.bind (a := [.int most, .row l, .int (l.length : Int), .int (pre.length : Int), .int m.e, .int m.p, .int m.r, .int m.x, .int m.z, .int m.e, .int m.p, .int m.r, .int m.x, .int m.z, .bool lines, .bool (S.step m lines most (pre.length : Int) d).bad, .row (S.step m lines most (pre.length : Int) d).b, .row (S.step m lines most (pre.length : Int) d).pl, .row (S.step m lines most (pre.length : Int) d).st]) ?_ ?_
    · unfold WW.step
      cases decide ((S.b.length : Int) ≤ most)
      · exact sk6 m l d lines most (l.length : Int) (pre.length : Int) S hd
      · refine Ev.pos rfl (Ev.pos (needOk_yes (by simp only [List.length_cons, List.length_nil]; omega)) (Ev.pos (needOk_yes (by rw [show (List.map (fun c => D.int ((UInt8.toNat c) : Int)) (ByteArray.toList (d.c 0).s)).length = (d.c 0).s.size from tgD_len _]; omega)) ?_))
        refine el44 m l d lines (pre.length : Int) (pre.length : Int) (l.length : Int) most ⟨S.b ++ tgD (d.c 0).s, S.pl, S.st ++ [.int (S.b.length : Int)], S.bad⟩ (0 + 20001 * pre.length + 1) hd ?_ (by omega)
        refine ⟨?_, ?_, ?_⟩
        · simp only [List.length_append, tgD_len]; omega
        · show S.pl.length ≤ _; omega
        · simp only [List.length_append, List.length_cons, List.length_nil]; omega
    · simp only [gt_zero, gt_succ, int_i, row_r, bool_b, A.up]
      exact ih
end Go.Sx
