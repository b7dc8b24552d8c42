/- Segments: the program's writer. -/
import Derived.Test.YtlhbonpdlghlbaaDoorSxWe
set_option linter.unusedVariables false
set_option linter.unusedSimpArgs false
namespace Go.Sx
structure WW where
  b : List D
  pl : List D
  st : List D
  bad : Bool
def bad1 (m : Mk) (bad : Bool) (l : List UInt8) : Bool := bad || (decide (0 < cnt m l) && (m.x == 0))
def WW.it (m : Mk) (i : Int) (s : WW) (it : Pt) : WW :=
  ⟨s.b ++ [.int it.k] ++ txs m true it.t.data.toList,
   s.pl ++ [.agg [.int i, .int it.e, .int it.r, .int it.p, .int ((s.b ++ [D.int it.k]).length : Int), .int ((s.b ++ [D.int it.k] ++ txs m true it.t.data.toList).length : Int)]],
   s.st, bad1 m s.bad it.t.data.toList⟩
def WW.its (m : Mk) (i : Int) (s : WW) (l : List Pt) : WW := l.foldl (WW.it m i) s
theorem WW.its_snoc (m : Mk) (i : Int) (s : WW) (l : List Pt) (it : Pt) : s.its m i (l ++ [it]) = (s.its m i l).it m i it := by simp [WW.its]
theorem WW.its_app (m : Mk) (i : Int) (s : WW) (l l' : List Pt) : s.its m i (l ++ l') = (s.its m i l).its m i l' := by simp [WW.its]
structure WW.le (s : WW) (n : Nat) : Prop where
  b : s.b.length ≤ 2001 * n
  pl : s.pl.length ≤ n
  st : s.st.length ≤ n
theorem WW.le_it {m : Mk} {i : Int} {s : WW} {it : Pt} {n : Nat} (h : s.le n) (ht : txI it) : (s.it m i it).le (n + 1) := by
  have h1 := txs_le m true it.t.data.toList
  rw [ba_len] at h1
  unfold txI at ht
  have := h.b; have := h.pl; have := h.st
  refine ⟨?_, ?_, ?_⟩
  · simp only [WW.it, List.length_append, List.length_cons, List.length_nil]; omega
  · simp only [WW.it, List.length_append, List.length_cons, List.length_nil]; omega
  · simp only [WW.it]; omega
theorem WW.le_its {m : Mk} {i : Int} : ∀ {l : List Pt} {s : WW} {n : Nat} (_ : s.le n) (_ : ∀ it ∈ l, txI it), (s.its m i l).le (n + l.length)
  | [], s, n, h, _ => h
  | it :: l, s, n, h, ht => by
    have := WW.le_its (m := m) (i := i) (l := l) (WW.le_it (m := m) (i := i) h (ht it (by simp))) (fun x hx => ht x (by simp [hx]))
    rw [show n + (it :: l).length = n + 1 + l.length by simp; omega]
    exact this
theorem WW.its_b {m : Mk} {i : Int} : ∀ {l : List Pt} {s : WW} (_ : ∀ it ∈ l, txI it), (s.its m i l).b.length ≤ s.b.length + 2001 * l.length
  | [], s, _ => Nat.le_refl _
  | it :: l, s, ht => by
    have h1 := WW.its_b (m := m) (i := i) (l := l) (s := s.it m i it) (fun x hx => ht x (by simp [hx]))
    have h2 := txs_le m true it.t.data.toList
    rw [ba_len] at h2
    have h3 : it.t.size ≤ 1000 := ht it (by simp)
    have h4 : (s.it m i it).b.length ≤ s.b.length + 2001 := by
      simp only [WW.it, List.length_append, List.length_cons, List.length_nil]; omega
    show ((s.it m i it).its m i l).b.length ≤ _
    simp only [List.length_cons]; omega
section
variable {ι : Type} [Dir ι]
theorem tx44 (go : ι → List D → Option (List D)) (m : Mk) (s : ByteArray) (l els reps parts : List D) (lines bad : Bool) (i i2 e e2 rr rr2 p p2 fr n1 n2 n3 n4 most : Int) (b pl st : List D) (r : List D)
    (hs : s.size ≤ 1000) (ho : b.length ≤ 1000000000000) (hp : pl.length ≤ 1000000000)
    (k : EvG (fun p_ => go p_ [.int i, .int e, .int m.p, .int rr, .row els, .int n1, .int e2, .row reps, .int n2, .int rr2, .row parts, .int n3, .int (IntKind.i64.wrap (p2 + 1)), .int most, .row l, .int n4, .int i2, .int m.e, .int m.p, .int m.r, .int m.x, .int m.z, .bool lines, .bool (bad1 m bad s.data.toList), .int m.e, .int m.p, .int m.r, .int m.x, .int m.z, .row (b ++ txs m true s.data.toList),
      .row (pl ++ [.agg [.int i, .int (IntKind.i64.wrap (e + 1)), .int (IntKind.i64.wrap (rr + 1)), .int (IntKind.i64.wrap (p + 1)), .int fr, .int ((b ++ txs m true s.data.toList).length : Int)]]), .row st]) r) :
    EvG (fun q : ι × Nat => iter (B44x0 (go q.1)) q.2 [.str s, .int (s.size : Int), .int 0, .int i, .int e, .int rr, .int p, .int fr, .row els, .int n1, .int e2, .row reps, .int n2, .int rr2, .row parts, .int n3, .int p2, .int most, .row l, .int n4, .int i2, .int m.e, .int m.p, .int m.r, .int m.x, .int m.z, .bool lines, .bool bad, .int m.e, .int m.p, .int m.r, .int m.x, .int m.z, .row b, .row pl, .row st]) r := by
  have e1 : bad1 m bad [] = bad := by simp [bad1, cnt]
  have e2' : b ++ txs m true [] = b := by simp [txs]
  refine EvG.congr (fun q => ?_) (EvG.scan (B := fun q => B44x0 (go q)) s.data.toList (fun pre => [.str s, .int (s.size : Int), .int (pre.length : Int), .int i, .int e, .int rr, .int p, .int fr, .row els, .int n1, .int e2, .row reps, .int n2, .int rr2, .row parts, .int n3, .int p2, .int most, .row l, .int n4, .int i2, .int m.e, .int m.p, .int m.r, .int m.x, .int m.z, .bool lines, .bool (bad1 m bad pre), .int m.e, .int m.p, .int m.r, .int m.x, .int m.z, .row (b ++ txs m true pre), .row pl, .row st]) (fun _ _ => r) ?_ ?_)
  · simp only [e1, e2']; rfl
  · unfold B44x0
    simp only [gt_zero, gt_succ, int_i, str_s, row_r, bool_b, end_of, cond_false]
    refine EvG.pos (needOk_yes (by simp only [List.length_cons, List.length_nil]; omega)) ?_
    exact k.fst
  · intro pre u post go2 hp2 ih
    have a := sat_of hp2 (by omega)
    have hl : pre.length ≤ 1000 := by have := congrArg List.length hp2; rw [ba_len] at this; simp at this; omega
    have h2 := txs_le m true pre
    have hout : (b ++ txs m true pre).length ≤ 1000000002000 := by rw [List.length_append]; omega
    rw [txs_snoc] at ih
    have hbad : bad1 m bad (pre ++ [u]) = bif m.is (u.toNat : Int) then (bad1 m bad pre || (m.x == 0)) else bad1 m bad pre := by
      unfold bad1
      rw [cnt_snoc]
      cases m.is (u.toNat : Int)
      · rfl
      · simp only [cond_true]
        rw [decide_eq_true (show 0 < cnt m pre + 1 by omega)]
        cases bad <;> cases decide (0 < cnt m pre) <;> cases (m.x == 0) <;> rfl
    rw [hbad] at ih
    generalize bad1 m bad pre = bd at ih ⊢
    unfold B44x0
    simp only [gt_zero, gt_succ, int_i, str_s, row_r, bool_b, a.el, a.inr, a.lt, Bool.and_true, cond_true, is99, Option.bind_some]
    unfold one at ih
    cases hm : m.is (u.toNat : Int) <;> rw [hm] at ih
    · simp only [Bool.false_and, cond_false, Option.bind_some, gt_zero, gt_succ, int_i, str_s, row_r, bool_b, a.el, a.inr, a.up, Bool.and_true, cond_true] at ih ⊢
      refine EvG.pos (needOk_yes (by simp only [List.length_cons, List.length_nil]; omega)) ?_
      rw [← List.append_assoc] at ih
      exact ih
    · simp only [Bool.and_true, cond_true] at ih
      have e4 : b ++ txs m true pre ++ [D.int m.x] ++ [D.int (u.toNat : Int)] = b ++ (txs m true pre ++ [D.int m.x, D.int (u.toNat : Int)]) := by simp
      have hn1 : needOk ((b ++ txs m true pre).length + [D.int m.x].length) 1 = true := needOk_yes (by simp only [List.length_cons, List.length_nil]; omega)
      have hn2 : needOk ((b ++ txs m true pre ++ [D.int m.x]).length + [D.int (u.toNat : Int)].length) 1 = true := needOk_yes (by rw [List.length_append]; simp only [List.length_cons, List.length_nil]; omega)
      cases bd <;> simp only [cond_true, cond_false, Option.bind_some, gt_zero, gt_succ, int_i, str_s, row_r, bool_b, hn1, hn2, a.el, a.inr, a.up, Bool.and_true, cond_true, e4] <;> exact ih
theorem pt44 (go : ι → List D → Option (List D)) (m : Mk) (l els reps parts : List D) (lines : Bool) (i i2 e e2 mk rr rr2 n1 n2 n4 most : Int) (s : WW) (n : Nat) (r : List D)
    (hl : limR (.row parts)) (he : IntKind.i64.wrap (e + 1) = e + 1) (hrr : IntKind.i64.wrap (rr + 1) = rr + 1) (h : s.le n) (hn : n ≤ 100000000)
    (k : EvG (fun p_ => go p_ [.int i, .int e, .int m.r, .row els, .int n1, .int e2, .row reps, .int n2, .int (IntKind.i64.wrap (rr2 + 1)), .int most, .row l, .int n4, .int i2, .int m.e, .int m.p, .int m.r, .int m.x, .int m.z, .bool lines, .bool (s.its m i (partIts m (e + 1) (rr + 1) mk parts)).bad, .int m.e, .int m.p, .int m.r, .int m.x, .int m.z, .row (s.its m i (partIts m (e + 1) (rr + 1) mk parts)).b, .row (s.its m i (partIts m (e + 1) (rr + 1) mk parts)).pl, .row (s.its m i (partIts m (e + 1) (rr + 1) mk parts)).st]) r) :
    EvG (fun q : ι × Nat => iter (B44x1 (go q.1)) q.2 [.int i, .int e, .int mk, .int rr, .row els, .int n1, .int e2, .row reps, .int n2, .int rr2, .row parts, .int (parts.length : Int), .int 0, .int most, .row l, .int n4, .int i2, .int m.e, .int m.p, .int m.r, .int m.x, .int m.z, .bool lines, .bool s.bad, .int m.e, .int m.p, .int m.r, .int m.x, .int m.z, .row s.b, .row s.pl, .row s.st]) r := by
  obtain ⟨hl1, hl2⟩ := hl
  rw [row_r] at hl1 hl2
  refine EvG.congr (fun q => ?_) (EvG.scan (B := fun q => B44x1 (go q)) parts (fun pre => [.int i, .int e, .int (bif pre.length == 0 then mk else m.p), .int rr, .row els, .int n1, .int e2, .row reps, .int n2, .int rr2, .row parts, .int (parts.length : Int), .int (pre.length : Int), .int most, .row l, .int n4, .int i2, .int m.e, .int m.p, .int m.r, .int m.x, .int m.z, .bool lines, .bool (s.its m i (partIts m (e + 1) (rr + 1) mk pre)).bad, .int m.e, .int m.p, .int m.r, .int m.x, .int m.z, .row (s.its m i (partIts m (e + 1) (rr + 1) mk pre)).b, .row (s.its m i (partIts m (e + 1) (rr + 1) mk pre)).pl, .row (s.its m i (partIts m (e + 1) (rr + 1) mk pre)).st]) (fun _ _ => r) ?_ ?_)
  · rfl
  · unfold B44x1
    simp only [gt_zero, gt_succ, int_i, str_s, row_r, bool_b, no_more, cond_false]
    exact k.fst
  · intro pre x post go2 hp2 ih
    have a := at_of hp2 (by omega)
    have hpl : pre.length ≤ 20 := by have := congrArg List.length hp2; simp at this; omega
    have hx : limT x := hl2 x (by simp [hp2])
    have hle := WW.le_its (m := m) (i := i) h (l := partIts m (e + 1) (rr + 1) mk pre) (partIts_tx fun y hy => hl2 y (by simp [hp2, hy]))
    rw [partIts_len] at hle
    rw [partIts_snoc, WW.its_snoc] at ih
    have hne : (bif (pre ++ [x]).length == 0 then mk else m.p) = m.p := by simp
    rw [hne] at ih
    have h1 := hle.b; have h2 := hle.pl
    generalize hS : s.its m i (partIts m (e + 1) (rr + 1) mk pre) = S at ih h1 h2 ⊢
    unfold B44x1
    simp only [gt_zero, gt_succ, int_i, str_s, row_r, bool_b, a.el, a.inr, a.lt, Bool.and_true, cond_true]
    refine EvG.pos (needOk_yes (by simp only [List.length_cons, List.length_nil]; omega)) ?_
    refine EvG.loop (f := fun p n => iter (B44x0 (go2 p)) n _) ?_
    refine tx44 go2 m x.s l els reps parts lines S.bad i i2 e e2 rr rr2 (pre.length : Int) (pre.length : Int) _ n1 n2 (parts.length : Int) n4 most (S.b ++ [.int (bif pre.length == 0 then mk else m.p)]) S.pl S.st r hx (by rw [List.length_append]; simp only [List.length_cons, List.length_nil]; omega) (by omega) ?_
    rw [a.up, he, hrr]
    simp only [WW.it] at ih
    have e5 : ((pre ++ [x]).length : Int) = (pre.length : Int) + 1 := by simp
    rw [e5] at ih ⊢
    exact ih
theorem rp44 (go : ι → List D → Option (List D)) (m : Mk) (l els epre : List D) (x : D) (lines : Bool) (i i2 n1 n4 most : Int) (s : WW) (n : Nat) (r : List D)
    (hx : limE x) (hep : epre.length ≤ 50) (h : s.le n) (hn : n ≤ 90000000)
    (k : EvG (fun p_ => go p_ [.int i, .row els, .int n1, .int ((epre ++ [x]).length : Int), .int most, .row l, .int n4, .int i2, .int m.e, .int m.p, .int m.r, .int m.x, .int m.z, .bool lines, .bool (s.its m i (repIts m ((epre.length : Int) + 1) (x.c 0).r)).bad, .int m.e, .int m.p, .int m.r, .int m.x, .int m.z, .row (s.its m i (repIts m ((epre.length : Int) + 1) (x.c 0).r)).b, .row (s.its m i (repIts m ((epre.length : Int) + 1) (x.c 0).r)).pl, .row (s.its m i (repIts m ((epre.length : Int) + 1) (x.c 0).r)).st]) r) :
    EvG (fun q : ι × Nat => iter (B44x2 (go q.1)) q.2 [.int i, .int (epre.length : Int), .int m.e, .row els, .int n1, .int (epre.length : Int), .row (x.c 0).r, .int ((x.c 0).r.length : Int), .int 0, .int most, .row l, .int n4, .int i2, .int m.e, .int m.p, .int m.r, .int m.x, .int m.z, .bool lines, .bool s.bad, .int m.e, .int m.p, .int m.r, .int m.x, .int m.z, .row s.b, .row s.pl, .row s.st]) r := by
  obtain ⟨hl1, hl2⟩ := hx
  have hee : IntKind.i64.wrap ((epre.length : Int) + 1) = (epre.length : Int) + 1 := w64 (by omega) (by omega)
  have e6 : ((epre ++ [x]).length : Int) = (epre.length : Int) + 1 := by simp
  rw [e6] at k
  refine EvG.congr (fun q => ?_) (EvG.scan (B := fun q => B44x2 (go q)) (x.c 0).r (fun pre => [.int i, .int (epre.length : Int), .int (bif pre.length == 0 then m.e else m.r), .row els, .int n1, .int (epre.length : Int), .row (x.c 0).r, .int ((x.c 0).r.length : Int), .int (pre.length : Int), .int most, .row l, .int n4, .int i2, .int m.e, .int m.p, .int m.r, .int m.x, .int m.z, .bool lines, .bool (s.its m i (repIts m ((epre.length : Int) + 1) pre)).bad, .int m.e, .int m.p, .int m.r, .int m.x, .int m.z, .row (s.its m i (repIts m ((epre.length : Int) + 1) pre)).b, .row (s.its m i (repIts m ((epre.length : Int) + 1) pre)).pl, .row (s.its m i (repIts m ((epre.length : Int) + 1) pre)).st]) (fun _ _ => r) ?_ ?_)
  · rfl
  · unfold B44x2
    simp only [gt_zero, gt_succ, int_i, row_r, bool_b, no_more, cond_false, hee]
    exact k.fst
  · intro pre y post go2 hp2 ih
    have a := at_of hp2 (by omega)
    have hpl : pre.length ≤ 20 := by have := congrArg List.length hp2; simp at this; omega
    have hy : limR y := hl2 y (by simp [hp2])
    have hpre : ∀ z ∈ pre, limR z := fun z hz => hl2 z (by simp [hp2, hz])
    have hle := WW.le_its (m := m) (i := i) h (l := repIts m ((epre.length : Int) + 1) pre) (repIts_tx hpre)
    have hlen := repIts_len (m := m) (e := (epre.length : Int) + 1) hpre
    rw [repIts_snoc, WW.its_app] at ih
    have hne : (bif (pre ++ [y]).length == 0 then m.e else m.r) = m.r := by simp
    rw [hne] at ih
    generalize hS : s.its m i (repIts m ((epre.length : Int) + 1) pre) = S at ih hle ⊢
    unfold B44x2
    simp only [gt_zero, gt_succ, int_i, row_r, bool_b, a.lt, a.inr, a.el, Bool.and_true, cond_true]
    refine EvG.loop (f := fun p n => iter (B44x1 (go2 p)) n _) ?_
    have e5 : ((pre ++ [y]).length : Int) = (pre.length : Int) + 1 := by simp
    rw [e5] at ih
    have hrr : IntKind.i64.wrap ((pre.length : Int) + 1) = (pre.length : Int) + 1 := w64 (by omega) (by omega)
    refine pt44 go2 m l els (x.c 0).r y.r lines i i2 (epre.length : Int) (epre.length : Int) _ (pre.length : Int) (pre.length : Int) n1 _ n4 most S _ r hy hee hrr hle (by omega) ?_
    rw [hrr]
    exact ih
end
theorem el44 (m : Mk) (l : List D) (d : D) (lines : Bool) (i i2 n4 most : Int) (s : WW) (n : Nat) (hd : limS d) (h : s.le n) (hn : n ≤ 80000000) :
    Ev (fun k => iter B44x3 k [.int i, .row (d.c 1).r, .int ((d.c 1).r.length : Int), .int 0, .int most, .row l, .int n4, .int i2, .int m.e, .int m.p, .int m.r, .int m.x, .int m.z, .bool lines, .bool s.bad, .int m.e, .int m.p, .int m.r, .int m.x, .int m.z, .row s.b, .row s.pl, .row s.st])
      [.int most, .row l, .int n4, .int i2, .int m.e, .int m.p, .int m.r, .int m.x, .int m.z, .int m.e, .int m.p, .int m.r, .int m.x, .int m.z, .bool lines, .bool (s.its m i (segIts m (d.c 1).r)).bad, .row ((s.its m i (segIts m (d.c 1).r)).b ++ [.int m.z] ++ (bif lines then [.int 10] else [])), .row (s.its m i (segIts m (d.c 1).r)).pl, .row (s.its m i (segIts m (d.c 1).r)).st] := by
  obtain ⟨_, hl1, hl2⟩ := hd
  refine EvG.nat (EvG.loopN (f := fun _ n => iter B44x3 n _) ?_)
  refine EvG.congr (fun q => ?_) (EvG.scan (ι := Nat) (B := fun _ => B44x3) (d.c 1).r (fun pre => [.int i, .row (d.c 1).r, .int ((d.c 1).r.length : Int), .int (pre.length : Int), .int most, .row l, .int n4, .int i2, .int m.e, .int m.p, .int m.r, .int m.x, .int m.z, .bool lines, .bool (s.its m i (segIts m pre)).bad, .int m.e, .int m.p, .int m.r, .int m.x, .int m.z, .row (s.its m i (segIts m pre)).b, .row (s.its m i (segIts m pre)).pl, .row (s.its m i (segIts m pre)).st]) (fun _ _ => _) ?_ ?_)
  · rfl
  · have hle := WW.le_its (m := m) (i := i) h (l := segIts m (d.c 1).r) (segIts_tx hl2)
    have hlen := segIts_len (m := m) hl2
    generalize hS : s.its m i (segIts m (d.c 1).r) = S at hle ⊢
    have h1 := hle.b
    unfold B44x3
    simp only [gt_zero, gt_succ, int_i, row_r, bool_b, no_more, Bool.and_true, cond_true, cond_false]
    refine EvG.pos (needOk_yes (by simp only [List.length_cons, List.length_nil]; omega)) ?_
    cases lines
    · refine EvG.neg rfl ((EvG.now _).cast ?_)
      simp
    · refine EvG.pos rfl (EvG.pos (needOk_yes (by simp only [List.length_append, List.length_cons, List.length_nil]; omega)) ((EvG.now _).cast ?_))
      simp
  · intro pre x post go hp ih
    have B := at_of hp (by omega)
    have hpl : pre.length ≤ 50 := by have := congrArg List.length hp; simp at this; omega
    have hpre : ∀ z ∈ pre, limE z := fun z hz => hl2 z (by simp [hp, hz])
    have hle := WW.le_its (m := m) (i := i) h (l := segIts m pre) (segIts_tx hpre)
    have hlen := segIts_len (m := m) hpre
    rw [segIts_snoc, WW.its_app] at ih
    generalize hS : s.its m i (segIts m pre) = S at ih hle ⊢
    unfold B44x3
    simp only [gt_zero, gt_succ, int_i, row_r, bool_b, B.lt, B.inr, B.el, Bool.and_true, cond_true]
    refine EvG.loop (f := fun p n => iter (B44x2 (go p)) n _) ?_
    exact rp44 go m l (d.c 1).r pre x lines i i2 _ n4 most S _ _ (hl2 x (by simp [hp])) hpl hle (by omega) ih
end Go.Sx
