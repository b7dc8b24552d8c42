/- The reply book: what both packages come to. -/
import Derived.Test.YtndlhopdhfhjnaaDoorSxEv
import Derived.Test.YtndlhopdhfhjnaaDoorSxE
set_option linter.unusedVariables false
set_option linter.unusedSimpArgs false
namespace Go.Sx
/-! ### Events and sendings -/
structure Bk where
  kind : Int
  time : Int
  due : Int
  ref : ByteArray
  verdict : Int
def Bk.d (x : Bk) : D := .agg [.int x.kind, .int x.time, .int x.due, .str x.ref, .int x.verdict]
structure Sd where
  ref : ByteArray
  time : Int
  due : Int
  answer : Int
  verdict : Int
def Sd.d (x : Sd) : D := .agg [.str x.ref, .int x.time, .int x.due, .int x.answer, .int x.verdict]
theorem Bk.c0 (x : Bk) : x.d.c 0 = .int x.kind := rfl
theorem Bk.c1 (x : Bk) : x.d.c 1 = .int x.time := rfl
theorem Bk.c2 (x : Bk) : x.d.c 2 = .int x.due := rfl
theorem Bk.c3 (x : Bk) : x.d.c 3 = .str x.ref := rfl
theorem Bk.c4 (x : Bk) : x.d.c 4 = .int x.verdict := rfl
theorem Sd.c0 (x : Sd) : x.d.c 0 = .str x.ref := rfl
theorem Sd.c1 (x : Sd) : x.d.c 1 = .int x.time := rfl
theorem Sd.c2 (x : Sd) : x.d.c 2 = .int x.due := rfl
theorem Sd.c3 (x : Sd) : x.d.c 3 = .int x.answer := rfl
theorem Sd.c4 (x : Sd) : x.d.c 4 = .int x.verdict := rfl
def wf (n : Int) : Prop := -9223372036854775808 ≤ n ∧ n ≤ 9223372036854775807
structure Bk.ok (x : Bk) : Prop where
  kind : wf x.kind
  time : wf x.time
  due : wf x.due
  ref : x.ref.size ≤ 140737488351232
  verdict : wf x.verdict

/-! ### The book, plainly -/
/-- A sending of this reference that waits. -/
def Sd.waits (r : ByteArray) (y : Sd) : Prop := y.ref = r ∧ y.answer < 0
instance (r : ByteArray) (y : Sd) : Decidable (y.waits r) := inferInstanceAs (Decidable (_ ∧ _))
def Sd.done (y : Sd) (t v : Int) : Sd := { y with answer := t, verdict := v }
/-- The last sending that waits is answered. -/
def close (r : ByteArray) (t v : Int) : List Sd → Option (List Sd)
  | [] => none
  | y :: l => match close r t v l with
    | some l' => some (y :: l')
    | none => if y.waits r then some (y.done t v :: l) else none
def stepA (s : List Sd × List Int) (i : Nat) (x : Bk) : List Sd × List Int :=
  if x.kind = 1 then (s.1 ++ [⟨x.ref, x.time, x.due, -1, 0⟩], s.2) else
    match close x.ref x.time x.verdict s.1 with
    | some l => (l, s.2)
    | none => (s.1, s.2 ++ [(i : Int)])
def runA : List Bk → Nat → List Sd × List Int → List Sd × List Int
  | [], _, s => s
  | x :: l, i, s => runA l (i + 1) (stepA s i x)

theorem close_none {r : ByteArray} {t v : Int} : ∀ {l : List Sd}, (∀ y ∈ l, ¬ y.waits r) → close r t v l = none
  | [], _ => rfl
  | y :: l, h => by
    simp only [close]
    rw [close_none (fun z hz => h z (by simp [hz])), if_neg (h y (by simp))]
theorem close_mid {r : ByteArray} {t v : Int} {y : Sd} (hy : y.waits r) : ∀ {a b : List Sd}, (∀ z ∈ b, ¬ z.waits r) → close r t v (a ++ y :: b) = some (a ++ y.done t v :: b)
  | [], b, hb => by simp only [List.nil_append, close]; rw [close_none hb, if_pos hy]
  | z :: a, b, hb => by simp only [List.cons_append, close]; rw [close_mid hy hb]
/-- Either none waits, or there is a last one that does. -/
theorem last_waits (r : ByteArray) : ∀ l : List Sd, (∀ y ∈ l, ¬ y.waits r) ∨ ∃ a y b, l = a ++ y :: b ∧ y.waits r ∧ ∀ z ∈ b, ¬ z.waits r
  | [] => .inl (fun y h => by simp at h)
  | x :: l => by
    rcases last_waits r l with h | ⟨a, y, b, rfl, h1, h2⟩
    · by_cases hx : x.waits r
      · exact .inr ⟨[], x, l, rfl, hx, h⟩
      · refine .inl (fun y hy => ?_)
        rcases List.mem_cons.1 hy with rfl | hy
        · exact hx
        · exact h y hy
    · exact .inr ⟨x :: a, y, b, rfl, h1, h2⟩
/-- The places of the sendings of a reference that wait. -/
def idx (r : ByteArray) : List Sd → Nat → List D
  | [], _ => []
  | y :: l, n => if y.waits r then .int (n : Int) :: idx r l (n + 1) else idx r l (n + 1)
theorem idx_append (r : ByteArray) : ∀ (a b : List Sd) (n : Nat), idx r (a ++ b) n = idx r a n ++ idx r b (n + a.length)
  | [], b, n => by simp [idx]
  | x :: a, b, n => by
    simp only [List.cons_append, idx, idx_append r a b (n + 1), List.length_cons]
    rw [show n + 1 + a.length = n + (a.length + 1) by omega]
    split <;> simp
theorem idx_none {r : ByteArray} : ∀ {l : List Sd} (n : Nat), (∀ y ∈ l, ¬ y.waits r) → idx r l n = []
  | [], _, _ => rfl
  | y :: l, n, h => by
    simp only [idx]
    rw [if_neg (h y (by simp)), idx_none _ (fun z hz => h z (by simp [hz]))]
theorem idx_len (r : ByteArray) : ∀ (l : List Sd) (n : Nat), (idx r l n).length ≤ l.length
  | [], _ => Nat.le_refl _
  | y :: l, n => by
    simp only [idx]
    have := idx_len r l (n + 1)
    split <;> simp <;> omega
/-- What the map holds: at each reference the places of those that wait. -/
def Holds (m : List D) (out : List Sd) : Prop := ∀ r, mGet m r (.row []) = .row (idx r out 0)
theorem holds_nil : Holds [] [] := fun r => rfl

theorem close_len {r : ByteArray} {t v : Int} : ∀ {l l' : List Sd}, close r t v l = some l' → l'.length = l.length
  | [], _, h => by cases h
  | y :: l, l', h => by
    simp only [close] at h
    split at h
    · rename_i l2 h2
      obtain rfl := Option.some.inj h
      simp [close_len h2]
    · split at h
      · obtain rfl := Option.some.inj h
        simp
      · cases h

/-! ### The program's book -/
theorem step27_new (k : Nat) (rec1 : List D → Option (List D)) (pre post : List Bk) (x : Bk) (out : List Sd) (left : List Int) (m : List D) (hx : x.ok) (hk : x.kind = 1) (hl : (pre ++ x :: post).length ≤ 3000) (ho : out.length ≤ pre.length) (hm : m.length ≤ pre.length) (hH : Holds m out) :
    B27x0 k rec1 [.row ((pre ++ x :: post).map Bk.d), .int ((pre ++ x :: post).length : Int), .int (pre.length : Int), .row (out.map Sd.d), .row (left.map .int), .row m] =
      rec1 [.row ((pre ++ x :: post).map Bk.d), .int ((pre ++ x :: post).length : Int), .int ((pre ++ [x]).length : Int), .row ((out ++ [(⟨x.ref, x.time, x.due, -1, 0⟩ : Sd)]).map Sd.d), .row (left.map .int), .row (mPut m x.ref (.row (idx x.ref out 0 ++ [.int (out.length : Int)])))] := by
  have h1 : (pre.length : Int) < ((pre ++ x :: post).length : Int) := by simp; omega
  have h2 : inRow (pre.length : Int) ((pre ++ x :: post).map Bk.d).length = true := inRow_yes (by omega) (by simpa using h1)
  have h3 := hx.ref
  have h4 : (idx x.ref out 0).length ≤ out.length := idx_len _ _ _
  simp only [List.length_append, List.length_cons] at hl
  unfold B27x0
  simp only [gt_zero, gt_succ, int_i, row_r, str_s, elAt_mid, Bk.c0, Bk.c1, Bk.c2, Bk.c3, Bk.c4, h1, h2, decide_true, cond_true, Bool.and_true, hk, hH x.ref, beq_self_eq_true]
  rw [decide_eq_true (show x.ref.size ≤ 9223372036854775807 by omega), needOk_yes (by simp; omega), blt_yes (show m.length < 9223372036854775807 by omega), needOk_yes (by simp; omega)]
  simp only [cond_true, Option.bind_some, gt_zero, gt_succ, int_i, row_r]
  rw [w64 (by omega) (by omega)]
  simp [Sd.d]
theorem step27_lone (k : Nat) (rec1 : List D → Option (List D)) (pre post : List Bk) (x : Bk) (out : List Sd) (left : List Int) (m : List D) (hx : x.ok) (hk : x.kind ≠ 1) (hl : (pre ++ x :: post).length ≤ 3000) (ho : left.length ≤ pre.length) (hH : Holds m out) (hw : ∀ y ∈ out, ¬ y.waits x.ref) :
    B27x0 k rec1 [.row ((pre ++ x :: post).map Bk.d), .int ((pre ++ x :: post).length : Int), .int (pre.length : Int), .row (out.map Sd.d), .row (left.map .int), .row m] =
      rec1 [.row ((pre ++ x :: post).map Bk.d), .int ((pre ++ x :: post).length : Int), .int ((pre ++ [x]).length : Int), .row (out.map Sd.d), .row ((left ++ [(pre.length : Int)]).map .int), .row (bif mHas m x.ref then mPut m x.ref (.row []) else m)] := by
  have h1 : (pre.length : Int) < ((pre ++ x :: post).length : Int) := by simp; omega
  have h2 : inRow (pre.length : Int) ((pre ++ x :: post).map Bk.d).length = true := inRow_yes (by omega) (by simpa using h1)
  have h3 := hx.ref
  have h4 := hH x.ref
  rw [idx_none 0 hw] at h4
  simp only [List.length_append, List.length_cons] at hl
  unfold B27x0
  simp only [gt_zero, gt_succ, int_i, row_r, str_s, elAt_mid, Bk.c0, Bk.c1, Bk.c2, Bk.c3, Bk.c4, h1, h2, decide_true, cond_true, Bool.and_true, beqI_false hk, cond_false, h4]
  rw [decide_eq_true (show x.ref.size ≤ 9223372036854775807 by omega), needOk_yes (by simp; omega)]
  simp only [cond_true, Option.bind_some, gt_zero, gt_succ, int_i, row_r, List.length_nil, Int.ofNat_zero, beq_self_eq_true, Int.natCast_zero]
  rw [w64 (by omega) (by omega)]
  simp
theorem step27_ans (k : Nat) (rec1 : List D → Option (List D)) (pre post : List Bk) (x : Bk) (a b : List Sd) (y : Sd) (left : List Int) (m : List D) (hx : x.ok) (hk : x.kind ≠ 1) (hl : (pre ++ x :: post).length ≤ 3000) (ho : (a ++ y :: b).length ≤ pre.length) (hm : m.length ≤ pre.length) (hH : Holds m (a ++ y :: b)) (hy : y.waits x.ref) (hb : ∀ z ∈ b, ¬ z.waits x.ref) :
    B27x0 k rec1 [.row ((pre ++ x :: post).map Bk.d), .int ((pre ++ x :: post).length : Int), .int (pre.length : Int), .row ((a ++ y :: b).map Sd.d), .row (left.map .int), .row m] =
      rec1 [.row ((pre ++ x :: post).map Bk.d), .int ((pre ++ x :: post).length : Int), .int ((pre ++ [x]).length : Int), .row ((a ++ y.done x.time x.verdict :: b).map Sd.d), .row (left.map .int), .row (mPut m x.ref (.row (idx x.ref a 0)))] := by
  have h1 : (pre.length : Int) < ((pre ++ x :: post).length : Int) := by simp; omega
  have h2 : inRow (pre.length : Int) ((pre ++ x :: post).map Bk.d).length = true := inRow_yes (by omega) (by simpa using h1)
  have h3 := hx.ref
  have h4 := hH x.ref
  have h5 : idx x.ref (a ++ y :: b) 0 = idx x.ref a 0 ++ [.int (a.length : Int)] := by
    rw [idx_append]; simp only [idx, if_pos hy, Nat.zero_add]; rw [idx_none _ hb]
  rw [h5] at h4
  have h6 := idx_len x.ref a 0
  simp only [List.length_append, List.length_cons] at hl ho
  have h7 : IntKind.i64.wrap (((idx x.ref a 0 ++ [D.int (a.length : Int)]).length : Int) - 1) = ((idx x.ref a 0).length : Int) := by
    rw [w64 (by omega) (by simp; omega)]; simp
  have h8 : inRow ((idx x.ref a 0).length : Int) (idx x.ref a 0 ++ [D.int (a.length : Int)]).length = true := inRow_yes (by omega) (by simp; omega)
  have h9 : inRow (a.length : Int) ((a ++ y :: b).map Sd.d).length = true := inRow_yes (by omega) (by simp; omega)
  have h10 : ((((idx x.ref a 0 ++ [D.int (a.length : Int)]).length : Nat) : Int) == 0) = false := beqI_false (by simp; omega)
  have h12 : (decide (0 ≤ ((idx x.ref a 0).length : Int)) && decide (((idx x.ref a 0).length : Int) ≤ ((idx x.ref a 0 ++ [D.int (a.length : Int)]).length : Int))) = true := by simp; omega
  have h11 : a.length < ((a ++ y :: b).map Sd.d).length := by simp
  unfold B27x0
  simp only [gt_zero, gt_succ, int_i, row_r, str_s, elAt_mid, Bk.c0, Bk.c1, Bk.c2, Bk.c3, Bk.c4, h1, h2, decide_true, cond_true, Bool.and_true, beqI_false hk, cond_false, h4, h10, h7, h8, h12, elAt_end, h9, Int.toNat_natCast, elAt_set h11, List.length_set, agg_c, List.getD_cons_zero, List.getD_cons_succ, List.set_set, Sd.c0, Sd.c1, Sd.c2, Sd.c3, Sd.c4]
  rw [decide_eq_true (show x.ref.size ≤ 9223372036854775807 by omega), blt_yes (show m.length < 9223372036854775807 by omega)]
  simp only [cond_true, Option.bind_some, gt_zero, gt_succ, int_i, row_r, beq_self_eq_true, Bool.and_true]
  rw [w64 (by omega) (by omega)]
  simp [Sd.done, Sd.d, set_mid, List.set_append]
/-! The map goes on holding the places. -/
theorem holds_new {m : List D} {out : List Sd} (h : Holds m out) (r : ByteArray) (t d : Int) : Holds (mPut m r (.row (idx r out 0 ++ [.int (out.length : Int)]))) (out ++ [(⟨r, t, d, -1, 0⟩ : Sd)]) := fun s => by
  rw [idx_append]
  by_cases e : s = r
  · subst e
    rw [mGet_same]
    simp only [idx, Nat.zero_add]
    rw [if_pos ⟨rfl, by show (-1 : Int) < 0; omega⟩]
  · rw [mGet_other e, h s]
    simp only [idx]
    rw [if_neg (fun hw => e hw.1.symm), List.append_nil]
theorem holds_lone {m : List D} {out : List Sd} (h : Holds m out) {r : ByteArray} (hw : ∀ y ∈ out, ¬ y.waits r) : Holds (bif mHas m r then mPut m r (.row []) else m) out := fun s => by
  cases mHas m r
  · exact h s
  · simp only [cond_true]
    by_cases e : s = r
    · subst e; rw [mGet_same, idx_none 0 hw]
    · rw [mGet_other e]; exact h s
theorem holds_ans {m : List D} {a b : List Sd} {y : Sd} {r : ByteArray} {t v : Int} (h : Holds m (a ++ y :: b)) (hy : y.waits r) (hb : ∀ z ∈ b, ¬ z.waits r) (ht : 0 ≤ t) : Holds (mPut m r (.row (idx r a 0))) (a ++ y.done t v :: b) := fun s => by
  have hn : ∀ s, ¬ (y.done t v).waits s := fun s hw => by have := hw.2; simp [Sd.done] at this; omega
  by_cases e : s = r
  · subst e
    rw [mGet_same, idx_append]
    simp only [idx]
    rw [if_neg (hn s), idx_none _ hb, List.append_nil]
  · rw [mGet_other e, h s, idx_append, idx_append]
    simp only [idx]
    rw [if_neg (hn s), if_neg (fun hw : y.waits s => e (hw.1.symm.trans hy.1))]
theorem ev27 : ∀ (post pre : List Bk) (out : List Sd) (left : List Int) (m : List D), (∀ x ∈ post, x.ok ∧ 0 ≤ x.time) → (pre ++ post).length ≤ 3000 → out.length ≤ pre.length → left.length ≤ pre.length → m.length ≤ pre.length → Holds m out →
    Ev (fun k => iter B27x0 k [.row ((pre ++ post).map Bk.d), .int ((pre ++ post).length : Int), .int (pre.length : Int), .row (out.map Sd.d), .row (left.map .int), .row m]) [.row ((runA post pre.length (out, left)).1.map Sd.d), .row ((runA post pre.length (out, left)).2.map .int)]
  | [], pre, out, left, m, _, _, _, _, _, _ => by
    refine Ev.iter (Ev.of fun k => ?_)
    unfold B27x0
    simp [gt_zero, gt_succ, int_i, row_r, runA]
  | x :: post, pre, out, left, m, hx, hl, ho, hf, hm, hH => by
    have hx1 := hx x (by simp)
    have hx2 : ∀ z ∈ post, z.ok ∧ 0 ≤ z.time := fun z hz => hx z (by simp [hz])
    have hl2 : ((pre ++ [x]) ++ post).length ≤ 3000 := by simpa using hl
    have hpp : (pre ++ [x]) ++ post = pre ++ x :: post := by simp
    have hpl : (pre ++ [x]).length = pre.length + 1 := by simp
    refine Ev.iter ?_
    by_cases hk : x.kind = 1
    · refine Ev.congr (fun k => step27_new k _ pre post x out left m hx1.1 hk hl ho hm hH) ?_
      have ih := ev27 post (pre ++ [x]) (out ++ [(⟨x.ref, x.time, x.due, -1, 0⟩ : Sd)]) left _ hx2 hl2 (by simp; omega) (by simp; omega) (by rw [len_put, hpl]; split <;> omega) (holds_new hH x.ref x.time x.due)
      rw [hpp] at ih
      refine ih.cast ?_
      simp only [hpl, runA, stepA, if_pos hk]
    · rcases last_waits x.ref out with hw | ⟨a, y, b, rfl, hy, hb⟩
      · refine Ev.congr (fun k => step27_lone k _ pre post x out left m hx1.1 hk hl hf hH hw) ?_
        have ih := ev27 post (pre ++ [x]) out (left ++ [(pre.length : Int)]) _ hx2 hl2 (by simp; omega) (by simp; omega) (by cases mHas m x.ref <;> simp only [cond_true, cond_false, len_put, hpl] <;> (try split) <;> omega) (holds_lone hH hw)
        rw [hpp] at ih
        refine ih.cast ?_
        simp only [hpl, runA, stepA, if_neg hk, close_none hw]
      · refine Ev.congr (fun k => step27_ans k _ pre post x a b y left m hx1.1 hk hl ho hm hH hy hb) ?_
        have ih := ev27 post (pre ++ [x]) (a ++ y.done x.time x.verdict :: b) left _ hx2 hl2 (by simp at ho ⊢; omega) (by simp; omega) (by rw [len_put, hpl]; split <;> omega) (holds_ans (t := x.time) (v := x.verdict) hH hy hb hx1.2)
        rw [hpp] at ih
        refine ih.cast ?_
        simp only [hpl, runA, stepA, if_neg hk, close_mid hy hb]
theorem book27 (es : List Bk) (hx : ∀ x ∈ es, x.ok ∧ 0 ≤ x.time) (hl : es.length ≤ 3000) : Ev (fun k => F27 k [.row (es.map Bk.d)]) [.row ((runA es 0 ([], [])).1.map Sd.d), .row ((runA es 0 ([], [])).2.map .int)] := by
  have := ev27 es [] [] [] [] hx (by simpa using hl) (Nat.le_refl _) (Nat.le_refl _) (Nat.le_refl _) holds_nil
  refine Ev.congr (fun k => ?_) this
  simp [F27, gt_zero, row_r]

/-! ### The reference's book -/
def runM (mo : Int) : List Bk → Nat → List Sd × List Int → List Sd × List Int
  | [], _, s => s
  | x :: l, i, s => if x.time > mo then runM mo l (i + 1) s else runM mo l (i + 1) (stepA s i x)
theorem runM_all {mo : Int} : ∀ {l : List Bk} {i : Nat} {s : List Sd × List Int}, (∀ x ∈ l, x.time ≤ mo) → runM mo l i s = runA l i s
  | [], _, _, _ => rfl
  | x :: l, i, s, h => by
    have := h x (by simp)
    simp only [runM, runA]
    rw [if_neg (by omega), runM_all (fun z hz => h z (by simp [hz]))]
theorem ev32i (pre post : List Bk) (x : Bk) (mo : Int) (left : List Int) (hk : x.kind ≠ 1) (hl : (pre ++ x :: post).length ≤ 3000) (hf : left.length ≤ pre.length) : ∀ (ra c : List Sd), (∀ z ∈ c, ¬ z.waits x.ref) → (ra.reverse ++ c).length ≤ 3000 →
    Ev (fun k => iter B32x0 k [.row ((pre ++ x :: post).map Bk.d), .int mo, .int (pre.length : Int), .int ((ra.length : Int) - 1), .row ((ra.reverse ++ c).map Sd.d), .row (left.map .int)])
      [.row ((pre ++ x :: post).map Bk.d), .int mo, .int (pre.length : Int), .row ((stepA (ra.reverse ++ c, left) pre.length x).1.map Sd.d), .row ((stepA (ra.reverse ++ c, left) pre.length x).2.map .int)]
  | [], c, hc, ho => by
    simp only [List.length_append, List.length_cons] at hl
    refine Ev.iter (Ev.of fun k => ?_)
    unfold B32x0
    simp only [gt_zero, gt_succ, int_i, row_r, List.length_nil, Int.natCast_zero, List.reverse_nil, List.nil_append]
    rw [show ((0 : Int) - 1) = -1 from rfl, decide_eq_false (show ¬ ((-1 : Int) ≥ 0) by omega), decide_eq_true (show (-1 : Int) < 0 by omega)]
    simp only [cond_false, cond_true, Option.bind_some, gt_zero, bool_b]
    rw [needOk_yes (by simp; omega)]
    simp [stepA, if_neg hk, close_none hc]
  | y :: ra, c, hc, ho => by
    have hout : (y :: ra).reverse ++ c = ra.reverse ++ y :: c := by simp
    rw [hout] at ho ⊢
    have h1 : (pre.length : Int) < ((pre ++ x :: post).length : Int) := by simp; omega
    have h2 : inRow (pre.length : Int) ((pre ++ x :: post).map Bk.d).length = true := inRow_yes (by omega) (by simpa using h1)
    have h3 : ((y :: ra).length : Int) - 1 = (ra.reverse.length : Int) := by simp
    have h4 : inRow (ra.reverse.length : Int) ((ra.reverse ++ y :: c).map Sd.d).length = true := inRow_yes (by omega) (by simp; omega)
    have h5 : IntKind.i64.wrap ((ra.reverse.length : Int) - 1) = (ra.length : Int) - 1 := by
      simp only [List.length_append, List.length_cons] at ho
      rw [w64 (by omega) (by omega)]; simp
    have h11 : ra.reverse.length < ((ra.reverse ++ y :: c).map Sd.d).length := by simp
    rw [h3]
    simp only [List.length_append, List.length_cons] at hl
    refine Ev.iter ?_
    by_cases hy : y.waits x.ref
    · refine Ev.of fun k => ?_
      unfold B32x0
      simp only [gt_zero, gt_succ, int_i, row_r, str_s, elAt_mid, Bk.c1, Bk.c3, Bk.c4, Sd.c0, Sd.c1, Sd.c2, Sd.c3, Sd.c4, h2, h4, cond_true, Bool.and_true, toList_beq hy.1, Bool.not_true, cond_false, Int.toNat_natCast, elAt_set h11, List.length_set, agg_c, List.getD_cons_zero, List.getD_cons_succ, List.set_set]
      rw [decide_eq_true (show ((ra.reverse.length : Int)) ≥ 0 by omega), decide_eq_false (show ¬ (y.answer ≥ 0) by have := hy.2; omega), decide_eq_false (show ¬ ((ra.reverse.length : Int) < 0) by omega)]
      simp only [cond_true, cond_false, Option.bind_some, gt_zero, bool_b]
      simp [stepA, if_neg hk, close_mid hy hc, Sd.done, Sd.d, List.set_append]
    · have ih := ev32i pre post x mo left hk (by simp; omega) hf ra (y :: c) (fun z hz => by
        rcases List.mem_cons.1 hz with rfl | hz
        · exact hy
        · exact hc z hz) ho
      refine Ev.congr (fun k => ?_) ih
      unfold B32x0
      simp only [gt_zero, gt_succ, int_i, row_r, str_s, elAt_mid, Bk.c1, Bk.c3, Bk.c4, Sd.c0, Sd.c3, h2, h4, cond_true, Bool.and_true, h5]
      rw [decide_eq_true (show ((ra.reverse.length : Int)) ≥ 0 by omega)]
      by_cases hr : y.ref = x.ref
      · simp only [toList_beq hr, Bool.not_true, cond_true, cond_false]
        rw [decide_eq_true (show y.answer ≥ 0 by have : ¬ y.answer < 0 := fun h => hy ⟨hr, h⟩; omega)]
        simp [gt_zero, bool_b]
      · simp only [toList_bne hr, Bool.not_false, cond_true]
        simp [gt_zero, bool_b]
theorem ev32 (mo : Int) : ∀ (post pre : List Bk) (out : List Sd) (left : List Int), (pre ++ post).length ≤ 3000 → out.length ≤ pre.length → left.length ≤ pre.length →
    Ev (fun k => iter B32x1 k [.row ((pre ++ post).map Bk.d), .int mo, .int (pre.length : Int), .row (out.map Sd.d), .row (left.map .int)]) [.row ((runM mo post pre.length (out, left)).1.map Sd.d), .row ((runM mo post pre.length (out, left)).2.map .int)]
  | [], pre, out, left, _, _, _ => by
    refine Ev.iter (Ev.of fun k => ?_)
    unfold B32x1
    simp [gt_zero, gt_succ, int_i, row_r, runM]
  | x :: post, pre, out, left, hl, ho, hf => by
    have hl2 : ((pre ++ [x]) ++ post).length ≤ 3000 := by simpa using hl
    have hpp : (pre ++ [x]) ++ post = pre ++ x :: post := by simp
    have hpl : (pre ++ [x]).length = pre.length + 1 := by simp
    have hl3 := hl
    simp only [List.length_append, List.length_cons] at hl3
    have h1 : (pre.length : Int) < (((pre ++ x :: post).map Bk.d).length : Int) := by simp; omega
    have h2 : inRow (pre.length : Int) ((pre ++ x :: post).map Bk.d).length = true := inRow_yes (by omega) h1
    have h3 : IntKind.i64.wrap ((pre.length : Int) + 1) = ((pre ++ [x]).length : Int) := by rw [w64 (by omega) (by omega), hpl]; simp
    refine Ev.iter ?_
    by_cases ht : x.time > mo
    · have ih := ev32 mo post (pre ++ [x]) out left hl2 (by omega) (by omega)
      rw [hpp] at ih
      refine Ev.congr (fun k => ?_) (ih.cast ?_)
      · unfold B32x1
        simp only [gt_zero, gt_succ, int_i, row_r, str_s, elAt_mid, Bk.c1, h1, h2, decide_true, cond_true, Bool.and_true, decide_eq_true ht, Option.bind_some, h3]
      · simp only [hpl, runM, if_pos ht]
    by_cases hk : x.kind = 1
    · have ih := ev32 mo post (pre ++ [x]) (out ++ [(⟨x.ref, x.time, x.due, -1, 0⟩ : Sd)]) left hl2 (by simp; omega) (by omega)
      rw [hpp] at ih
      refine Ev.congr (fun k => ?_) (ih.cast ?_)
      · unfold B32x1
        simp only [gt_zero, gt_succ, int_i, row_r, str_s, elAt_mid, Bk.c0, Bk.c1, Bk.c2, Bk.c3, h1, h2, decide_true, cond_true, Bool.and_true, decide_eq_false ht, cond_false, beqI_true hk]
        rw [needOk_yes (by simp; omega)]
        simp only [cond_true, Option.bind_some, gt_zero, gt_succ, int_i, row_r, h3]
        simp [Sd.d]
      · simp only [hpl, runM, if_neg ht, stepA, if_pos hk]
    · have hi := ev32i pre post x mo left hk hl hf out.reverse [] (fun z hz => by simp at hz) (by simp; omega)
      simp only [List.reverse_reverse, List.append_nil, List.length_reverse] at hi
      have hlen : (stepA (out, left) pre.length x).1.length ≤ pre.length + 1 ∧ (stepA (out, left) pre.length x).2.length ≤ pre.length + 1 := by
        simp only [stepA, if_neg hk]
        split
        · rename_i l hc
          have := close_len hc
          simp only; omega
        · simp; omega
      have ih := ev32 mo post (pre ++ [x]) _ _ hl2 (by rw [hpl]; exact hlen.1) (by rw [hpl]; exact hlen.2)
      rw [hpp] at ih
      have h4 : IntKind.i64.wrap (((out.map Sd.d).length : Int) - 1) = (out.length : Int) - 1 := by rw [List.length_map, w64 (by omega) (by omega)]
      refine Ev.congr (g := fun k => (iter B32x0 k [.row ((pre ++ x :: post).map Bk.d), .int mo, .int (pre.length : Int), .int ((out.length : Int) - 1), .row (out.map Sd.d), .row (left.map .int)]).bind fun ds7 =>
        iter B32x1 k [D.row (gt ds7 0).r, D.int (gt ds7 1).i, D.int (IntKind.i64.wrap ((gt ds7 2).i + 1)), D.row (gt ds7 3).r, D.row (gt ds7 4).r]) (fun k => ?_) (Ev.bind hi ?_)
      · unfold B32x1
        simp only [gt_zero, gt_succ, int_i, row_r, str_s, elAt_mid, Bk.c0, Bk.c1, Bk.c2, Bk.c3, h1, h2, decide_true, cond_true, Bool.and_true, decide_eq_false ht, cond_false, beqI_false hk, h4]
      · simp only [gt_zero, gt_succ, int_i, row_r, h3]
        refine ih.cast ?_
        simp only [hpl, runM, if_neg ht]
theorem book32 (es : List Bk) (mo : Int) (hl : es.length ≤ 3000) : Ev (fun k => F32 k [.row (es.map Bk.d), .int mo]) [.row ((runM mo es 0 ([], [])).1.map Sd.d), .row ((runM mo es 0 ([], [])).2.map .int)] := by
  have := ev32 mo es [] [] [] (by simpa using hl) (Nat.le_refl _) (Nat.le_refl _)
  refine Ev.congr (fun k => ?_) this
  simp [F32, gt_zero, gt_succ, row_r, int_i]

/-! ### References -/
def capD (b : UInt8) : Bool := decide ((65 ≤ b.toNat ∧ b.toNat ≤ 90) ∨ (48 ≤ b.toNat ∧ b.toNat ≤ 57) ∨ b.toNat = 45)
def isRef (s : ByteArray) : Bool := s.data.toList.all capD && decide (1 ≤ s.size ∧ s.size ≤ 14)
theorem ba_len (s : ByteArray) : s.data.toList.length = s.size := by simp
theorem ev41 (s : ByteArray) (hs : s.size ≤ 140737488351232) : ∀ (post pre : List UInt8), s.data.toList = pre ++ post → Ev (fun k => iter B41x0 k [.str s, .int (pre.length : Int)]) [.bool (post.all capD && decide (1 ≤ s.size ∧ s.size ≤ 14))]
  | [], pre, hp => by
    have hsz : s.size = pre.length := by
      have := congrArg List.length hp
      rw [ba_len] at this
      simpa using this
    refine Ev.iter (Ev.of fun k => ?_)
    unfold B41x0
    simp only [gt_zero, gt_succ, int_i, str_s]
    rw [decide_eq_false (by omega)]
    simp only [cond_false, ByteArray.toList_eq]
    by_cases h0 : s.data.toList = []
    · have : s.size = 0 := by rw [← ba_len, h0]; rfl
      simp [h0, this]
    · have : s.size ≠ 0 := fun h => h0 (List.eq_nil_of_length_eq_zero (by rw [ba_len]; exact h))
      have h1 : (s.data.toList == (ByteArray.mk #[]).data.toList) = false := by simpa using h0
      rw [h1]
      simp only [Bool.not_false, cond_true, List.all_nil, Bool.true_and]
      congr 3
      exact decide_eq_decide.2 (by omega)
  | b :: post, pre, hp => by
    have hsz : s.size = pre.length + (post.length + 1) := by
      have := congrArg List.length hp
      rw [ba_len] at this
      simpa using this
    have h2 : inRow (pre.length : Int) s.size = true := inRow_yes (by omega) (by omega)
    have h3 : s.toList.getD pre.length 0 = b := by rw [ByteArray.toList_eq, hp]; simp [List.getD_eq_getElem?_getD]
    refine Ev.iter ?_
    have ih := ev41 s hs post (pre ++ [b]) (by simp [hp])
    have key : ∀ k rec1, B41x0 k rec1 [.str s, .int (pre.length : Int)] = bif capD b then rec1 [.str s, .int ((pre ++ [b]).length : Int)] else some [.bool false] := fun k rec1 => by
      unfold B41x0
      simp only [gt_zero, gt_succ, int_i, str_s, h2, Bool.and_true, cond_true, Int.toNat_natCast, h3]
      rw [decide_eq_true (show (pre.length : Int) < (s.size : Int) by omega)]
      simp only [cond_true]
      have hw : IntKind.i64.wrap ((pre.length : Int) + 1) = ((pre ++ [b]).length : Int) := by rw [w64 (by omega) (by omega)]; simp
      simp only [hw]
      by_cases c1 : 65 ≤ b.toNat
      · by_cases c2 : b.toNat ≤ 90
        · rw [show capD b = true from decide_eq_true (by omega), decide_eq_true (show ((b.toNat : Int)) ≥ 65 by omega), decide_eq_true (show ((b.toNat : Int)) ≤ 90 by omega)]
          simp [gt_zero, bool_b]
        · rw [show capD b = false from decide_eq_false (by omega), decide_eq_true (show ((b.toNat : Int)) ≥ 65 by omega), decide_eq_false (show ¬ ((b.toNat : Int)) ≤ 90 by omega), decide_eq_true (show ((b.toNat : Int)) ≥ 48 by omega), decide_eq_false (show ¬ ((b.toNat : Int)) ≤ 57 by omega), beqI_false (show ((b.toNat : Int)) ≠ 45 by omega)]
          simp [gt_zero, bool_b]
      · rw [decide_eq_false (show ¬ ((b.toNat : Int)) ≥ 65 by omega)]
        by_cases c2 : 48 ≤ b.toNat
        · by_cases c3 : b.toNat ≤ 57
          · rw [show capD b = true from decide_eq_true (by omega), decide_eq_true (show ((b.toNat : Int)) ≥ 48 by omega), decide_eq_true (show ((b.toNat : Int)) ≤ 57 by omega)]
            simp [gt_zero, bool_b]
          · rw [show capD b = false from decide_eq_false (by omega), decide_eq_true (show ((b.toNat : Int)) ≥ 48 by omega), decide_eq_false (show ¬ ((b.toNat : Int)) ≤ 57 by omega), beqI_false (show ((b.toNat : Int)) ≠ 45 by omega)]
            simp [gt_zero, bool_b]
        · rw [decide_eq_false (show ¬ ((b.toNat : Int)) ≥ 48 by omega)]
          by_cases c3 : b.toNat = 45
          · rw [show capD b = true from decide_eq_true (by omega), beqI_true (show ((b.toNat : Int)) = 45 by omega)]
            simp [gt_zero, bool_b]
          · rw [show capD b = false from decide_eq_false (by omega), beqI_false (show ((b.toNat : Int)) ≠ 45 by omega)]
            simp [gt_zero, bool_b]
    refine Ev.congr (fun k => key k _) ?_
    cases hc : capD b
    · refine Ev.of fun k => ?_
      simp [hc]
    · refine Ev.congr (fun k => ?_) (ih.cast ?_)
      · rfl
      · simp [hc]
theorem ref41 (s : ByteArray) (hs : s.size ≤ 140737488351232) : Ev (fun k => F41 k [.str s]) [.bool (isRef s)] := by
  have := ev41 s hs s.data.toList [] rfl
  exact Ev.congr (fun k => by simp [F41, gt_zero, str_s]) this
theorem drop_nil {α : Type} (p : α → Bool) : ∀ l : List α, l.dropWhile p = [] ↔ ∀ x ∈ l, p x = true
  | [] => by simp
  | a :: l => by
    by_cases h : p a = true
    · simp [List.dropWhile_cons, h, drop_nil p l]
    · simp [List.dropWhile_cons, h]
theorem trim_nil (l cs : List UInt8) : Lib.trimS l cs = [] ↔ ∀ b ∈ l, cs.contains b = true := by
  unfold Lib.trimS Lib.trimLeftS Lib.trimRightS
  rw [drop_nil]
  constructor
  · intro h
    have h2 : ∀ x ∈ (l.reverse.dropWhile (cs.contains ·)), cs.contains x = true := fun x hx => h x (by simpa using hx)
    have h3 : l.reverse.dropWhile (cs.contains ·) = [] := by
      cases hd : l.reverse.dropWhile (cs.contains ·) with
      | nil => rfl
      | cons a t =>
        have ha := List.head?_dropWhile_not (cs.contains ·) l.reverse
        rw [hd] at ha h2
        have := h2 a (by simp)
        simp at ha
        simp_all
    intro b hb
    exact (drop_nil _ _).1 h3 b (by simpa using hb)
  · intro h x hx
    have : x ∈ l.reverse := (List.dropWhile_sublist _).subset (by simpa using hx)
    exact h x (by simpa using this)
set_option maxRecDepth 100000 in
theorem cap_okn : ∀ n : Nat, n < 256 → ([65, 66, 67, 68, 69, 70, 71, 72, 73, 74, 75, 76, 77, 78, 79, 80, 81, 82, 83, 84, 85, 86, 87, 88, 89, 90, 48, 49, 50, 51, 52, 53, 54, 55, 56, 57, 45] : List UInt8).contains (UInt8.ofNat n) = decide ((65 ≤ n ∧ n ≤ 90) ∨ (48 ≤ n ∧ n ≤ 57) ∨ n = 45) := by decide
theorem ref43 (k : Nat) (s : ByteArray) : F43 k [.str s] = some [.bool (isRef s)] := by
  unfold F43 isRef
  simp only [gt_zero, str_s]
  by_cases h1 : 1 ≤ s.size
  · have e1 : decide ((s.size : Int) ≥ 1) = true := decide_eq_true (by omega)
    simp only [e1, cond_true]
    by_cases h2 : s.size ≤ 14
    · rw [decide_eq_true (show (s.size : Int) ≤ 14 by omega), decide_eq_true (show 1 ≤ s.size ∧ s.size ≤ 14 from ⟨h1, h2⟩)]
      simp only [cond_true, F51, trimK, gt_zero, gt_succ, str_s]
      rw [decide_eq_true (show s.size ≤ 9223372036854775807 by omega)]
      simp only [Bool.true_and]
      rw [show (decide ((ByteArray.mk #[65, 66, 67, 68, 69, 70, 71, 72, 73, 74, 75, 76, 77, 78, 79, 80, 81, 82, 83, 84, 85, 86, 87, 88, 89, 90, 48, 49, 50, 51, 52, 53, 54, 55, 56, 57, 45]).size < 4294967281) && (ByteArray.mk #[65, 66, 67, 68, 69, 70, 71, 72, 73, 74, 75, 76, 77, 78, 79, 80, 81, 82, 83, 84, 85, 86, 87, 88, 89, 90, 48, 49, 50, 51, 52, 53, 54, 55, 56, 57, 45]).data.toList.all (fun b => decide (b.toNat < 128))) = true by decide]
      simp only [cond_true, Option.bind_some, gt_zero, str_s, ByteArray.toList_eq, Bool.and_true]
      congr 3
      rw [Bool.eq_iff_iff, beq_iff_eq, List.all_eq_true]
      show Lib.trimS _ _ = [] ↔ _
      rw [trim_nil]
      refine forall_congr' fun b => forall_congr' fun _ => ?_
      have := cap_okn b.toNat (by have := b.toNat_lt; omega)
      rw [UInt8.ofNat_toNat] at this
      unfold capD
      rw [← this]
    · rw [decide_eq_false (show ¬ (s.size : Int) ≤ 14 by omega), decide_eq_false (show ¬ (1 ≤ s.size ∧ s.size ≤ 14) by omega)]
      simp
  · rw [decide_eq_false (show ¬ (s.size : Int) ≥ 1 by omega), decide_eq_false (show ¬ (1 ≤ s.size ∧ s.size ≤ 14) by omega)]
    simp
end Go.Sx
