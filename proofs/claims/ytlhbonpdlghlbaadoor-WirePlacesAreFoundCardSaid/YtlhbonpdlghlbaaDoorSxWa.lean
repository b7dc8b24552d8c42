/- Segments: marks, tags, texts, what is wrong with them. -/
import Derived.Test.YtlhbonpdlghlbaaDoorSxE
import Derived.Test.YtlhbonpdlghlbaaDoorSxEvD
set_option linter.unusedVariables false
set_option linter.unusedSimpArgs false
namespace Go.Sx
/-! ### Marks -/
def mkI (n : Int) : Bool := decide ((33 ≤ n ∧ n ≤ 126) ∧ n ≠ 46 ∧ n ≠ 45 ∧ n ≠ 43 ∧ n ≠ 95 ∧ ¬ (65 ≤ n ∧ n ≤ 90) ∧ ¬ (97 ≤ n ∧ n ≤ 122) ∧ ¬ (48 ≤ n ∧ n ≤ 57))
theorem beqd (a b : Int) : (a == b) = decide (a = b) := rfl
theorem mk36 (k : Nat) (n : Int) : F36 k [.int n] = some [.bool (mkI n)] := by
  unfold F36
  simp only [gt_zero, int_i]
  have e1 : (bif decide (n < 33) then some [D.bool true] else bif decide (n > 126) then some [D.bool true] else bif (n == 46) then some [D.bool true] else bif (n == 45) then some [D.bool true] else bif (n == 43) then some [D.bool true] else some [D.bool (n == 95)]) = some [D.bool (decide (n < 33) || (decide (n > 126) || ((n == 46) || ((n == 45) || ((n == 43) || (n == 95))))))] := by
    cases decide (n < 33) <;> cases decide (n > 126) <;> cases (n == 46) <;> cases (n == 45) <;> cases (n == 43) <;> rfl
  rw [e1]
  simp only [Option.bind_some, gt_zero, bool_b]
  by_cases h1 : n < 33 ∨ n > 126 ∨ n = 46 ∨ n = 45 ∨ n = 43 ∨ n = 95
  · rw [show (decide (n < 33) || (decide (n > 126) || ((n == 46) || ((n == 45) || ((n == 43) || (n == 95)))))) = true by simp only [beqd]; simpa using h1]
    rw [show mkI n = false from decide_eq_false (by omega)]
    rfl
  · rw [show (decide (n < 33) || (decide (n > 126) || ((n == 46) || ((n == 45) || ((n == 43) || (n == 95)))))) = false by simp only [beqd]; simpa using h1]
    simp only [cond_false]
    by_cases h2 : 65 ≤ n ∧ n ≤ 90
    · rw [decide_eq_true (show n ≥ 65 by omega), decide_eq_true (show n ≤ 90 by omega), show mkI n = false from decide_eq_false (by omega)]; rfl
    · by_cases h3 : 97 ≤ n ∧ n ≤ 122
      · rw [decide_eq_true (show n ≥ 65 by omega), decide_eq_false (show ¬ n ≤ 90 by omega), decide_eq_true (show n ≥ 97 by omega), decide_eq_true (show n ≤ 122 by omega), show mkI n = false from decide_eq_false (by omega)]; rfl
      · by_cases h4 : 48 ≤ n ∧ n ≤ 57
        · rw [decide_eq_false (show ¬ n ≥ 65 by omega), decide_eq_false (show ¬ n ≥ 97 by omega), decide_eq_true (show n ≥ 48 by omega), decide_eq_true (show n ≤ 57 by omega), show mkI n = false from decide_eq_false (by omega)]; rfl
        · rw [show mkI n = true from decide_eq_true (by omega)]
          have t : ∀ x : Option (List D), x = some [D.bool true] → (bif decide (n ≥ 48) then some [D.bool (!decide (n ≤ 57))] else some [D.bool true]) = some [D.bool true] := fun _ _ => by
            by_cases h5 : n ≥ 48
            · rw [decide_eq_true h5, decide_eq_false (show ¬ n ≤ 57 by omega)]; rfl
            · rw [decide_eq_false h5]; rfl
          rw [t _ rfl]
          by_cases h6 : n ≥ 65
          · rw [decide_eq_true h6, decide_eq_false (show ¬ n ≤ 90 by omega)]
            by_cases h7 : n ≥ 97
            · rw [decide_eq_true h7, decide_eq_false (show ¬ n ≤ 122 by omega)]; rfl
            · rw [decide_eq_false h7]; rfl
          · rw [decide_eq_false h6, decide_eq_false (show ¬ n ≥ 97 by omega)]; rfl
theorem enc_one (n : Int) (h0 : 0 ≤ n) (h1 : n < 128) : Utf8.encode n = ⟨#[UInt8.ofNat n.toNat]⟩ := by
  unfold Utf8.encode
  have hv : Utf8.valid n = true := by simp [Utf8.valid]; omega
  simp only [hv, if_true]
  rw [if_pos (by omega)]
set_option maxRecDepth 100000 in
theorem any_okn : ∀ n : Nat, n < 128 → Lib.containsAny [UInt8.ofNat n] [46, 45, 43, 95] = decide (n = 46 ∨ n = 45 ∨ n = 43 ∨ n = 95) := by decide
/-- Of some bytes alone. -/
theorem trim87 (k : Nat) (s cs : ByteArray) (hs : s.size ≤ 140737488351232) (hc : (decide (cs.size < 4294967281) && cs.data.toList.all (fun b => decide (b.toNat < 128))) = true) :
    ∃ t, F87 k [.str s, .str cs] = some [.str t] ∧ ((ByteArray.toList t) == (ByteArray.toList (ByteArray.mk #[]))) = s.data.toList.all (fun b => cs.data.toList.contains b) := by
  refine ⟨⟨(Lib.trimS s.data.toList cs.data.toList).toArray⟩, ?_, ?_⟩
  · simp only [F87, trimK, gt_zero, gt_succ, str_s]
    rw [decide_eq_true (show s.size ≤ 9223372036854775807 by omega), Bool.true_and, hc]
    rfl
  · rw [ByteArray.toList_eq, ByteArray.toList_eq, Bool.eq_iff_iff, beq_iff_eq, List.all_eq_true]
    show Lib.trimS _ _ = [] ↔ _
    rw [trim_nil]
theorem tag68 (k : Nat) (s : ByteArray) (hs : s.size ≤ 140737488351232) : F68 k [.str s] = some [.bool (s.data.toList.all tgB)] := by
  unfold F68
  simp only [gt_zero, str_s]
  obtain ⟨t, ht, hte⟩ := trim87 k s (ByteArray.mk #[65, 66, 67, 68, 69, 70, 71, 72, 73, 74, 75, 76, 77, 78, 79, 80, 81, 82, 83, 84, 85, 86, 87, 88, 89, 90, 48, 49, 50, 51, 52, 53, 54, 55, 56, 57]) hs (by decide)
  rw [ht]
  simp only [Option.bind_some, gt_zero, str_s, hte]
  congr 3
  exact all_of (fun b => by
    have := tg_okn b.toNat (by have := b.toNat_lt; omega)
    rw [UInt8.ofNat_toNat] at this
    exact this) _
def inB (lo hi : Int) (b : UInt8) : Bool := decide (lo ≤ (b.toNat : Int) ∧ (b.toNat : Int) ≤ hi)
theorem in69 (s : ByteArray) (lo hi : Int) (hs : s.size ≤ 140737488351232) : Ev (fun k => F69 k [.str s, .int lo, .int hi]) [.bool (s.data.toList.all (inB lo hi))] := by
  have := Ev.scan (B := B69x0) s.data.toList (fun pre => [.str s, .int lo, .int hi, .int (s.size : Int), .int (pre.length : Int)]) (fun pre post => [.bool (post.all (inB lo hi))]) ?_ ?_
  · exact Ev.congr (fun k => by simp [F69, gt_zero, gt_succ, str_s, int_i]) this
  · refine Ev.of fun k => ?_
    unfold B69x0
    simp only [gt_zero, gt_succ, int_i, str_s, end_of, cond_false]
    rfl
  · intro pre b post go hp ih
    have a := sat_of hp hs
    unfold B69x0
    simp only [gt_zero, gt_succ, int_i, str_s, a.el, a.inr, a.lt, a.up, Bool.and_true, cond_true, List.all_cons]
    by_cases h1 : (b.toNat : Int) < lo
    · rw [decide_eq_true h1, show inB lo hi b = false from decide_eq_false (by omega)]
      simp only [cond_true, Option.bind_some, gt_zero, bool_b]
      exact Ev.now _
    · rw [decide_eq_false h1]
      by_cases h2 : (b.toNat : Int) > hi
      · rw [decide_eq_true h2, show inB lo hi b = false from decide_eq_false (by omega)]
        simp only [cond_true, cond_false, Option.bind_some, gt_zero, bool_b]
        exact Ev.now _
      · rw [decide_eq_false h2, show inB lo hi b = true from decide_eq_true (by omega)]
        simp only [cond_false, Option.bind_some, gt_zero, bool_b]
        exact ih
theorem mk37 (n : Int) : Ev (fun k => F37 k [.int n]) [.bool (mkI n)] := by
  unfold F37
  simp only [gt_zero, int_i]
  by_cases h0 : n ≥ 33
  case neg => exact Ev.neg (decide_eq_false h0) ((Ev.now _).cast (by rw [show mkI n = false from decide_eq_false (by omega)]))
  refine Ev.pos (decide_eq_true h0) ?_
  by_cases h1 : n ≤ 126
  case neg => exact Ev.neg (decide_eq_false h1) ((Ev.now _).cast (by rw [show mkI n = false from decide_eq_false (by omega)]))
  refine Ev.pos (decide_eq_true h1) ?_
  rw [enc_one n (by omega) (by omega)]
  have hN : n.toNat < 128 := by omega
  have hb : (UInt8.ofNat n.toNat).toNat = n.toNat := by simp; omega
  have hsz : (ByteArray.mk #[UInt8.ofNat n.toNat]).size ≤ 140737488351232 := by show 1 ≤ _; omega
  refine Ev.bind (Ev.of fun k => tag68 k _ hsz) ?_
  simp only [gt_zero, bool_b, List.all_cons, List.all_nil, Bool.and_true]
  by_cases h2 : (65 ≤ n ∧ n ≤ 90) ∨ (48 ≤ n ∧ n ≤ 57)
  · rw [show tgB (UInt8.ofNat n.toNat) = true from decide_eq_true (by rw [hb]; omega), show mkI n = false from decide_eq_false (by omega)]
    exact Ev.now _
  rw [show tgB (UInt8.ofNat n.toNat) = false from decide_eq_false (by rw [hb]; omega)]
  refine Ev.bind (in69 _ 97 122 hsz) ?_
  simp only [gt_zero, bool_b, List.all_cons, List.all_nil, Bool.and_true]
  by_cases h3 : 97 ≤ n ∧ n ≤ 122
  · rw [show inB 97 122 (UInt8.ofNat n.toNat) = true from decide_eq_true (by rw [hb]; omega), show mkI n = false from decide_eq_false (by omega)]
    exact Ev.now _
  rw [show inB 97 122 (UInt8.ofNat n.toNat) = false from decide_eq_false (by rw [hb]; omega)]
  have h70 : ∀ k, F70 k [.str ⟨#[UInt8.ofNat n.toNat]⟩, .str ⟨#[46, 45, 43, 95]⟩] = some [.bool (decide (n.toNat = 46 ∨ n.toNat = 45 ∨ n.toNat = 43 ∨ n.toNat = 95))] := fun k => by
    simp only [F70, containsAnyK, gt_zero, gt_succ, str_s]
    have hc : (decide ((ByteArray.mk #[UInt8.ofNat n.toNat]).size < 4294967281) && (decide ((ByteArray.mk #[46, 45, 43, 95]).size < 4294967281) && (List.all [UInt8.ofNat n.toNat] (fun b => decide (b.toNat < 128)) && List.all ([46, 45, 43, 95] : List UInt8) (fun b => decide (b.toNat < 128))))) = true := by
      rw [show List.all [UInt8.ofNat n.toNat] (fun b => decide (b.toNat < 128)) = true by simp only [List.all_cons, List.all_nil, Bool.and_true, hb, decide_eq_true hN]]
      rfl
    rw [show (decide ((ByteArray.mk #[UInt8.ofNat n.toNat]).size < 4294967281) && (decide ((ByteArray.mk #[46, 45, 43, 95]).size < 4294967281) && ((ByteArray.mk #[UInt8.ofNat n.toNat]).data.toList.all (fun b => decide (b.toNat < 128)) && (ByteArray.mk #[46, 45, 43, 95]).data.toList.all (fun b => decide (b.toNat < 128))))) = true from hc]
    simp only [cond_true]
    congr 3
    exact any_okn n.toNat hN
  refine Ev.bind (Ev.of h70) ?_
  simp only [gt_zero, bool_b]
  refine (Ev.now _).cast ?_
  congr 2
  unfold mkI
  by_cases h4 : n = 46 ∨ n = 45 ∨ n = 43 ∨ n = 95
  · rw [decide_eq_true (show n.toNat = 46 ∨ n.toNat = 45 ∨ n.toNat = 43 ∨ n.toNat = 95 by omega)]
    symm; exact decide_eq_false (by omega)
  · rw [decide_eq_false (show ¬ (n.toNat = 46 ∨ n.toNat = 45 ∨ n.toNat = 43 ∨ n.toNat = 95) by omega)]
    symm; exact decide_eq_true (by omega)
/-- Marks. -/
structure Mk where
  e : Int
  p : Int
  r : Int
  x : Int
  z : Int
def Mk.is (m : Mk) (b : Int) : Bool := (b == m.e) || ((b == m.p) || ((b == m.r) || ((b == m.z) || ((m.x != 0) && (b == m.x)))))
def Mk.dup (m : Mk) : Bool := (m.p == m.e) || ((m.r == m.e) || ((m.r == m.p) || ((m.z == m.e) || ((m.z == m.p) || ((m.z == m.r) || ((m.x == m.e) || ((m.x == m.p) || ((m.x == m.r) || (m.x == m.z)))))))))
def Mk.bad (m : Mk) : Bool := (!mkI m.e) || ((!mkI m.p) || ((!mkI m.r) || ((!mkI m.z) || ((m.x != 0) && !mkI m.x))))
def Mk.ck (m : Mk) : Int := bif m.bad then 3 else bif m.dup then 7 else 0
theorem is98 (k : Nat) (m : Mk) (b : Int) : F98 k [.int m.e, .int m.p, .int m.r, .int m.x, .int m.z, .int b] = some [.bool (m.is b)] := by
  unfold F98 Mk.is
  simp only [gt_zero, gt_succ, int_i]
  cases (b == m.e) <;> cases (b == m.p) <;> cases (b == m.r) <;> cases (b == m.z) <;> cases (m.x != 0) <;> rfl
theorem is99 (k : Nat) (m : Mk) (b : Int) : F99 k [.int m.e, .int m.p, .int m.r, .int m.x, .int m.z, .int b] = some [.bool (m.is b)] := by
  unfold F99 Mk.is
  simp only [gt_zero, gt_succ, int_i]
  cases (b == m.e) <;> cases (b == m.p) <;> cases (b == m.r) <;> cases (b == m.z) <;> cases (m.x != 0) <;> rfl
theorem beq_sym (a b : Int) : (a == b) = (b == a) := by
  by_cases h : a = b
  · rw [beqI_true h, beqI_true h.symm]
  · rw [beqI_false h, beqI_false (fun e => h e.symm)]
theorem w1 : IntKind.i64.wrap (0 + 1) = 1 := by decide
theorem w2 : IntKind.i64.wrap (1 + 1) = 2 := by decide
theorem w3 : IntKind.i64.wrap (2 + 1) = 3 := by decide
theorem w4 : IntKind.i64.wrap (3 + 1) = 4 := by decide
theorem w5 : IntKind.i64.wrap (4 + 1) = 5 := by decide
theorem el0 (a : D) (l : List D) : elAt (a :: l) 0 = a := rfl
theorem el1 (a b : D) (l : List D) : elAt (a :: b :: l) 1 = b := rfl
theorem el2 (a b c : D) (l : List D) : elAt (a :: b :: c :: l) 2 = c := rfl
theorem el3 (a b c d : D) (l : List D) : elAt (a :: b :: c :: d :: l) 3 = d := rfl
theorem el4 (a b c d e : D) (l : List D) : elAt (a :: b :: c :: d :: e :: l) 4 = e := rfl
theorem len5 (a b c d e : D) : (([a, b, c, d, e].length : Nat) : Int) = 5 := rfl
theorem i0 (a b c d e : D) : inRow 0 [a, b, c, d, e].length = true := rfl
theorem i1 (a b c d e : D) : inRow 1 [a, b, c, d, e].length = true := rfl
theorem i2 (a b c d e : D) : inRow 2 [a, b, c, d, e].length = true := rfl
theorem i3 (a b c d e : D) : inRow 3 [a, b, c, d, e].length = true := rfl
theorem i4 (a b c d e : D) : inRow 4 [a, b, c, d, e].length = true := rfl
/-- Something is there twice. -/
def dupF : List D → List D → Bool
  | _, [] => false
  | pre, x :: post => (pre.any fun d => x.i == d.i) || dupF (pre ++ [x]) post
theorem dup11 (l : List D) (hl : l.length ≤ 140737488355328) : Ev (fun k => iter B11x1 k [.int 0, .row l]) [.int (bif dupF [] l then 7 else 0)] := by
  refine EvG.nat (EvG.loopN (f := fun _ n => iter B11x1 n [.int 0, .row l]) ?_)
  refine EvG.scan (ι := Nat) (B := fun _ => B11x1) l (fun pre => [.int (pre.length : Int), .row l]) (fun pre post => [.int (bif dupF pre post then 7 else 0)]) ?_ ?_
  · refine EvG.of fun p => ?_
    unfold B11x1
    simp only [gt_zero, gt_succ, int_i, row_r, no_more, cond_false]
    rfl
  · intro pre x post go hp ih
    have a := at_of hp hl
    have hpl : pre.length ≤ 140737488355328 := by rw [hp] at hl; simp at hl; omega
    unfold B11x1
    simp only [gt_zero, gt_succ, int_i, row_r, a.lt, cond_true]
    refine EvG.loop (f := fun p n => iter (B11x0 (go p)) n [.int (pre.length : Int), .int 0, .row l]) ?_
    refine (EvG.scan (ι := Nat × Nat) (B := fun p => B11x0 (go p)) pre (fun q => [.int (pre.length : Int), .int (q.length : Int), .row l]) (fun _ q => [.int (bif (q.any fun d => x.i == d.i) || dupF (pre ++ [x]) post then 7 else 0)]) ?_ ?_).cast ?_
    · unfold B11x0
      simp only [gt_zero, gt_succ, int_i, row_r, no_more, cond_false, a.up, List.any_nil, Bool.false_or]
      exact ih.fst
    · intro q y r go2 hq ih2
      have b := at_of hq hpl
      have b2 := at_of (l := l) (pre := q) (x := y) (post := r ++ x :: post) (by rw [hp, hq]; simp) hl
      unfold B11x0
      simp only [gt_zero, gt_succ, int_i, row_r, b.lt, b2.inr, b2.el, b2.up, a.inr, a.el, Bool.and_true, cond_true, List.any_cons]
      cases (x.i == y.i)
      · exact ih2
      · exact EvG.now _
    · rfl
theorem ck11 (m : Mk) : Ev (fun k => F11 k [.int m.e, .int m.p, .int m.r, .int m.x, .int m.z]) [.int m.ck] := by
  unfold F11
  simp only [gt_zero, gt_succ, int_i, mk36, Option.bind_some, bool_b]
  have e1 : (bif !mkI m.e then some [D.bool true] else bif !mkI m.p then some [D.bool true] else bif !mkI m.r then some [D.bool true] else bif !mkI m.z then some [D.bool true] else bif m.x != 0 then some [D.bool !mkI m.x] else some [D.bool false]) = some [D.bool m.bad] := by
    unfold Mk.bad
    cases mkI m.e <;> cases mkI m.p <;> cases mkI m.r <;> cases mkI m.z <;> cases (m.x != 0) <;> rfl
  rw [e1]
  simp only [Option.bind_some, gt_zero, bool_b]
  unfold Mk.ck
  cases m.bad
  case true => exact Ev.now _
  simp only [cond_false]
  unfold Mk.dup
  rw [beq_sym m.x m.z]
  refine (dup11 _ (show 5 ≤ _ by omega)).cast ?_
  simp only [dupF, List.any_cons, List.any_nil, Bool.or_false, List.nil_append, List.cons_append, int_i, Bool.false_or]
  cases (m.p == m.e) <;> cases (m.r == m.e) <;> cases (m.r == m.p) <;> try rfl
  cases (m.z == m.e) <;> cases (m.z == m.p) <;> cases (m.z == m.r) <;> cases (m.x == m.e) <;> cases (m.x == m.p) <;> cases (m.x == m.r) <;> cases (m.z == m.x) <;> rfl
theorem has71 (l : List D) (n : Int) (hl : l.length ≤ 140737488355328) : Ev (fun k => F38 k [.row l, .int n]) [.bool (l.any fun d => n == d.i)] := by
  have h := Ev.scan (B := B71x0) l (fun pre => [.row l, .int n, .int (l.length : Int), .int (pre.length : Int)]) (fun pre post => [.int (bif post.any (fun d => n == d.i) then ((pre.length + (post.findIdx fun d => n == d.i) : Nat) : Int) else -1)])
    (Ev.of fun k => by unfold B71x0; simp only [gt_zero, gt_succ, int_i, row_r, no_more, cond_false, List.any_nil])
    (fun pre x post go hp ih => by
      have a := at_of hp hl
      unfold B71x0
      simp only [gt_zero, gt_succ, int_i, row_r, a.el, a.inr, a.lt, a.up, Bool.and_true, cond_true, List.any_cons, List.findIdx_cons]
      cases (n == x.i)
      · refine ih.cast ?_
        simp only [cond_false, Bool.false_or, List.length_append, List.length_cons, List.length_nil]
        congr 2
        cases post.any (fun d => n == d.i) <;> simp <;> omega
      · exact (Ev.now _).cast (by simp))
  unfold F38
  simp only [gt_zero, gt_succ, int_i, row_r]
  refine Ev.bind (a := [.int (bif l.any (fun d => n == d.i) then ((0 + (l.findIdx fun d => n == d.i) : Nat) : Int) else -1)]) ?_ ?_
  · refine Ev.congr (fun k => ?_) h
    simp [F71, gt_zero, gt_succ, row_r, int_i]
  · refine (Ev.now _).cast ?_
    simp only [gt_zero, int_i]
    congr 2
    cases l.any (fun d => n == d.i)
    · rfl
    · exact decide_eq_true (by simp only [cond_true]; omega)
theorem dup12 (all : List D) (y : D) (hl : all.length + 1 ≤ 140737488355328) : Ev (fun k => iter B12x0 k [.int ((all ++ [y]).length : Int), .int 0, .row all, .row (all ++ [y])]) [.int (bif dupF [] (all ++ [y]) then 7 else 0)] := by
  refine Ev.scan (B := B12x0) (all ++ [y]) (fun pre => [.int ((all ++ [y]).length : Int), .int (pre.length : Int), .row all, .row (all ++ [y])]) (fun pre post => [.int (bif dupF pre post then 7 else 0)]) ?_ ?_
  · refine Ev.of fun p => ?_
    unfold B12x0
    simp only [gt_zero, gt_succ, int_i, row_r, no_more, cond_false]
    rfl
  · intro pre x post go hp ih
    have a := at_of hp (by simpa using hl)
    have hlen : pre.length ≤ all.length := by have := congrArg List.length hp; simp at this; omega
    have htk : all.take pre.length = pre := by
      have := congrArg (List.take pre.length) hp
      rw [List.take_append_of_le_length hlen] at this
      rw [this]; simp
    unfold B12x0
    simp only [gt_zero, gt_succ, int_i, row_r, a.lt, a.inr, a.el, a.up, Bool.and_true, cond_true]
    rw [show decide (((all.length : Nat) : Int) < (pre.length : Int)) = false from decide_eq_false (by omega)]
    simp only [cond_false]
    rw [show decide (0 ≤ (pre.length : Int)) = true from decide_eq_true (by omega), show decide ((pre.length : Int) ≤ (all.length : Int)) = true from decide_eq_true (by omega)]
    simp only [Bool.and_true, cond_true, Int.toNat_natCast, htk, List.drop_zero]
    refine Ev.bind (has71 pre x.i (by omega)) ?_
    simp only [gt_zero, bool_b, dupF]
    cases (pre.any fun d => x.i == d.i)
    · exact ih
    · exact Ev.now _
theorem ck12 (m : Mk) : Ev (fun k => F12 k [.int m.e, .int m.p, .int m.r, .int m.x, .int m.z]) [.int m.ck] := by
  have hb : ∀ (a b c d e : Bool), (bif a || (b || (c || d)) then (3 : Int) else bif e then 3 else 0) = bif a || (b || (c || (d || e))) then 3 else 0 := by decide
  have hI := dup12 [.int m.e, .int m.p, .int m.r, .int m.z] (.int m.x) (show 4 + 1 ≤ _ by omega)
  have hdup : dupF [] ([.int m.e, .int m.p, .int m.r, .int m.z] ++ [.int m.x]) = m.dup := by
    simp only [dupF, List.any_cons, List.any_nil, Bool.or_false, List.nil_append, List.cons_append, int_i, Bool.false_or, Mk.dup, Bool.or_assoc]
  rw [hdup] at hI
  let l : List D := [.int m.e, .int m.p, .int m.r, .int m.z]
  have hl : l.length = 4 := rfl
  have main := EvG.scan (ι := Nat) (B := fun _ => B12x1) l (fun pre => [.int 4, .int (pre.length : Int), .int m.e, .int m.p, .int m.r, .int m.x, .int m.z, .row l]) (fun _ post => [.int (bif (post.any fun d => !mkI d.i) || ((m.x != 0) && !mkI m.x) then 3 else bif m.dup then 7 else 0)]) ?_ ?_
  · unfold F12
    simp only [gt_zero, gt_succ, int_i]
    refine (EvG.nat (EvG.loopN (f := fun _ n => iter B12x1 n _) main)).cast ?_
    unfold Mk.ck Mk.bad
    simp only [l, List.any_cons, List.any_nil, Bool.or_false, int_i, Bool.or_assoc]
  · unfold B12x1
    simp only [gt_zero, gt_succ, int_i, row_r, hl, List.any_nil, Bool.false_or]
    refine EvG.neg (by decide) ?_
    refine EvG.bind (a := [.bool ((m.x != 0) && !mkI m.x)]) ?_ ?_
    · cases (m.x != 0)
      · exact EvG.now _
      · refine EvG.bind (Ev.snd (mk37 m.x)) ?_
        simp only [gt_zero, bool_b]
        exact EvG.now _
    · simp only [gt_zero, bool_b]
      cases ((m.x != 0) && !mkI m.x)
      · exact EvG.neg rfl (EvG.pos (needOk_yes (show (4 + 1) * 1 ≤ _ by omega)) (Ev.snd hI))
      · exact EvG.now _
  · intro pre x post go hp ih
    have a := at_of hp (by rw [hl]; omega)
    have h4 : decide ((pre.length : Int) < 4) = true := by have := a.lt; rw [hl] at this; exact this
    unfold B12x1
    simp only [gt_zero, gt_succ, int_i, row_r, a.inr, a.el, a.up, h4, Bool.and_true, cond_true, List.any_cons]
    refine EvG.bind (Ev.snd (mk37 x.i)) ?_
    simp only [gt_zero, bool_b]
    cases mkI x.i
    · exact EvG.now _
    · exact ih
end Go.Sx
