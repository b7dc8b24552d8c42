/- Segments: what is wrong with them. -/
import Derived.Test.YtlhbonpdlghlbaaDoorSxWa
set_option linter.unusedVariables false
set_option linter.unusedSimpArgs false
namespace Go.Sx
theorem tag72 (s : ByteArray) (hs : s.size ≤ 140737488351232) : Ev (fun k => F72 k [.str s]) [.bool (isTag s)] := by
  have h109 : Ev (fun k => F101 k [.str s]) [.bool (okFrom cpB tgB [] s.data.toList && decide (s.size ≤ 6))] := by
    have := Ev.scan (B := B101x0) s.data.toList (fun pre => [.str s, .int (pre.length : Int)]) (fun pre post => [.bool (okFrom cpB tgB pre post && decide (s.size ≤ 6))]) ?_ ?_
    · exact Ev.congr (fun k => by simp [F101, gt_zero, str_s]) this
    · refine Ev.of fun k => ?_
      unfold B101x0
      simp only [gt_zero, gt_succ, int_i, str_s, end_of, cond_false, okFrom_nil, Bool.true_and]
      congr 3
      exact decide_eq_decide.2 (by omega)
    · intro pre b post go hp ih
      have a := sat_of hp hs
      unfold B101x0
      simp only [gt_zero, gt_succ, int_i, str_s, a.el, a.inr, a.lt, a.up, Bool.and_true, cond_true]
      rw [okFrom_step, len_zero, cp_step b]
      simp only [Option.bind_some, gt_zero, bool_b]
      rw [tg_step]
      simp only [Option.bind_some, gt_zero, bool_b]
      cases (bif decide (pre.length = 0) then cpB b else tgB b)
      · exact Ev.now _
      · exact ih.cast (by simp)
  unfold F72 isTag
  simp only [gt_zero, str_s]
  by_cases h : 2 ≤ s.size
  · refine Ev.pos (decide_eq_true (by omega)) (Ev.bind h109 ?_)
    rw [decide_eq_true h]
    exact (Ev.now _).cast (by simp [gt_zero, bool_b])
  · refine Ev.neg (decide_eq_false (by omega)) ?_
    rw [decide_eq_false h]
    exact (Ev.now _).cast (by simp)
theorem tag40 (k : Nat) (s : ByteArray) (hs : s.size ≤ 140737488351232) : F40 k [.str s] = some [.bool (isTag s)] := by
  unfold F40 isTag
  simp only [gt_zero, str_s]
  by_cases h2 : 2 ≤ s.size
  case neg =>
    rw [decide_eq_false (show ¬ ((s.size : Nat) : Int) ≥ 2 by omega), decide_eq_false h2]; simp
  rw [decide_eq_true (show ((s.size : Nat) : Int) ≥ 2 by omega), decide_eq_true h2]
  by_cases h6 : s.size ≤ 6
  case neg =>
    rw [decide_eq_false (show ¬ ((s.size : Nat) : Int) ≤ 6 by omega), decide_eq_false h6]; simp
  rw [decide_eq_true (show ((s.size : Nat) : Int) ≤ 6 by omega), decide_eq_true h6, inRow_yes (by omega) (by omega)]
  obtain ⟨b, l, hp⟩ : ∃ b l, s.data.toList = b :: l := by
    cases hp : s.data.toList with
    | nil => have : s.size = 0 := by rw [← ba_len, hp]; rfl
             omega
    | cons b l => exact ⟨b, l, rfl⟩
  have hb : List.getD (ByteArray.toList s) 0 0 = b := by rw [ByteArray.toList_eq, hp]; rfl
  rw [hb]
  have e0 := cp_idx b.toNat (by have := b.toNat_lt; omega)
  simp only [F74, indexByteK, gt_zero, gt_succ, str_s, int_i, cond_true, Bool.and_true, Option.bind_some, tag68 k s hs, bool_b]
  have e1 : decide (Lib.indexByte (ByteArray.mk #[65, 66, 67, 68, 69, 70, 71, 72, 73, 74, 75, 76, 77, 78, 79, 80, 81, 82, 83, 84, 85, 86, 87, 88, 89, 90]).data.toList ((b.toNat : Int).toNat.toUInt8) ≥ 0) = cpB b := e0
  rw [e1, hp]
  simp only [okFrom, List.all_cons]
  have e3 : cpB b = true → tgB b = true := fun h => decide_eq_true (.inl (of_decide_eq_true h))
  cases hl : cpB b
  · rfl
  · rw [e3 hl]; simp
/-- The first fault of a list. -/
def fz (f : D → Int) : List D → Int
  | [] => 0
  | x :: l => bif f x != 0 then f x else fz f l
def txK (s : ByteArray) : Int := bif decide ((s.size : Int) > 1000) then 2 else bif s.data.toList.all (inB 32 126) then 0 else 3
def ptK (d : D) : Int := txK d.s
def rpK (d : D) : Int := bif ((d.r.length : Int) == 0) then 9 else bif decide ((d.r.length : Int) > 20) then 2 else fz ptK d.r
def elK (d : D) : Int := bif (((d.c 0).r.length : Int) == 0) then 9 else bif decide (((d.c 0).r.length : Int) > 20) then 2 else fz rpK (d.c 0).r
def sgK (d : D) : Int := bif !isTag (d.c 0).s then 5 else bif decide (((d.c 1).r.length : Int) > 50) then 2 else fz elK (d.c 1).r
def ckS (l : List D) : Int := bif decide ((l.length : Int) > 2000) then 2 else fz sgK l
def okR (P : D → Prop) (l : List D) : Prop := l.length ≤ 140737488355328 ∧ ∀ x ∈ l, P x
def okRp (d : D) : Prop := okR okS d.r
def okEl (d : D) : Prop := okR okRp (d.c 0).r
def okSg (d : D) : Prop := okS (d.c 0) ∧ okR okEl (d.c 1).r
theorem tx102 (s : ByteArray) (hs : s.size ≤ 140737488351232) : Ev (fun k => F102 k [.str s]) [.int (txK s)] := by
  have := Ev.scan (B := B102x0) s.data.toList (fun pre => [.str s, .int (pre.length : Int)]) (fun pre post => [.int (bif post.all (inB 32 126) then 0 else 3)]) ?_ ?_
  · unfold F102 txK
    simp only [gt_zero, str_s]
    cases decide ((s.size : Int) > 1000)
    · exact this
    · exact Ev.now _
  · refine Ev.of fun k => ?_
    unfold B102x0
    simp only [gt_zero, gt_succ, int_i, str_s, end_of, cond_false]
    rfl
  · intro pre b post go hp ih
    have a := sat_of hp hs
    unfold B102x0
    simp only [gt_zero, gt_succ, int_i, str_s, a.el, a.inr, a.lt, a.up, Bool.and_true, cond_true, List.all_cons]
    by_cases h1 : (b.toNat : Int) < 32
    · rw [decide_eq_true h1, show inB 32 126 b = false from decide_eq_false (by omega)]
      simp only [cond_true, Option.bind_some, gt_zero, bool_b]
      exact Ev.now _
    · rw [decide_eq_false h1]
      by_cases h2 : (b.toNat : Int) > 126
      · rw [decide_eq_true h2, show inB 32 126 b = false from decide_eq_false (by omega)]
        simp only [cond_true, cond_false, Option.bind_some, gt_zero, bool_b]
        exact Ev.now _
      · rw [decide_eq_false h2, show inB 32 126 b = true from decide_eq_true (by omega)]
        simp only [cond_false, Option.bind_some, gt_zero, bool_b]
        exact ih
theorem tx75 (s : ByteArray) (hs : s.size ≤ 140737488351232) : Ev (fun k => F75 k [.str s]) [.int (txK s)] := by
  unfold F75 txK
  simp only [gt_zero, str_s]
  by_cases h : (s.size : Int) > 1000
  · rw [decide_eq_true h]; exact Ev.now _
  · rw [decide_eq_false h]
    refine Ev.neg rfl (Ev.bind (a := [.bool (s.data.toList.all (inB 32 126))]) ?_ ?_)
    · unfold F104
      simp only [gt_zero, str_s]
      refine Ev.pos (decide_eq_true (by omega)) (Ev.bind (in69 s 32 126 hs) ?_)
      simp only [gt_zero, bool_b]
      exact Ev.now _
    · simp only [gt_zero, bool_b]
      cases s.data.toList.all (inB 32 126) <;> exact Ev.now _
theorem rp73 (l : List D) (h : okR okRp l) : Ev (fun k => F73 k [.row l]) [.int (bif ((l.length : Int) == 0) then 9 else bif decide ((l.length : Int) > 20) then 2 else fz rpK l)] := by
  obtain ⟨hl, hx⟩ := h
  unfold F73
  simp only [gt_zero, row_r]
  cases ((l.length : Int) == 0)
  case true => exact Ev.now _
  cases decide ((l.length : Int) > 20)
  case true => exact Ev.now _
  refine EvG.nat (EvG.loopN (f := fun _ n => iter B73x1 n [.int 0, .row l]) ?_)
  refine EvG.scan (ι := Nat) (B := fun _ => B73x1) l (fun pre => [.int (pre.length : Int), .row l]) (fun pre post => [.int (fz rpK post)]) ?_ ?_
  · refine EvG.of fun p => ?_
    unfold B73x1
    simp only [gt_zero, gt_succ, int_i, row_r, no_more, cond_false]
    rfl
  · intro pre x post go hp ih
    have a := at_of hp hl
    obtain ⟨hr, hs⟩ := hx x (by simp [hp])
    unfold B73x1
    simp only [gt_zero, gt_succ, int_i, row_r, a.lt, a.inr, a.el, a.up, Bool.and_true, cond_true, fz]
    have hK : rpK x = bif ((x.r.length : Int) == 0) then 9 else bif decide ((x.r.length : Int) > 20) then 2 else fz ptK x.r := rfl
    rw [hK]
    cases ((x.r.length : Int) == 0)
    case true => exact EvG.now _
    cases decide ((x.r.length : Int) > 20)
    case true => exact EvG.now _
    simp only [cond_false]
    refine EvG.loop (f := fun p n => iter (B73x0 (go p)) n [.int (pre.length : Int), .int 0, .row l]) ?_
    refine EvG.scan (ι := Nat × Nat) (B := fun p => B73x0 (go p)) x.r (fun q => [.int (pre.length : Int), .int (q.length : Int), .row l]) (fun _ r => [.int (bif fz ptK r != 0 then fz ptK r else fz rpK post)]) ?_ ?_
    · unfold B73x0
      simp only [gt_zero, gt_succ, int_i, row_r, a.inr, a.el, a.up, no_more, Bool.and_true, cond_true, cond_false]
      exact ih.fst
    · intro q y r go2 hq ih2
      have b := at_of hq hr
      unfold B73x0
      simp only [gt_zero, gt_succ, int_i, row_r, a.inr, a.el, b.lt, b.inr, b.el, b.up, Bool.and_true, cond_true, fz]
      refine EvG.bind (Ev.snd (tx102 y.s (hs y (by simp [hq])))) ?_
      simp only [gt_zero, int_i]
      cases h : (ptK y != 0) <;> rw [show (txK y.s != 0) = (ptK y != 0) from rfl, h]
      · exact ih2
      · simp only [cond_true, h]
        exact EvG.now _
theorem rp41 (l : List D) (h : okR okRp l) : Ev (fun k => F41 k [.row l]) [.int (bif ((l.length : Int) == 0) then 9 else bif decide ((l.length : Int) > 20) then 2 else fz rpK l)] := by
  obtain ⟨hl, hx⟩ := h
  unfold F41
  simp only [gt_zero, row_r]
  cases ((l.length : Int) == 0)
  case true => exact Ev.now _
  cases decide ((l.length : Int) > 20)
  case true => exact Ev.now _
  refine EvG.nat (EvG.loopN (f := fun _ n => iter B41x1 n [.row l, .int (l.length : Int), .int 0]) ?_)
  refine EvG.scan (ι := Nat) (B := fun _ => B41x1) l (fun pre => [.row l, .int (l.length : Int), .int (pre.length : Int)]) (fun pre post => [.int (fz rpK post)]) ?_ ?_
  · refine EvG.of fun p => ?_
    unfold B41x1
    simp only [gt_zero, gt_succ, int_i, row_r, no_more, cond_false]
    rfl
  · intro pre x post go hp ih
    have a := at_of hp hl
    obtain ⟨hr, hs⟩ := hx x (by simp [hp])
    unfold B41x1
    simp only [gt_zero, gt_succ, int_i, row_r, a.lt, a.inr, a.el, a.up, Bool.and_true, cond_true, fz]
    have hK : rpK x = bif ((x.r.length : Int) == 0) then 9 else bif decide ((x.r.length : Int) > 20) then 2 else fz ptK x.r := rfl
    rw [hK]
    cases ((x.r.length : Int) == 0)
    case true => exact EvG.now _
    cases decide ((x.r.length : Int) > 20)
    case true => exact EvG.now _
    simp only [cond_false]
    refine EvG.loop (f := fun p n => iter (B41x0 (go p)) n [.row l, .int (l.length : Int), .int (pre.length : Int), .row x.r, .int (x.r.length : Int), .int 0]) ?_
    refine EvG.scan (ι := Nat × Nat) (B := fun p => B41x0 (go p)) x.r (fun q => [.row l, .int (l.length : Int), .int (pre.length : Int), .row x.r, .int (x.r.length : Int), .int (q.length : Int)]) (fun _ r => [.int (bif fz ptK r != 0 then fz ptK r else fz rpK post)]) ?_ ?_
    · unfold B41x0
      simp only [gt_zero, gt_succ, int_i, row_r, a.up, no_more, cond_false]
      exact ih.fst
    · intro q y r go2 hq ih2
      have b := at_of hq hr
      unfold B41x0
      simp only [gt_zero, gt_succ, int_i, row_r, b.lt, b.inr, b.el, b.up, Bool.and_true, cond_true, fz]
      refine EvG.bind (Ev.snd (tx75 y.s (hs y (by simp [hq])))) ?_
      simp only [gt_zero, int_i]
      cases h : (ptK y != 0) <;> rw [show (txK y.s != 0) = (ptK y != 0) from rfl, h]
      · exact ih2
      · simp only [cond_true, h]
        exact EvG.now _
theorem sg39 (d : D) (h : okSg d) : Ev (fun k => F39 k [.str (d.c 0).s, .row (d.c 1).r]) [.int (sgK d)] := by
  obtain ⟨h0, hl, hx⟩ := h
  unfold F39 sgK
  simp only [gt_zero, gt_succ, str_s, row_r]
  refine Ev.bind (tag72 _ h0) ?_
  simp only [gt_zero, bool_b]
  cases !isTag (d.c 0).s
  case true => exact Ev.now _
  cases decide (((d.c 1).r.length : Int) > 50)
  case true => exact Ev.now _
  refine Ev.scan (B := B39x0) (d.c 1).r (fun pre => [.int (pre.length : Int), .str (d.c 0).s, .row (d.c 1).r]) (fun pre post => [.int (fz elK post)]) ?_ ?_
  · refine Ev.of fun p => ?_
    unfold B39x0
    simp only [gt_zero, gt_succ, int_i, row_r, no_more, cond_false]
    rfl
  · intro pre x post go hp ih
    have a := at_of hp hl
    unfold B39x0
    simp only [gt_zero, gt_succ, int_i, str_s, row_r, a.lt, a.inr, a.el, a.up, Bool.and_true, cond_true, fz]
    refine Ev.bind (rp73 _ (hx x (by simp [hp]))) ?_
    simp only [gt_zero, int_i]
    rw [show (bif (((x.c 0).r.length : Int) == 0) then 9 else bif decide (((x.c 0).r.length : Int) > 20) then 2 else fz rpK (x.c 0).r) = elK x from rfl]
    cases h : (elK x != 0)
    · exact ih
    · exact Ev.now _
theorem ck13 (l : List D) (h : okR okSg l) : Ev (fun k => F13 k [.row l]) [.int (ckS l)] := by
  obtain ⟨hl, hx⟩ := h
  unfold F13 ckS
  simp only [gt_zero, row_r]
  cases decide ((l.length : Int) > 2000)
  case true => exact Ev.now _
  refine Ev.scan (B := B13x0) l (fun pre => [.row l, .int (pre.length : Int)]) (fun pre post => [.int (fz sgK post)]) ?_ ?_
  · refine Ev.of fun p => ?_
    unfold B13x0
    simp only [gt_zero, gt_succ, int_i, row_r, no_more, cond_false]
    rfl
  · intro pre x post go hp ih
    have a := at_of hp hl
    unfold B13x0
    simp only [gt_zero, gt_succ, int_i, str_s, row_r, a.lt, a.inr, a.el, a.up, Bool.and_true, cond_true, fz]
    refine Ev.bind (sg39 x (hx x (by simp [hp]))) ?_
    simp only [gt_zero, int_i]
    cases h : (sgK x != 0)
    · exact ih
    · exact Ev.now _
theorem ck14 (l : List D) (h : okR okSg l) : Ev (fun k => F14 k [.row l]) [.int (ckS l)] := by
  obtain ⟨hl, hx⟩ := h
  unfold F14 ckS
  simp only [gt_zero, row_r]
  cases decide ((l.length : Int) > 2000)
  case true => exact Ev.now _
  refine EvG.nat (EvG.loopN (f := fun _ n => iter B14x1 n [.row l, .int (l.length : Int), .int 0]) ?_)
  refine EvG.scan (ι := Nat) (B := fun _ => B14x1) l (fun pre => [.row l, .int (l.length : Int), .int (pre.length : Int)]) (fun pre post => [.int (fz sgK post)]) ?_ ?_
  · refine EvG.of fun p => ?_
    unfold B14x1
    simp only [gt_zero, gt_succ, int_i, row_r, no_more, cond_false]
    rfl
  · intro pre x post go hp ih
    have a := at_of hp hl
    obtain ⟨h0, hr, hs⟩ := hx x (by simp [hp])
    unfold B14x1
    simp only [gt_zero, gt_succ, int_i, row_r, a.lt, a.inr, a.el, a.up, Bool.and_true, cond_true, fz]
    refine EvG.bind (EvG.of fun _ => tag40 _ _ h0) ?_
    simp only [gt_zero, bool_b]
    have hK : sgK x = bif !isTag (x.c 0).s then 5 else bif decide (((x.c 1).r.length : Int) > 50) then 2 else fz elK (x.c 1).r := rfl
    rw [hK]
    cases !isTag (x.c 0).s
    case true => exact EvG.now _
    cases decide (((x.c 1).r.length : Int) > 50)
    case true => exact EvG.now _
    simp only [cond_false]
    refine EvG.loop (f := fun p n => iter (B14x0 (go p)) n [.row l, .int (l.length : Int), .int (pre.length : Int), .row (x.c 1).r, .int ((x.c 1).r.length : Int), .int 0]) ?_
    refine EvG.scan (ι := Nat × Nat) (B := fun p => B14x0 (go p)) (x.c 1).r (fun q => [.row l, .int (l.length : Int), .int (pre.length : Int), .row (x.c 1).r, .int ((x.c 1).r.length : Int), .int (q.length : Int)]) (fun _ r => [.int (bif fz elK r != 0 then fz elK r else fz sgK post)]) ?_ ?_
    · unfold B14x0
      simp only [gt_zero, gt_succ, int_i, row_r, a.up, no_more, cond_false]
      exact ih.fst
    · intro q y r go2 hq ih2
      have b := at_of hq hr
      unfold B14x0
      simp only [gt_zero, gt_succ, int_i, row_r, b.lt, b.inr, b.el, b.up, Bool.and_true, cond_true, fz]
      refine EvG.bind (Ev.snd (rp41 _ (hs y (by simp [hq])))) ?_
      simp only [gt_zero, int_i]
      rw [show (bif (((y.c 0).r.length : Int) == 0) then 9 else bif decide (((y.c 0).r.length : Int) > 20) then 2 else fz rpK (y.c 0).r) = elK y from rfl]
      cases h : (elK y != 0)
      · exact ih2
      · simp only [cond_true, h]
        exact EvG.now _
def bothK (l : List D) (m : Mk) : Int := bif ckS l != 0 then ckS l else m.ck
theorem both32 (l : List D) (m : Mk) (h : okR okSg l) : Ev (fun k => F32 k [.row l, .int m.e, .int m.p, .int m.r, .int m.x, .int m.z]) [.int (bothK l m)] := by
  unfold F32 bothK
  simp only [gt_zero, gt_succ, int_i, row_r]
  refine Ev.bind (ck13 l h) ?_
  simp only [gt_zero, int_i]
  cases ckS l != 0
  · refine Ev.neg rfl (Ev.bind (ck11 m) ?_)
    simp only [gt_zero, int_i]
    exact Ev.now _
  · exact Ev.now _
theorem both34 (l : List D) (m : Mk) (h : okR okSg l) : Ev (fun k => F34 k [.row l, .int m.e, .int m.p, .int m.r, .int m.x, .int m.z]) [.int (bothK l m)] := by
  unfold F34 bothK
  simp only [gt_zero, gt_succ, int_i, row_r]
  refine Ev.bind (ck14 l h) ?_
  simp only [gt_zero, int_i]
  cases ckS l != 0
  · refine Ev.neg rfl (Ev.bind (ck12 m) ?_)
    simp only [gt_zero, int_i]
    exact Ev.now _
  · exact Ev.now _
theorem awake15 : Ev (fun k => F15 k []) [.bool true] := by
  unfold F15
  refine Ev.bind (a := [.row [.int 77, .int 82, .int 75, .int 42, .int 58, .int 94, .int 63, .int 126], .int 0]) ?_ ?_
  · unfold F42
    simp only [gt_zero, gt_succ, int_i]
    refine Ev.bind (ck12 ⟨42, 58, 94, 63, 126⟩) ?_
    simp only [gt_zero, int_i]
    rw [show (Mk.ck ⟨42, 58, 94, 63, 126⟩) = 0 by decide]
    exact Ev.now _
  · simp only [gt_zero, gt_succ, int_i, row_r]
    refine (Ev.now _).cast ?_
    rw [ByteArray.toList_eq, ByteArray.toList_eq]
    rfl
end Go.Sx
