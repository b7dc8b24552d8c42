/- Segments: what is written, part by part; the reference's writer. -/
import Derived.Test.YtlhbonpdlghlbaaDoorSxWb
set_option linter.unusedVariables false
set_option linter.unusedSimpArgs false
namespace Go.Sx
/-! ### Parts, one behind the other -/
structure Pt where
  e : Int
  r : Int
  p : Int
  k : Int
  t : ByteArray
def partIts (m : Mk) (e r k : Int) (l : List D) : List Pt := l.mapIdx fun i d => ⟨e, r, (i : Int) + 1, bif i == 0 then k else m.p, d.s⟩
def repIts (m : Mk) (e : Int) (l : List D) : List Pt := (l.mapIdx fun i d => partIts m e ((i : Int) + 1) (bif i == 0 then m.e else m.r) d.r).flatten
def segIts (m : Mk) (l : List D) : List Pt := (l.mapIdx fun i d => repIts m ((i : Int) + 1) (d.c 0).r).flatten
theorem partIts_snoc (m : Mk) (e r k : Int) (l : List D) (d : D) : partIts m e r k (l ++ [d]) = partIts m e r k l ++ [⟨e, r, (l.length : Int) + 1, bif l.length == 0 then k else m.p, d.s⟩] := by simp [partIts, List.mapIdx_append]
theorem repIts_snoc (m : Mk) (e : Int) (l : List D) (d : D) : repIts m e (l ++ [d]) = repIts m e l ++ partIts m e ((l.length : Int) + 1) (bif l.length == 0 then m.e else m.r) d.r := by simp [repIts, List.mapIdx_append]
theorem segIts_snoc (m : Mk) (l : List D) (d : D) : segIts m (l ++ [d]) = segIts m l ++ repIts m ((l.length : Int) + 1) (d.c 0).r := by simp [segIts, List.mapIdx_append]
/-! ### Limits -/
def limT (d : D) : Prop := d.s.size ≤ 1000
def limR (d : D) : Prop := d.r.length ≤ 20 ∧ ∀ x ∈ d.r, limT x
def limE (d : D) : Prop := (d.c 0).r.length ≤ 20 ∧ ∀ x ∈ (d.c 0).r, limR x
def limS (d : D) : Prop := (d.c 0).s.size ≤ 6 ∧ (d.c 1).r.length ≤ 50 ∧ ∀ x ∈ (d.c 1).r, limE x
def limL (l : List D) : Prop := l.length ≤ 2000 ∧ ∀ x ∈ l, limS x
theorem fz_zero {f : D → Int} : ∀ {l : List D}, fz f l = 0 → ∀ x ∈ l, f x = 0
  | [], _, x, hx => by simp at hx
  | y :: l, h, x, hx => by
    unfold fz at h
    cases hy : (f y != 0) <;> rw [hy] at h
    · have h0 : f y = 0 := by simpa using hy
      rcases List.mem_cons.1 hx with rfl | hx
      · exact h0
      · exact fz_zero h x hx
    · have h0 : f y ≠ 0 := by simpa using hy
      exact absurd h h0
theorem lim_t {d : D} (h : ptK d = 0) : limT d := by
  unfold ptK txK at h
  by_cases hs : (d.s.size : Int) > 1000
  · rw [decide_eq_true hs] at h; simp at h
  · unfold limT; omega
theorem lim_r {d : D} (h : rpK d = 0) : limR d := by
  unfold rpK at h
  cases h1 : ((d.r.length : Int) == 0) <;> rw [h1] at h
  · by_cases hs : (d.r.length : Int) > 20
    · rw [decide_eq_true hs] at h; simp at h
    · rw [decide_eq_false hs] at h
      exact ⟨by omega, fun x hx => lim_t (fz_zero h x hx)⟩
  · simp at h
theorem lim_e {d : D} (h : elK d = 0) : limE d := by
  unfold elK at h
  cases h1 : (((d.c 0).r.length : Int) == 0) <;> rw [h1] at h
  · by_cases hs : ((d.c 0).r.length : Int) > 20
    · rw [decide_eq_true hs] at h; simp at h
    · rw [decide_eq_false hs] at h
      exact ⟨by omega, fun x hx => lim_r (fz_zero h x hx)⟩
  · simp at h
theorem lim_s {d : D} (h : sgK d = 0) : limS d := by
  unfold sgK at h
  cases h1 : isTag (d.c 0).s <;> rw [h1] at h
  · simp at h
  · by_cases hs : ((d.c 1).r.length : Int) > 50
    · rw [decide_eq_true hs] at h; simp at h
    · rw [decide_eq_false hs] at h
      refine ⟨?_, by omega, fun x hx => lim_e (fz_zero h x hx)⟩
      unfold isTag at h1
      simp only [Bool.and_eq_true, decide_eq_true_eq] at h1
      exact h1.2.2
theorem lim_l {l : List D} (h : ckS l = 0) : limL l := by
  unfold ckS at h
  by_cases hs : (l.length : Int) > 2000
  · rw [decide_eq_true hs] at h; simp at h
  · rw [decide_eq_false hs] at h
    exact ⟨by omega, fun x hx => lim_s (fz_zero h x hx)⟩
theorem both_lim {l : List D} {m : Mk} (h : bothK l m = 0) : limL l := by
  unfold bothK at h
  cases h1 : (ckS l != 0) <;> rw [h1] at h
  · exact lim_l (by simpa using h1)
  · have h0 : ckS l ≠ 0 := by simpa using h1
    exact absurd h h0
theorem its_len {l : List Pt} {n : Nat} (h : l.length ≤ n) : l.length ≤ n := h
theorem partIts_len (m : Mk) (e r k : Int) (l : List D) : (partIts m e r k l).length = l.length := by simp [partIts]
theorem flat_len {α : Type} (f : Nat → α → List Pt) (n : Nat) : ∀ (l : List α), (∀ i, ∀ x ∈ l, (f i x).length ≤ n) → ((l.mapIdx f).flatten).length ≤ n * l.length := by
  intro l h
  have : ∀ (l : List (List Pt)), (∀ x ∈ l, x.length ≤ n) → l.flatten.length ≤ n * l.length := by
    intro l
    induction l with
    | nil => intro _; simp
    | cons a l ih =>
      intro h
      have h1 := h a (by simp)
      have h2 := ih (fun x hx => h x (by simp [hx]))
      simp only [List.flatten_cons, List.length_append, List.length_cons, Nat.mul_succ]
      omega
  have h2 := this (l.mapIdx f) (fun x hx => by
    obtain ⟨i, hi, rfl⟩ := List.mem_mapIdx.1 hx
    exact h i _ (List.getElem_mem hi))
  simpa using h2
theorem repIts_len {m : Mk} {e : Int} {l : List D} (h : ∀ x ∈ l, limR x) : (repIts m e l).length ≤ 20 * l.length :=
  flat_len _ 20 l fun i x hx => by rw [partIts_len]; exact (h x hx).1
theorem segIts_len {m : Mk} {l : List D} (h : ∀ x ∈ l, limE x) : (segIts m l).length ≤ 400 * l.length :=
  flat_len _ 400 l fun i x hx => by
    have := repIts_len (m := m) (e := (i : Int) + 1) (l := (x.c 0).r) (h x hx).2
    have := (h x hx).1
    omega
def txI (it : Pt) : Prop := it.t.size ≤ 1000
theorem partIts_tx {m : Mk} {e r k : Int} {l : List D} (h : ∀ x ∈ l, limT x) : ∀ it ∈ partIts m e r k l, txI it := fun it hit => by
  obtain ⟨i, hi, rfl⟩ := List.mem_mapIdx.1 hit
  exact h _ (List.getElem_mem hi)
theorem repIts_tx {m : Mk} {e : Int} {l : List D} (h : ∀ x ∈ l, limR x) : ∀ it ∈ repIts m e l, txI it := fun it hit => by
  obtain ⟨a, ha, hia⟩ := List.mem_flatten.1 hit
  obtain ⟨i, hi, rfl⟩ := List.mem_mapIdx.1 ha
  exact partIts_tx (h _ (List.getElem_mem hi)).2 it hia
theorem segIts_tx {m : Mk} {l : List D} (h : ∀ x ∈ l, limE x) : ∀ it ∈ segIts m l, txI it := fun it hit => by
  obtain ⟨a, ha, hia⟩ := List.mem_flatten.1 hit
  obtain ⟨i, hi, rfl⟩ := List.mem_mapIdx.1 ha
  exact repIts_tx (h _ (List.getElem_mem hi)).2 it hia
/-! ### Texts written -/
def one (m : Mk) (f : Bool) (u : UInt8) : List D := bif m.is (u.toNat : Int) && f then [.int m.x, .int (u.toNat : Int)] else [.int (u.toNat : Int)]
def txs (m : Mk) (f : Bool) (l : List UInt8) : List D := l.flatMap (one m f)
def cnt (m : Mk) (l : List UInt8) : Nat := l.countP fun u => m.is (u.toNat : Int)
theorem txs_snoc (m : Mk) (f : Bool) (l : List UInt8) (u : UInt8) : txs m f (l ++ [u]) = txs m f l ++ one m f u := by simp [txs]
theorem cnt_snoc (m : Mk) (l : List UInt8) (u : UInt8) : cnt m (l ++ [u]) = cnt m l + (bif m.is (u.toNat : Int) then 1 else 0) := by
  simp only [cnt, List.countP_append, List.countP_cons, List.countP_nil, Nat.zero_add]
  cases m.is (u.toNat : Int) <;> simp
theorem cnt_le (m : Mk) (l : List UInt8) : cnt m l ≤ l.length := List.countP_le_length
theorem txs_le (m : Mk) (f : Bool) : ∀ l : List UInt8, (txs m f l).length ≤ 2 * l.length
  | [] => by simp [txs]
  | u :: l => by
    have h := txs_le m f l
    have : (one m f u).length ≤ 2 := by unfold one; cases (m.is (u.toNat : Int) && f) <;> simp
    simp only [txs, List.flatMap_cons, List.length_append, List.length_cons] at h ⊢
    omega
theorem need67 (m : Mk) (s : ByteArray) (hs : s.size ≤ 140737488351232) : Ev (fun k => F67 k [.int m.e, .int m.p, .int m.r, .int m.x, .int m.z, .str s]) [.int (cnt m s.data.toList : Int)] := by
  have := Ev.scan (B := B67x0) s.data.toList (fun pre => [.str s, .int (cnt m pre : Int), .int (s.size : Int), .int (pre.length : Int), .int m.e, .int m.p, .int m.r, .int m.x, .int m.z]) (fun pre post => [.int (cnt m s.data.toList : Int)]) ?_ ?_
  · exact Ev.congr (fun k => by simp [F67, gt_zero, gt_succ, str_s, int_i, cnt]) this
  · refine Ev.of fun k => ?_
    unfold B67x0
    simp only [gt_zero, gt_succ, int_i, str_s, end_of, cond_false]
  · intro pre b post go hp ih
    have a := sat_of hp hs
    have hl : pre.length ≤ 140737488351232 := by have := congrArg List.length hp; rw [ba_len] at this; simp at this; omega
    have hc := cnt_le m pre
    unfold B67x0
    simp only [gt_zero, gt_succ, int_i, str_s, a.el, a.inr, a.lt, a.up, Bool.and_true, cond_true, is99, Option.bind_some, bool_b]
    rw [cnt_snoc] at ih
    cases hm : m.is (b.toNat : Int) <;> rw [hm] at ih
    · exact ih
    · simp only [cond_true, Option.bind_some, gt_zero, int_i]
      rw [w64 (by omega) (by omega)]
      exact ih
/-! ### The reference's writer -/
structure RW where
  out : List D
  pc : List D
  esc : Int
def RW.it (m : Mk) (i : Int) (s : RW) (it : Pt) : RW :=
  ⟨s.out ++ [.int it.k] ++ txs m (m.x != 0) it.t.data.toList,
   s.pc ++ [.agg [.int i, .int it.e, .int it.r, .int it.p, .int (s.out.length : Int), .int ((s.out ++ [D.int it.k]).length : Int), .int ((s.out ++ [D.int it.k] ++ txs m (m.x != 0) it.t.data.toList).length : Int)]],
   s.esc + (cnt m it.t.data.toList : Int)⟩
def RW.its (m : Mk) (i : Int) (s : RW) (l : List Pt) : RW := l.foldl (RW.it m i) s
theorem RW.its_snoc (m : Mk) (i : Int) (s : RW) (l : List Pt) (it : Pt) : s.its m i (l ++ [it]) = (s.its m i l).it m i it := by simp [RW.its]
theorem RW.its_app (m : Mk) (i : Int) (s : RW) (l l' : List Pt) : s.its m i (l ++ l') = (s.its m i l).its m i l' := by simp [RW.its]
structure RW.le (s : RW) (n : Nat) : Prop where
  out : s.out.length ≤ 2001 * n
  pc : s.pc.length ≤ n
  e0 : 0 ≤ s.esc
  e1 : s.esc ≤ 1000 * (n : Int)
theorem RW.le_it {m : Mk} {i : Int} {s : RW} {it : Pt} {n : Nat} (h : s.le n) (ht : txI it) : (s.it m i it).le (n + 1) := by
  have h1 := txs_le m (m.x != 0) it.t.data.toList
  have h2 := cnt_le m it.t.data.toList
  rw [ba_len] at h1 h2
  unfold txI at ht
  have := h.out; have := h.pc; have := h.e0; have := h.e1
  refine ⟨?_, ?_, ?_, ?_⟩
  · simp only [RW.it, List.length_append, List.length_cons, List.length_nil]; omega
  · simp only [RW.it, List.length_append, List.length_cons, List.length_nil]; omega
  · simp only [RW.it]; omega
  · simp only [RW.it]; omega
theorem RW.le_its {m : Mk} {i : Int} : ∀ {l : List Pt} {s : RW} {n : Nat} (_ : s.le n) (_ : ∀ it ∈ l, txI it), (s.its m i l).le (n + l.length)
  | [], s, n, h, _ => h
  | it :: l, s, n, h, ht => by
    have := RW.le_its (m := m) (i := i) (l := l) (RW.le_it (m := m) (i := i) h (ht it (by simp))) (fun x hx => ht x (by simp [hx]))
    rw [show n + (it :: l).length = n + 1 + l.length by simp; omega]
    exact this
section
variable {ι : Type} [Dir ι] {R : Type}
theorem tx33 (go : ι → List D → Option (List D)) (m : Mk) (s : ByteArray) (l parts : List D) (lines : Bool) (i e mk rr p i' e' r' p' bg fr z : Int) (a1 a2 a3 a4 a5 : Int) (out pcs : List D) (esc : Int) (r : List D)
    (hs : s.size ≤ 1000) (ho : out.length ≤ 1000000000000) (hp : pcs.length ≤ 1000000000) (h0 : 0 ≤ esc) (h1 : esc ≤ 1000000000000)
    (k : EvG (fun p_ => go p_ [.row l, .bool lines, .int i, .int e, .int a2, .int rr, .row parts, .int (IntKind.i64.wrap (p + 1)), .int a1, .int a2, .int a3, .int a4, .int a5, .int m.e, .int m.p, .int m.r, .int m.x, .int m.z, .int (esc + (cnt m s.data.toList : Int)), .row (out ++ txs m (m.x != 0) s.data.toList),
      .row (pcs ++ [.agg [.int i', .int e', .int r', .int p', .int bg, .int fr, .int ((out ++ txs m (m.x != 0) s.data.toList).length : Int)]])]) r) :
    EvG (fun q : ι × Nat => iter (B33x0 (go q.1)) q.2 [.str s, .int 0, .row l, .bool lines, .int i, .int e, .int rr, .row parts, .int p, .int m.e, .int m.p, .int m.r, .int m.x, .int m.z, .int esc, .int i', .int e', .int r', .int p', .int bg, .int fr, .int z, .int a1, .int a2, .int a3, .int a4, .int a5, .row out, .row pcs]) r := by
  have e1 : esc + (cnt m [] : Int) = esc := by simp [cnt]
  have e2 : out ++ txs m (m.x != 0) [] = out := by simp [txs]
  refine EvG.congr (fun q => ?_) (EvG.scan (B := fun q => B33x0 (go q)) s.data.toList (fun pre => [.str s, .int (pre.length : Int), .row l, .bool lines, .int i, .int e, .int rr, .row parts, .int p, .int m.e, .int m.p, .int m.r, .int m.x, .int m.z, .int (esc + (cnt m pre : Int)), .int i', .int e', .int r', .int p', .int bg, .int fr, .int z, .int a1, .int a2, .int a3, .int a4, .int a5, .row (out ++ txs m (m.x != 0) pre), .row pcs]) (fun _ _ => r) ?_ ?_)
  · simp only [e1, e2]; rfl
  · have h2 := txs_le m (m.x != 0) s.data.toList
    rw [ba_len] at h2
    unfold B33x0
    simp only [gt_zero, gt_succ, int_i, str_s, row_r, bool_b, end_of, cond_false]
    refine EvG.pos (needOk_yes (by simp only [List.length_cons, List.length_nil]; omega)) ?_
    exact k.fst
  · intro pre b post go2 hp2 ih
    have a := sat_of hp2 (by omega)
    have hl : pre.length ≤ 1000 := by have := congrArg List.length hp2; rw [ba_len] at this; simp at this; omega
    have h2 := txs_le m (m.x != 0) pre
    have h3 := cnt_le m pre
    have hout : (out ++ txs m (m.x != 0) pre).length ≤ 1000000002000 := by rw [List.length_append]; omega
    rw [cnt_snoc, txs_snoc] at ih
    unfold B33x0
    simp only [gt_zero, gt_succ, int_i, str_s, row_r, bool_b, a.el, a.inr, a.lt, Bool.and_true, cond_true, is98, Option.bind_some]
    unfold one at ih
    cases hm : m.is (b.toNat : Int) <;> rw [hm] at ih
    · simp only [Bool.false_and, cond_false, Option.bind_some, gt_zero, gt_succ, int_i, str_s, row_r, bool_b, a.el, a.inr, a.up, Bool.and_true, cond_true] at ih ⊢
      refine EvG.pos (needOk_yes (by simp only [List.length_cons, List.length_nil]; omega)) ?_
      rw [← List.append_assoc] at ih
      exact ih
    · cases hx : (m.x != 0) <;> rw [hx] at ih
      · simp only [Bool.and_false, cond_false, Option.bind_some, gt_zero, gt_succ, int_i, str_s, row_r, bool_b, a.el, a.inr, a.up, Bool.and_true, cond_true] at ih ⊢
        refine EvG.pos (needOk_yes (by rw [← hx]; simp only [List.length_cons, List.length_nil]; omega)) ?_
        rw [w64 (by omega) (by omega)]
        rw [← List.append_assoc] at ih
        refine (ih : _) |> fun h => ?_
        have e3 : esc + (cnt m pre : Int) + 1 = esc + ((cnt m pre + 1 : Nat) : Int) := by omega
        rw [e3]
        exact ih
      · rw [needOk_yes (by rw [← hx]; simp only [List.length_cons, List.length_nil]; omega)]
        simp only [Bool.and_true, cond_true, Option.bind_some, gt_zero, gt_succ, int_i, str_s, row_r, bool_b, a.el, a.inr, a.up, Bool.and_true, cond_true] at ih ⊢
        refine EvG.pos (needOk_yes (by rw [← hx]; simp only [List.length_append, List.length_cons, List.length_nil] at hout ⊢; omega)) ?_
        rw [w64 (by omega) (by omega)]
        have e3 : esc + (cnt m pre : Int) + 1 = esc + ((cnt m pre + 1 : Nat) : Int) := by omega
        have e4 : out ++ txs m true pre ++ [D.int m.x] ++ [D.int (b.toNat : Int)] = out ++ (txs m true pre ++ [D.int m.x, D.int (b.toNat : Int)]) := by simp
        rw [e3, e4]
        exact ih
theorem pt33 (go : ι → List D → Option (List D)) (m : Mk) (l parts : List D) (lines : Bool) (i e mk rr : Int) (a1 a2 a3 a4 a5 : Int) (s : RW) (n : Nat) (r : List D)
    (hl : limR (.row parts)) (he : IntKind.i64.wrap (e + 1) = e + 1) (hrr : IntKind.i64.wrap (rr + 1) = rr + 1) (h : s.le n) (hn : n ≤ 100000000)
    (k : EvG (fun p_ => go p_ [.row l, .bool lines, .int i, .int e, .int a3, .int (rr + 1), .int a1, .int a2, .int a3, .int a4, .int a5, .int m.e, .int m.p, .int m.r, .int m.x, .int m.z, .int (s.its m i (partIts m (e + 1) (rr + 1) mk parts)).esc, .row (s.its m i (partIts m (e + 1) (rr + 1) mk parts)).out, .row (s.its m i (partIts m (e + 1) (rr + 1) mk parts)).pc]) r) (ha2 : a2 = m.p) :
    EvG (fun q : ι × Nat => iter (B33x1 (go q.1)) q.2 [.row l, .bool lines, .int i, .int e, .int mk, .int rr, .row parts, .int 0, .int a1, .int a2, .int a3, .int a4, .int a5, .int m.e, .int m.p, .int m.r, .int m.x, .int m.z, .int s.esc, .row s.out, .row s.pc]) r := by
  obtain ⟨hl1, hl2⟩ := hl
  rw [row_r] at hl1 hl2
  refine EvG.congr (fun q => ?_) (EvG.scan (B := fun q => B33x1 (go q)) parts (fun pre => [.row l, .bool lines, .int i, .int e, .int (bif pre.length == 0 then mk else m.p), .int rr, .row parts, .int (pre.length : Int), .int a1, .int a2, .int a3, .int a4, .int a5, .int m.e, .int m.p, .int m.r, .int m.x, .int m.z, .int (s.its m i (partIts m (e + 1) (rr + 1) mk pre)).esc, .row (s.its m i (partIts m (e + 1) (rr + 1) mk pre)).out, .row (s.its m i (partIts m (e + 1) (rr + 1) mk pre)).pc]) (fun _ _ => r) ?_ ?_)
  · rfl
  · unfold B33x1
    simp only [gt_zero, gt_succ, int_i, str_s, row_r, bool_b, no_more, cond_false, hrr]
    exact k.fst
  · intro pre x post go2 hp2 ih
    have a := at_of hp2 (by omega)
    have hpl : pre.length ≤ 20 := by have := congrArg List.length hp2; simp at this; omega
    have hx : limT x := hl2 x (by simp [hp2])
    have hle := RW.le_its (m := m) (i := i) h (l := partIts m (e + 1) (rr + 1) mk pre) (partIts_tx fun y hy => hl2 y (by simp [hp2, hy]))
    rw [partIts_len] at hle
    rw [partIts_snoc, RW.its_snoc] at ih
    have hne : (bif (pre ++ [x]).length == 0 then mk else m.p) = m.p := by simp
    rw [hne] at ih
    have h1 := hle.out; have h2 := hle.pc; have h3 := hle.e0; have h4 := hle.e1
    generalize hS : s.its m i (partIts m (e + 1) (rr + 1) mk pre) = S at ih h1 h2 h3 h4 ⊢
    unfold B33x1
    simp only [gt_zero, gt_succ, int_i, str_s, row_r, bool_b, a.el, a.inr, a.lt, Bool.and_true, cond_true, he, hrr, a.up]
    refine EvG.pos (needOk_yes (by simp only [List.length_cons, List.length_nil]; omega)) ?_
    refine EvG.loop (f := fun p n => iter (B33x0 (go2 p)) n _) ?_
    refine tx33 go2 m x.s l parts lines i e (bif pre.length == 0 then mk else m.p) rr (pre.length : Int) i (e + 1) (rr + 1) ((pre ++ [x]).length : Int) _ _ 0 a1 a2 a3 a4 a5 (S.out ++ [.int (bif pre.length == 0 then mk else m.p)]) S.pc S.esc r hx (by rw [List.length_append]; simp only [List.length_cons, List.length_nil]; omega) (by omega) h3 (by omega) ?_
    rw [a.up, ha2]
    rw [ha2] at ih
    simp only [RW.it] at ih
    have e5 : ((pre ++ [x]).length : Int) = (pre.length : Int) + 1 := by simp
    rw [e5] at ih ⊢
    exact ih
end
end Go.Sx
