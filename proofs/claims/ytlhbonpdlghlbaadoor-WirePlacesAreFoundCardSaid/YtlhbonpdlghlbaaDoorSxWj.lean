/- Segments: both writers write the same (row 17). -/
import Derived.Test.YtlhbonpdlghlbaaDoorSxWi
import Derived.Test.YtlhbonpdlghlbaaDoorSxWf
set_option linter.unusedVariables false
set_option linter.unusedSimpArgs false
namespace Go.Sx
/-! ### The plain law -/
theorem sI_cons (m : Mk) (it : Pt) (l : List Pt) : sI m (it :: l) = cnt m it.t.data.toList + sI m l := by simp [sI]
theorem sI_one (m : Mk) (it : Pt) : sI m [it] = cnt m it.t.data.toList := by simp [sI]
theorem its_bad (m : Mk) (i : Int) : ∀ (l : List Pt) (s : WW), (s.its m i l).bad = (s.bad || (decide (0 < sI m l) && (m.x == 0)))
  | [], s => by simp [WW.its, sI]
  | it :: l, s => by
    show ((s.it m i it).its m i l).bad = _
    rw [its_bad m i l]
    rw [sI_cons]
    simp only [WW.it, bad1]
    by_cases h1 : 0 < cnt m it.t.data.toList
    · rw [decide_eq_true h1, decide_eq_true (show 0 < cnt m it.t.data.toList + sI m l by omega)]
      cases s.bad <;> cases (m.x == 0) <;> simp
    · have h0 : cnt m it.t.data.toList = 0 := by omega
      rw [decide_eq_false h1, h0, Nat.zero_add, Bool.false_and, Bool.or_false]
/-- Texts without marks, or with an escape. -/
theorem txs_same {m : Mk} : ∀ {l : List UInt8} (_ : (m.x == 0) = false ∨ cnt m l = 0), txs m true l = txs m (m.x != 0) l
  | [], _ => rfl
  | u :: l, h => by
    have h2 : (m.x == 0) = false ∨ cnt m l = 0 := h.imp (fun h => h) (fun h => by
      simp only [cnt, List.countP_cons] at h ⊢
      omega)
    have h1 : one m true u = one m (m.x != 0) u := by
      rcases h with h | h
      · have : (m.x != 0) = true := by rw [bne, h]; rfl
        rw [this]
      · have : m.is (u.toNat : Int) = false := by
          simp only [cnt, List.countP_cons] at h
          cases hm : m.is (u.toNat : Int)
          · rfl
          · rw [hm] at h; simp at h
        unfold one
        rw [this]
        rfl
    have := txs_same (l := l) h2
    simp only [txs, List.flatMap_cons] at this ⊢
    rw [h1, this]
/-- What a part is for the program: where it stands; for the reference, the mark before it too. -/
def plOf (l : List D) : List D := l.filterMap fun d => bif (d.c 1).i == 0 then none else some (.agg [.int (d.c 0).i, .int (d.c 1).i, .int (d.c 2).i, .int (d.c 3).i, .int (d.c 5).i, .int (d.c 6).i])
def stOf (l : List D) : List D := l.filterMap fun d => bif (d.c 1).i == 0 then some (.int (d.c 4).i) else none
theorem plOf_app (a b : List D) : plOf (a ++ b) = plOf a ++ plOf b := by simp [plOf]
theorem stOf_app (a b : List D) : stOf (a ++ b) = stOf a ++ stOf b := by simp [stOf]
structure SameW (s : WW) (r : RW) : Prop where
  b : s.b = r.out
  pl : s.pl = plOf r.pc
  st : s.st = stOf r.pc
theorem its_same {m : Mk} {i : Int} : ∀ {l : List Pt} {s : WW} {r : RW} (_ : SameW s r) (_ : ∀ it ∈ l, it.e ≠ 0) (_ : (m.x == 0) = false ∨ sI m l = 0), SameW (s.its m i l) (r.its m i l)
  | [], s, r, h, _, _ => h
  | it :: l, s, r, h, he, hx => by
    have hx1 : (m.x == 0) = false ∨ cnt m it.t.data.toList = 0 := hx.imp (fun h => h) (fun h => by simp only [sI, List.map_cons, List.sum_cons] at h; omega)
    have hx2 : (m.x == 0) = false ∨ sI m l = 0 := hx.imp (fun h => h) (fun h => by simp only [sI, List.map_cons, List.sum_cons] at h ⊢; omega)
    have he0 : (it.e == 0) = false := beqI_false (he it (by simp))
    refine its_same (l := l) (s := s.it m i it) (r := r.it m i it) ⟨?_, ?_, ?_⟩ (fun x hx => he x (by simp [hx])) hx2
    · simp only [WW.it, RW.it]
      rw [h.b, txs_same hx1]
    · simp only [WW.it, RW.it, plOf_app]
      rw [h.b, h.pl, txs_same hx1]
      congr 1
      simp [plOf, agg_c, D.i, he0]
    · simp only [WW.it, RW.it, stOf_app]
      rw [h.st]
      have : stOf [D.agg [.int i, .int it.e, .int it.r, .int it.p, .int (r.out.length : Int), .int ((r.out ++ [D.int it.k]).length : Int), .int ((r.out ++ [D.int it.k] ++ txs m (m.x != 0) it.t.data.toList).length : Int)]] = [] := by
        simp [stOf, agg_c, D.i, he0]
      rw [this, List.append_nil]
theorem repIts_e (m : Mk) (e : Int) (l : List D) : ∀ it ∈ repIts m e l, it.e = e := fun it hit => by
  obtain ⟨a, ha, hia⟩ := List.mem_flatten.1 hit
  obtain ⟨i, hi, rfl⟩ := List.mem_mapIdx.1 ha
  obtain ⟨j, hj, rfl⟩ := List.mem_mapIdx.1 hia
  rfl
theorem segIts_e (m : Mk) (l : List D) : ∀ it ∈ segIts m l, it.e ≠ 0 := fun it hit => by
  obtain ⟨a, ha, hia⟩ := List.mem_flatten.1 hit
  obtain ⟨i, hi, rfl⟩ := List.mem_mapIdx.1 ha
  rw [repIts_e m _ _ it hia]
  omega
theorem seg_same {m : Mk} {lines : Bool} {i : Int} {s : WW} {r : RW} {d : D} (h : SameW s r) (hx : (m.x == 0) = false ∨ sI m (segIts m (d.c 1).r) = 0) : SameW (s.seg m lines i d) (r.seg m lines i d) := by
  have h1 : SameW ⟨s.b ++ tgD (d.c 0).s, s.pl, s.st ++ [.int (s.b.length : Int)], s.bad⟩ ⟨r.out ++ tgD (d.c 0).s, r.pc ++ [.agg [.int i, .int 0, .int 0, .int 0, .int (r.out.length : Int), .int (r.out.length : Int), .int ((r.out.length : Int) + ((d.c 0).s.size : Int))]], r.esc⟩ := by
    refine ⟨?_, ?_, ?_⟩
    · show s.b ++ _ = r.out ++ _
      rw [h.b]
    · show s.pl = plOf (r.pc ++ _)
      rw [plOf_app, h.pl]
      simp [plOf, agg_c, D.i]
    · show s.st ++ _ = stOf (r.pc ++ _)
      rw [stOf_app, h.st, h.b]
      simp [stOf, agg_c, D.i]
  have h2 := its_same (i := i) h1 (segIts_e m (d.c 1).r) hx
  unfold WW.seg RW.seg
  dsimp only
  exact ⟨by show _ ++ _ ++ _ = _ ++ _ ++ _; rw [h2.b], h2.pl, h2.st⟩
theorem seg_bad (m : Mk) (lines : Bool) (i : Int) (s : WW) (d : D) : (s.seg m lines i d).bad = (s.bad || (decide (0 < sI m (segIts m (d.c 1).r)) && (m.x == 0))) := by
  unfold WW.seg
  dsimp only
  rw [its_bad]
theorem its_grow {m : Mk} {i : Int} : ∀ (l : List Pt) (r : RW), r.out.length ≤ (r.its m i l).out.length
  | [], r => Nat.le_refl _
  | it :: l, r => by
    refine Nat.le_trans ?_ (its_grow l (r.it m i it))
    simp only [RW.it, List.length_append]
    omega
theorem seg_grow (m : Mk) (lines : Bool) (i : Int) (r : RW) (d : D) : r.out.length ≤ (r.seg m lines i d).out.length := by
  unfold RW.seg
  dsimp only
  have := its_grow (m := m) (i := i) (segIts m (d.c 1).r) ⟨r.out ++ tgD (d.c 0).s, r.pc ++ [.agg [.int i, .int 0, .int 0, .int 0, .int (r.out.length : Int), .int (r.out.length : Int), .int ((r.out.length : Int) + ((d.c 0).s.size : Int))]], r.esc⟩
  simp only [List.length_append] at this ⊢
  omega
theorem snoc_ind {α : Type} {P : List α → Prop} (h0 : P []) (h1 : ∀ l a, P l → P (l ++ [a])) : ∀ (n : Nat) (l : List α), l.length = n → P l
  | 0, l, h => by obtain rfl := List.eq_nil_of_length_eq_zero h; exact h0
  | n + 1, l, h => by
    rcases List.eq_nil_or_concat l with rfl | ⟨l', a, rfl⟩
    · exact h0
    · rw [List.concat_eq_append] at h ⊢
      exact h1 l' a (snoc_ind h0 h1 n l' (by simpa using h))
theorem pt_any (m : Mk) (e r k : Int) (l : List D) : decide (0 < sI m (partIts m e r k l)) = l.any (needP m) := by
  refine snoc_ind (P := fun l => decide (0 < sI m (partIts m e r k l)) = l.any (needP m)) ?_ (fun l d ih => ?_) _ l rfl
  · exact rfl
  · show decide (0 < sI m (partIts m e r k (l ++ [d]))) = (l ++ [d]).any (needP m)
    rw [partIts_snoc, sI_app, List.any_append, ← ih]
    rw [sI_one]
    simp only [List.any_cons, List.any_nil, Bool.or_false, needP]
    rw [Bool.eq_iff_iff, Bool.or_eq_true, decide_eq_true_eq, decide_eq_true_eq, decide_eq_true_eq]
    omega
theorem rp_any (m : Mk) (e : Int) (l : List D) : decide (0 < sI m (repIts m e l)) = l.any (anyR m) := by
  refine snoc_ind (P := fun l => decide (0 < sI m (repIts m e l)) = l.any (anyR m)) ?_ (fun l d ih => ?_) _ l rfl
  · exact rfl
  · show decide (0 < sI m (repIts m e (l ++ [d]))) = (l ++ [d]).any (anyR m)
    rw [repIts_snoc, sI_app, List.any_append, ← ih]
    have h := pt_any m e ((l.length : Int) + 1) (bif l.length == 0 then m.e else m.r) d.r
    simp only [List.any_cons, List.any_nil, Bool.or_false, anyR]
    rw [← h, Bool.eq_iff_iff, Bool.or_eq_true, decide_eq_true_eq, decide_eq_true_eq, decide_eq_true_eq]
    omega
theorem sg_any (m : Mk) (l : List D) : decide (0 < sI m (segIts m l)) = l.any (anyE m) := by
  refine snoc_ind (P := fun l => decide (0 < sI m (segIts m l)) = l.any (anyE m)) ?_ (fun l d ih => ?_) _ l rfl
  · exact rfl
  · show decide (0 < sI m (segIts m (l ++ [d]))) = (l ++ [d]).any (anyE m)
    rw [segIts_snoc, sI_app, List.any_append, ← ih]
    have h := rp_any m ((l.length : Int) + 1) (d.c 0).r
    simp only [List.any_cons, List.any_nil, Bool.or_false, anyE]
    rw [← h, Bool.eq_iff_iff, Bool.or_eq_true, decide_eq_true_eq, decide_eq_true_eq, decide_eq_true_eq]
    omega
def RW0 : RW := ⟨[], [], 0⟩
/-- Both writers, after each segment. -/
structure BothW (m : Mk) (most : Int) (l : List D) (s : WW) (r : RW) : Prop where
  bad : s.bad = ((m.x == 0) && decide (0 < sL m l))
  eq : s.bad = false → (s.b.length : Int) ≤ most → SameW s r
  gt : s.bad = false → most < (s.b.length : Int) → most < (r.out.length : Int)
theorem step_both {m : Mk} {lines : Bool} {most : Int} {l : List D} {s : WW} {r : RW} {d : D} {i : Int} (h : BothW m most l s r) : BothW m most (l ++ [d]) (s.step m lines most i d) (r.seg m lines i d) := by
  have hbad : (s.step m lines most i d).bad = (s.bad || ((m.x == 0) && decide (0 < sI m (segIts m (d.c 1).r)))) := by
    unfold WW.step
    cases decide ((s.b.length : Int) ≤ most)
    · show (s.bad || ((m.x == 0) && anyS m d)) = _
      rw [sg_any]
      rfl
    · show (s.seg m lines i d).bad = _
      rw [seg_bad, Bool.and_comm]
  have hb : (s.step m lines most i d).bad = ((m.x == 0) && decide (0 < sL m (l ++ [d]))) := by
    rw [hbad, h.bad, sL_snoc]
    cases (m.x == 0)
    · rfl
    · simp only [Bool.true_and]
      rw [Bool.eq_iff_iff, Bool.or_eq_true, decide_eq_true_eq, decide_eq_true_eq, decide_eq_true_eq]
      omega
  have back : (s.step m lines most i d).bad = false → s.bad = false ∧ ((m.x == 0) = false ∨ sI m (segIts m (d.c 1).r) = 0) := fun hf => by
    rw [hbad] at hf
    cases hs : s.bad <;> rw [hs] at hf
    · refine ⟨rfl, ?_⟩
      cases hx : (m.x == 0) <;> rw [hx] at hf
      · exact .inl rfl
      · right
        simp only [Bool.true_and, Bool.false_or] at hf
        have := of_decide_eq_false hf
        omega
    · cases hf
  have key : (s.step m lines most i d).bad = false → ((s.b.length : Int) ≤ most → SameW (s.step m lines most i d) (r.seg m lines i d)) ∧ (most < (s.b.length : Int) → (s.step m lines most i d).b = s.b ∧ most < ((r.seg m lines i d).out.length : Int)) := fun hf => by
    obtain ⟨h1, h2⟩ := back hf
    refine ⟨fun hle => ?_, fun hgt => ?_⟩
    · unfold WW.step
      rw [decide_eq_true hle]
      exact seg_same (h.eq h1 hle) h2
    · unfold WW.step
      rw [decide_eq_false (by omega)]
      have := h.gt h1 hgt
      have := seg_grow m lines i r d
      exact ⟨rfl, by omega⟩
  refine ⟨hb, fun hf hle => ?_, fun hf hgt => ?_⟩
  · by_cases hc : (s.b.length : Int) ≤ most
    · exact (key hf).1 hc
    · have := ((key hf).2 (by omega)).1
      rw [this] at hle
      omega
  · by_cases hc : (s.b.length : Int) ≤ most
    · rw [((key hf).1 hc).b] at hgt; exact hgt
    · exact ((key hf).2 (by omega)).2
theorem both_segs (m : Mk) (lines : Bool) (most : Int) (l : List D) : BothW m most l (WW.segs m lines most 0 WW0 l) (RW.segs m lines 0 RW0 l) := by
  refine snoc_ind (P := fun l => BothW m most l (WW.segs m lines most 0 WW0 l) (RW.segs m lines 0 RW0 l)) ?_ (fun l d ih => ?_) _ l rfl
  · exact ⟨by simp [WW.segs, WW0, sL], fun _ _ => ⟨rfl, rfl, rfl⟩, fun _ h => h⟩
  · show BothW m most (l ++ [d]) (WW.segs m lines most 0 WW0 (l ++ [d])) (RW.segs m lines 0 RW0 (l ++ [d]))
    rw [WW.segs_snoc, RW.segs_snoc]
    exact step_both ih
/-! ### Join -/
def rwD (m : Mk) (r : RW) : D := .agg [.bool false, .agg [.int m.e, .int m.p, .int m.r, .int m.x, .int m.z, .row r.out, .row r.pc, .int r.esc]]
def joinK (l : List D) (m : Mk) (lines : Bool) (most : Int) : List D :=
  bif (m.x == 0) && decide (0 < sL m l) then [nilD, .int 3]
  else bif decide (((RW.segs m lines 0 RW0 l).out.length : Int) > most) then [nilD, .int 2]
  else [rwD m (RW.segs m lines 0 RW0 l), .int 0]
theorem join43 (l : List D) (m : Mk) (lines : Bool) (most : Int) (h : limL l) : Ev (fun k => F43 k [.row l, .int m.e, .int m.p, .int m.r, .int m.x, .int m.z, .bool lines, .int most]) (joinK l m lines most) := by
  unfold F43 joinK
  simp only [gt_zero, gt_succ, int_i, row_r, bool_b]
  refine Ev.bind (wr33 l m lines h) ?_
  have he : (RW.segs m lines 0 ⟨[], [], 0⟩ l).esc = (sL m l : Int) := by rw [segs_esc]; simp
  rw [he]
  simp only [gt_zero]
  have e1 : ((D.agg [.bool false, .agg [.int m.e, .int m.p, .int m.r, .int m.x, .int m.z, .row (RW.segs m lines 0 ⟨[], [], 0⟩ l).out, .row (RW.segs m lines 0 ⟨[], [], 0⟩ l).pc, .int (sL m l : Int)]]).c 0).b = false := rfl
  have e2 : (((D.agg [.bool false, .agg [.int m.e, .int m.p, .int m.r, .int m.x, .int m.z, .row (RW.segs m lines 0 ⟨[], [], 0⟩ l).out, .row (RW.segs m lines 0 ⟨[], [], 0⟩ l).pc, .int (sL m l : Int)]]).c 1).c 7).i = (sL m l : Int) := rfl
  have e3 : (((D.agg [.bool false, .agg [.int m.e, .int m.p, .int m.r, .int m.x, .int m.z, .row (RW.segs m lines 0 ⟨[], [], 0⟩ l).out, .row (RW.segs m lines 0 ⟨[], [], 0⟩ l).pc, .int (sL m l : Int)]]).c 1).c 5).r = (RW.segs m lines 0 RW0 l).out := rfl
  rw [e1, e2, e3]
  have e4 : decide ((sL m l : Int) > 0) = decide (0 < sL m l) := decide_eq_decide.2 (by omega)
  rw [e4]
  cases (m.x == 0)
  · simp only [Bool.false_and, cond_false, Option.bind_some, gt_zero, bool_b, Bool.not_false, cond_true]
    cases decide (((RW.segs m lines 0 RW0 l).out.length : Int) > most)
    · refine (Ev.now _).cast ?_
      simp only [cond_false, rwD]
      rw [show (RW.segs m lines 0 RW0 l).esc = (sL m l : Int) from he]
      rfl
    · exact Ev.now _
  · simp only [Bool.true_and, cond_true, Bool.not_false, Option.bind_some, gt_zero, bool_b]
    cases decide (0 < sL m l)
    · simp only [cond_false]
      cases decide (((RW.segs m lines 0 RW0 l).out.length : Int) > most)
      · refine (Ev.now _).cast ?_
        simp only [cond_false, rwD]
        rw [show (RW.segs m lines 0 RW0 l).esc = (sL m l : Int) from he]
        rfl
      · exact Ev.now _
    · exact Ev.now _
/-- What is written, by both. -/
inductive Wrote (l : List D) (m : Mk) (lines : Bool) (most : Int) : Prop where
  | fault (f : Int) (h0 : f ≠ 0) (hb : bothK l m = f ∨ bothK l m = 0) (hw : wrK l m lines most = [nilD, .int f]) (hj : bothK l m = 0 → joinK l m lines most = [nilD, .int f]) : Wrote l m lines most
  | ok (s : WW) (hb : bothK l m = 0) (hs : s = WW.segs m lines most 0 WW0 l) (same : SameW s (RW.segs m lines 0 RW0 l)) (hw : wrK l m lines most = [wrD m lines s, .int 0]) (hj : joinK l m lines most = [rwD m (RW.segs m lines 0 RW0 l), .int 0]) (hle : (s.b.length : Int) ≤ most) : Wrote l m lines most
theorem wrote (l : List D) (m : Mk) (lines : Bool) (most : Int) : Wrote l m lines most := by
  have B := both_segs m lines most l
  by_cases hb : bothK l m = 0
  case neg => exact .fault (bothK l m) hb (.inl rfl) (by unfold wrK; rw [bneI_true hb]; rfl) (fun h => absurd h hb)
  cases hbad : (WW.segs m lines most 0 WW0 l).bad
  case true =>
    refine .fault 3 (by decide) (.inr hb) ?_ (fun _ => ?_)
    · unfold wrK; rw [bneI_false hb, hbad]; rfl
    · unfold joinK; rw [← B.bad, hbad]; rfl
  by_cases hle : ((WW.segs m lines most 0 WW0 l).b.length : Int) ≤ most
  · have S := B.eq hbad hle
    refine .ok _ hb rfl S ?_ ?_ hle
    · unfold wrK; rw [bneI_false hb, hbad, decide_eq_false (by omega)]; rfl
    · unfold joinK; rw [← B.bad, hbad, ← S.b, decide_eq_false (by omega)]; rfl
  · have := B.gt hbad (by omega)
    refine .fault 2 (by decide) (.inr hb) ?_ (fun _ => ?_)
    · unfold wrK; rw [bneI_false hb, hbad, decide_eq_true (by omega)]; rfl
    · unfold joinK; rw [← B.bad, hbad, decide_eq_true (by omega)]; rfl
theorem eq20 (k : Nat) (l : List D) : F20 k [.row l, .row l] = some [.bool true] := by
  unfold F20
  simp only [gt_zero, gt_succ, row_r]
  rw [toList_beq rfl]
theorem law5 (l : List D) (m : Mk) (lines : Bool) (h : okR okSg l) : Ev (fun k => F5 k [.row l, .int m.e, .int m.p, .int m.r, .int m.x, .int m.z, .bool lines]) [.bool true] := by
  have fin : ∀ (r : List D) (f : Int), Ev (fun k => F18 k [.row l, .int m.e, .int m.p, .int m.r, .int m.x, .int m.z, .bool lines]) [.row r, .int f] → Ev (fun k => F19 k [.row l, .int m.e, .int m.p, .int m.r, .int m.x, .int m.z, .bool lines]) [.row r, .int f] → Ev (fun k => F5 k [.row l, .int m.e, .int m.p, .int m.r, .int m.x, .int m.z, .bool lines]) [.bool true] := fun r f h1 h2 => by
    unfold F5
    simp only [gt_zero, gt_succ, int_i, row_r, bool_b]
    refine Ev.bind h1 (Ev.bind h2 ?_)
    simp only [gt_zero, gt_succ, int_i, row_r]
    refine Ev.bind (Ev.of fun k => eq20 k r) ?_
    simp only [gt_zero, bool_b]
    refine Ev.pos rfl (Ev.pos (beqI_true rfl) (Ev.bind awake15 ?_))
    simp only [gt_zero, bool_b]
    exact Ev.now _
  rcases wrote l m lines 500000 with ⟨f, h0, hb, hw, hj⟩ | ⟨s, hb, _, S, hw, hj, _⟩
  · refine fin [] f ?_ ?_
    · unfold F18
      simp only [gt_zero, gt_succ, int_i, row_r, bool_b]
      refine Ev.bind (both32 l m h) ?_
      simp only [gt_zero, int_i]
      by_cases hz : bothK l m = 0
      · refine Ev.neg (bneI_false hz) (Ev.bind ((join43 l m lines 500000 (both_lim hz)).cast (hj hz)) ?_)
        simp only [gt_zero, gt_succ, int_i]
        exact Ev.pos (bneI_true h0) (Ev.now _)
      · have : bothK l m = f := hb.resolve_right hz
        rw [this]
        exact Ev.pos (bneI_true h0) (Ev.now _)
    · unfold F19
      simp only [gt_zero, gt_succ, int_i, row_r, bool_b]
      refine Ev.bind ((wr44 l m lines 500000 h).cast hw) ?_
      simp only [gt_zero, gt_succ, int_i]
      exact Ev.pos (bneI_true h0) (Ev.now _)
  · refine fin s.b 0 ?_ ?_
    · unfold F18
      simp only [gt_zero, gt_succ, int_i, row_r, bool_b]
      refine Ev.bind (both32 l m h) ?_
      simp only [gt_zero, int_i]
      refine Ev.neg (bneI_false hb) (Ev.bind ((join43 l m lines 500000 (both_lim hb)).cast hj) ?_)
      simp only [gt_zero, gt_succ, int_i]
      refine Ev.neg rfl (Ev.pos rfl ((Ev.now _).cast ?_))
      show [D.row (RW.segs m lines 0 RW0 l).out, D.int 0] = _
      rw [S.b]
    · unfold F19
      simp only [gt_zero, gt_succ, int_i, row_r, bool_b]
      refine Ev.bind ((wr44 l m lines 500000 h).cast hw) ?_
      simp only [gt_zero, gt_succ, int_i]
      exact Ev.neg rfl (Ev.pos rfl (Ev.now _))
theorem pure5 : ∀ xs, GoodL (tyTab TL) ([24, 23, 4].flatMap fun t => (tyTab TL t).cells) xs → ∃ k, K5.f k xs = some [.bool true] := fun xs ⟨hl, hg⟩ => by
  have hl2 : xs.length = 7 := hl
  obtain ⟨f, a, b, c, d, e, g, rfl⟩ : ∃ f a b c d e g, xs = [f, a, b, c, d, e, g] := by
    match xs, hl2 with
    | [f, a, b, c, d, e, g], _ => exact ⟨f, a, b, c, d, e, g, rfl⟩
  obtain ⟨l, rfl, hx⟩ := okL_of (hg 0 (.sl 53) f rfl rfl)
  obtain ⟨m1, rfl, _⟩ := GoodC.int_inv (hg 1 (.int .u8) a rfl rfl)
  obtain ⟨m2, rfl, _⟩ := GoodC.int_inv (hg 2 (.int .u8) b rfl rfl)
  obtain ⟨m3, rfl, _⟩ := GoodC.int_inv (hg 3 (.int .u8) c rfl rfl)
  obtain ⟨m4, rfl, _⟩ := GoodC.int_inv (hg 4 (.int .u8) d rfl rfl)
  obtain ⟨m5, rfl, _⟩ := GoodC.int_inv (hg 5 (.int .u8) e rfl rfl)
  obtain ⟨lines, rfl⟩ := (hg 6 .bool g rfl rfl).bool_inv
  exact (law5 l ⟨m1, m2, m3, m4, m5⟩ lines hx).ex
end Go.Sx
