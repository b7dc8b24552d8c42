/- What waits, is late and is answered is all that was sent: row 4. -/
import Derived.Test.YtndlhopdhfhjnaaDoorSxPb6
set_option linter.unusedVariables false
set_option linter.unusedSimpArgs false
namespace Go.Sx
theorem chk_pre : ∀ {a b pre : List Bk}, chk pre (a ++ b) = 0 → chk pre a = 0
  | [], _, _, _ => rfl
  | x :: a, b, pre, h => by
    simp only [List.cons_append, chk] at h ⊢
    by_cases he : ef x = 0
    · rw [if_neg (show ¬ ef x ≠ 0 from fun h => h he)] at h ⊢
      by_cases hl : late pre x = true
      · rw [if_pos hl] at h; cases h
      · rw [if_neg hl] at h ⊢
        exact chk_pre h
    · rw [if_pos he] at h; exact absurd h he
theorem upto_pre (mo : Int) (l : List Bk) : upto mo l ++ l.dropWhile (fun x => decide (x.time ≤ mo)) = l := List.takeWhile_append_dropWhile
def sentBy (mo : Int) (x : Bk) : Bool := decide (x.kind = 1 ∧ x.time ≤ mo)
theorem after_none (mo : Int) : ∀ {l pre : List Bk}, chk pre l = 0 → (∃ p, pre.getLast? = some p ∧ p.time > mo) → l.countP (sentBy mo) = 0
  | [], _, _, _ => rfl
  | x :: l, pre, h, ⟨p, hp, ht⟩ => by
    simp only [chk] at h
    by_cases he : ef x = 0
    · rw [if_neg (show ¬ ef x ≠ 0 from fun h => h he)] at h
      cases hl : late pre x
      · rw [hl, if_neg (by simp)] at h
        simp only [late, hp, decide_eq_false_iff_not] at hl
        have := after_none mo h ⟨x, by simp, by omega⟩
        rw [List.countP_cons, this, show sentBy mo x = false from decide_eq_false (by omega)]
        rfl
      · rw [hl, if_pos rfl] at h; cases h
    · rw [if_pos he] at h; exact absurd h he
theorem count_upto (mo : Int) : ∀ {l pre : List Bk}, chk pre l = 0 → l.countP (sentBy mo) = ((upto mo l).filter isSent).length
  | [], _, _ => rfl
  | x :: l, pre, h => by
    have h0 := h
    simp only [chk] at h
    by_cases he : ef x = 0
    · rw [if_neg (show ¬ ef x ≠ 0 from fun h => h he)] at h
      by_cases hl : late pre x = true
      · rw [if_pos hl] at h; cases h
      · rw [if_neg hl] at h
        by_cases ht : x.time ≤ mo
        · have ih := count_upto mo h
          have hu : upto mo (x :: l) = x :: upto mo l := by simp [upto, List.takeWhile_cons, ht]
          rw [hu, List.countP_cons, ih]
          by_cases hk : x.kind = 1
          · rw [List.filter_cons_of_pos (show isSent x = true from decide_eq_true hk), show sentBy mo x = true from decide_eq_true ⟨hk, ht⟩]; rfl
          · rw [List.filter_cons_of_neg (by simp [isSent, hk]), show sentBy mo x = false from decide_eq_false (fun h => hk h.1)]; rfl
        · have hu : upto mo (x :: l) = [] := by simp [upto, List.takeWhile_cons, ht]
          have := after_none mo h ⟨x, by simp, by omega⟩
          rw [hu, List.countP_cons, this, show sentBy mo x = false from decide_eq_false (fun h => ht h.2)]
          rfl
    · rw [if_pos he] at h; exact absurd h he
/-- Standings count. -/
theorem standing_count (mo : Int) : ∀ (l : List Sd) (c : Stg), standing mo l c = ⟨c.w + (l.countP (fun y => decide (y.state mo = 1)) : Nat), c.l + (l.countP (fun y => decide (y.state mo = 2)) : Nat), c.t + (l.countP (fun y => decide (y.verdict = 1)) : Nat), c.f + (l.countP (fun y => decide (y.verdict = 2)) : Nat), c.r + (l.countP (fun y => decide (y.verdict = 3)) : Nat), c.o + (l.countP (fun y => decide (y.answer > y.due)) : Nat)⟩
  | [], c => by simp [standing]
  | y :: l, c => by
    have hone : ∀ (p : Prop) [Decidable p] (n : Nat) (a : Int), a + one p + (n : Int) = a + ((n + if decide p = true then 1 else 0 : Nat) : Int) := fun p _ n a => by
      unfold one
      by_cases h : p
      · simp [h]; omega
      · simp [h]
    simp only [standing, standing_count mo l, Stg.add, List.countP_cons, hone]
theorem states_sum (mo : Int) : ∀ (l : List Sd), (∀ y ∈ l, ((y.answer = -1 ∧ y.verdict = 0) ∨ (0 ≤ y.answer ∧ y.time ≤ y.answer ∧ 1 ≤ y.verdict ∧ y.verdict ≤ 3)) ∧ 0 ≤ y.due) →
    l.countP (fun y => decide (y.verdict = 1)) + l.countP (fun y => decide (y.verdict = 2)) + l.countP (fun y => decide (y.verdict = 3)) = l.countP (fun y => decide (y.state mo = 3)) ∧ l.countP (fun y => decide (y.answer > y.due)) ≤ l.countP (fun y => decide (y.state mo = 3))
  | [], _ => ⟨rfl, Nat.le_refl _⟩
  | y :: l, h => by
    obtain ⟨h1, h2⟩ := states_sum mo l (fun z hz => h z (by simp [hz]))
    obtain ⟨h3, h4⟩ := h y (by simp)
    simp only [List.countP_cons]
    rcases h3 with ⟨a1, a2⟩ | ⟨a1, _, a3, a4⟩
    · have hs : y.state mo ≠ 3 := by unfold Sd.state; rw [if_neg (by omega)]; split <;> omega
      rw [decide_eq_false hs, decide_eq_false (show ¬ y.verdict = 1 by omega), decide_eq_false (show ¬ y.verdict = 2 by omega), decide_eq_false (show ¬ y.verdict = 3 by omega), decide_eq_false (show ¬ y.answer > y.due by omega)]
      simp only [Bool.false_eq_true, if_false, Nat.add_zero]
      exact ⟨h1, h2⟩
    · have hs : y.state mo = 3 := by unfold Sd.state; rw [if_pos (by omega)]
      rw [decide_eq_true hs]
      have hv : (if decide (y.verdict = 1) = true then 1 else 0) + (if decide (y.verdict = 2) = true then 1 else 0) + (if decide (y.verdict = 3) = true then 1 else 0) = 1 := by
        rcases (show y.verdict = 1 ∨ y.verdict = 2 ∨ y.verdict = 3 by omega) with e | e | e <;> rw [e] <;> simp
      have ho : (if decide (y.answer > y.due) = true then 1 else 0) ≤ 1 := by split <;> omega
      simp only [if_true]
      exact ⟨by omega, by omega⟩
theorem state_range (y : Sd) (mo : Int) : y.state mo = 1 ∨ y.state mo = 2 ∨ y.state mo = 3 := by
  unfold Sd.state
  split
  · exact .inr (.inr rfl)
  · split
    · exact .inr (.inl rfl)
    · exact .inl rfl
section
variable (es : List Bk) (hx : ∀ x ∈ es, x.ok) (hcb : cb es = 0) (mo : Int) (hmo : 0 ≤ mo ∧ mo ≤ 1000000000000000)
include hx hcb hmo in
theorem state13 (pre post : List Sd) (y : Sd) (ho : (runA (upto mo es) 0 ([], [])).1 = pre ++ y :: post) : Ev (fun k => F13 k [.row (es.map Bk.d), .int (pre.length : Int), .int mo]) [.int (y.state mo), .int 0] := by
  obtain ⟨hl, hz⟩ := cb_zero hcb
  have hle : (upto mo es).length ≤ es.length := (List.takeWhile_sublist _).length_le
  have hq : (runA (upto mo es) 0 ([], [])).1.length ≤ 3000 := Nat.le_trans (run_len (l := upto mo es) (i := 0) (s := ([], [])) (Nat.le_refl _) (Nat.le_refl _)).1 (by omega)
  unfold F13
  simp only [gt_zero, gt_succ, row_r, int_i]
  refine Ev.bind (ev16b es) ?_
  rw [hcb]
  simp only [gt_zero, int_i]
  refine Ev.neg rfl (Ev.bind (at29 es mo (fun x h => ⟨hx x h, (ef_zero (hz x h)).2.1⟩) hl) ?_)
  rw [ho] at hq ⊢
  simp only [List.length_append, List.length_cons] at hq
  have hlt : (pre.length : Int) < (((pre ++ y :: post).map Sd.d).length : Int) := by simp; omega
  simp only [gt_zero, row_r, out31, moment28, Option.bind_some, bool_b]
  have h1 : IntKind.i64.wrap ((((pre ++ y :: post).map Sd.d).length : Int) - 1) = (((pre ++ y :: post).map Sd.d).length : Int) - 1 := by
    have : ((pre ++ y :: post).map Sd.d).length ≤ 3000 := by simpa using hq
    rw [w64 (by omega) (by omega)]
  rw [h1, decide_eq_false (show ¬ ¬ (0 ≤ (pre.length : Int) ∧ (pre.length : Int) ≤ (((pre ++ y :: post).map Sd.d).length : Int) - 1) by omega), decide_eq_true hmo]
  simp only [cond_false, Option.bind_some, gt_zero, bool_b, Bool.not_true]
  rw [inRow_yes (by omega) hlt]
  simp only [Bool.and_true, cond_true, elAt_mid, Sd.c0, Sd.c1, Sd.c2, Sd.c3, Sd.c4, str_s, int_i, state30, Option.bind_some, gt_zero]
  exact Ev.now _
include hx hcb hmo in
theorem loop4_0 (out : List Sd) (hout : (runA (upto mo es) 0 ([], [])).1 = out) (hlen : out.length ≤ 3000) (hk : ∀ y ∈ out, ((y.answer = -1 ∧ y.verdict = 0) ∨ (0 ≤ y.answer ∧ y.time ≤ y.answer ∧ 1 ≤ y.verdict ∧ y.verdict ≤ 3)) ∧ 0 ≤ y.due) : ∀ (post pre : List Sd), out = pre ++ post →
    Ev (fun k => iter B4x0 k [.row (es.map Bk.d), .int mo, .int (out.length : Int), .int (pre.length : Int), .int (standing mo out zeroS).w, .int (standing mo out zeroS).l, .int (standing mo out zeroS).t, .int (standing mo out zeroS).f, .int (standing mo out zeroS).r, .int (standing mo out zeroS).o, .int 0, .int (pre.countP (fun y => decide (y.state mo = 1)) : Nat), .int (pre.countP (fun y => decide (y.state mo = 2)) : Nat), .int (pre.countP (fun y => decide (y.state mo = 3)) : Nat)]) [.bool true]
  | [], pre, hp => by
    have hp' : pre = out := by simpa using hp.symm
    subst hp'
    obtain ⟨s1, s2⟩ := states_sum mo pre hk
    have c3 : pre.countP (fun y => decide (y.state mo = 3)) ≤ pre.length := List.countP_le_length
    refine Ev.iter ?_
    unfold B4x0
    simp only [gt_zero, gt_succ, int_i, standing_count, zeroS, Int.zero_add]
    rw [decide_eq_false (by omega)]
    refine Ev.neg rfl (Ev.pos (beqI_true rfl) (Ev.pos (beqI_true rfl) (Ev.pos (beqI_true ?_) (Ev.pos (decide_eq_true (by omega)) (Ev.bind awake11 ?_)))))
    · rw [w64 (n := (pre.countP (fun y => decide (y.verdict = 1)) : Int) + (pre.countP (fun y => decide (y.verdict = 2)) : Int)) (by omega) (by omega), w64 (by omega) (by omega)]
      omega
    · simp only [gt_zero, bool_b]; exact Ev.now _
  | y :: post, pre, hp => by
    have ih := loop4_0 out hout hlen hk post (pre ++ [y]) (by simp [hp])
    simp only [List.countP_append, List.countP_cons, List.countP_nil] at ih
    have hlp : pre.length + (post.length + 1) ≤ 3000 := by rw [hp] at hlen; simpa using hlen
    have hlt : (pre.length : Int) < (out.length : Int) := by rw [hp]; simp; omega
    have h9 : IntKind.i64.wrap ((pre.length : Int) + 1) = ((pre ++ [y]).length : Int) := by rw [w64 (by omega) (by omega)]; simp
    have c1 : pre.countP (fun y => decide (y.state mo = 1)) ≤ pre.length := List.countP_le_length
    have c2 : pre.countP (fun y => decide (y.state mo = 2)) ≤ pre.length := List.countP_le_length
    have c3 : pre.countP (fun y => decide (y.state mo = 3)) ≤ pre.length := List.countP_le_length
    refine Ev.iterG fun go hgo => ?_
    have ih := hgo _ _ ih
    unfold B4x0
    simp only [gt_zero, gt_succ, int_i, row_r]
    rw [decide_eq_true hlt]
    simp only [cond_true]
    refine Ev.bind (state13 es hx hcb mo hmo pre post y (hout.trans hp)) ?_
    simp only [gt_zero, gt_succ, int_i, h9]
    rcases state_range y mo with e | e | e <;> rw [e] at ih ⊢
    · rw [w64 (n := (pre.countP (fun y => decide (y.state mo = 1)) : Int) + 1) (by omega) (by omega)]
      refine Ev.congr (fun k => ?_) ih
      simp [gt_zero, bool_b]
    · rw [w64 (n := (pre.countP (fun y => decide (y.state mo = 2)) : Int) + 1) (by omega) (by omega)]
      refine Ev.congr (fun k => ?_) ih
      simp [gt_zero, bool_b]
    · rw [w64 (n := (pre.countP (fun y => decide (y.state mo = 3)) : Int) + 1) (by omega) (by omega)]
      refine Ev.congr (fun k => ?_) ih
      simp [gt_zero, bool_b]
theorem loop4_1 (rest : List D) (a b c d e f : Int) {r : List D} (n : Nat) (hl : es.length ≤ 3000) (hn : es.countP (sentBy mo) = n)
    (hR : Ev (fun k => iter B4x0 k [.row (es.map Bk.d), .int mo, .int (n : Int), .int 0, .int a, .int b, .int c, .int d, .int e, .int f, .int 0, .int 0, .int 0, .int 0]) r) : ∀ (post pre : List Bk), es = pre ++ post →
    Ev (fun k => iter B4x1 k [.row (es.map Bk.d), .int mo, .int (pre.countP (sentBy mo) : Nat), .int (pre.length : Int), .int a, .int b, .int c, .int d, .int e, .int f]) r
  | [], pre, hp => by
    have hp' : pre = es := by simpa using hp.symm
    subst hp'
    have hlen : ¬ ((pre.length : Int) < ((pre.map Bk.d).length : Int)) := by rw [List.length_map]; omega
    refine Ev.iter (Ev.congr (fun k => ?_) hR)
    unfold B4x1
    simp only [gt_zero, gt_succ, int_i, row_r, decide_eq_false hlen, cond_false, hn]
  | x :: post, pre, hp => by
    have ih := loop4_1 rest a b c d e f n hl hn hR post (pre ++ [x]) (by simp [hp])
    rw [List.countP_append, List.countP_cons, List.countP_nil] at ih
    have hlt : ((pre.length : Int) < ((es.map Bk.d).length : Int)) := by rw [List.length_map, hp]; simp; omega
    have h2 : inRow (pre.length : Int) (es.map Bk.d).length = true := inRow_yes (by omega) hlt
    have h3 : elAt (es.map Bk.d) (pre.length : Int) = x.d := by rw [hp, elAt_mid]
    have hlp : pre.length + (post.length + 1) ≤ 3000 := by rw [hp] at hl; simpa using hl
    have h9 : IntKind.i64.wrap ((pre.length : Int) + 1) = ((pre ++ [x]).length : Int) := by rw [w64 (by omega) (by omega)]; simp
    have hcl : pre.countP (sentBy mo) ≤ pre.length := List.countP_le_length
    refine Ev.iterG fun go hgo => Ev.congr (fun k => ?_) (hgo _ _ ih)
    unfold B4x1
    simp only [gt_zero, gt_succ, int_i, row_r, decide_eq_true hlt, cond_true, h2, h3, Bk.c0, Bk.c1, Bool.and_true, h9]
    by_cases hk : x.kind = 1
    · rw [beqI_true hk]
      simp only [cond_true, Option.bind_some, gt_zero, bool_b]
      by_cases ht : x.time ≤ mo
      · rw [decide_eq_true ht, show sentBy mo x = true from decide_eq_true ⟨hk, ht⟩]
        simp only [cond_true, Option.bind_some, gt_zero, int_i]
        rw [w64 (by omega) (by omega)]
        simp
      · rw [decide_eq_false ht, show sentBy mo x = false from decide_eq_false (fun h => ht h.2)]
        simp [gt_zero, int_i]
    · rw [beqI_false hk, show sentBy mo x = false from decide_eq_false (fun h => hk h.1)]
      simp [gt_zero, int_i, bool_b]
end
theorem law4 (es : List Bk) (hx : ∀ x ∈ es, x.ok) (mo : Int) : Ev (fun k => F4 k [.row (es.map Bk.d), .int mo]) [.bool true] := by
  unfold F4
  simp only [gt_zero, gt_succ, row_r, int_i]
  refine Ev.bind (stand12 es hx mo) ?_
  have fin : Ev (fun k => (F11 k []).bind fun ds1 => some [D.bool ((gt ds1 0).b)]) [.bool true] := by
    refine Ev.bind awake11 ?_
    simp only [gt_zero, bool_b]
    exact Ev.now _
  by_cases h1 : cb es = 0
  · rw [if_neg (fun h => h h1)]
    by_cases h2 : 0 ≤ mo ∧ mo ≤ 1000000000000000
    · rw [if_pos h2]
      simp only [Stg.ds, List.cons_append, List.nil_append, gt_zero, gt_succ, int_i]
      refine Ev.neg rfl ?_
      obtain ⟨hl, hz⟩ := cb_zero h1
      have hck : chk [] (upto mo es) = 0 := by
        have := cb_chk h1
        rw [← upto_pre mo es] at this
        exact chk_pre this
      have hK := keeps_run (pre := []) keeps_nil hck
      simp only [List.nil_append, List.length_nil] at hK
      have hle : (upto mo es).length ≤ es.length := (List.takeWhile_sublist _).length_le
      have hq : (runA (upto mo es) 0 ([], [])).1.length ≤ 3000 := Nat.le_trans (run_len (l := upto mo es) (i := 0) (s := ([], [])) (Nat.le_refl _) (Nat.le_refl _)).1 (by omega)
      have hn : es.countP (sentBy mo) = (runA (upto mo es) 0 ([], [])).1.length := by
        rw [count_upto mo (cb_chk h1)]
        have := congrArg List.length hK.sent
        simpa using this.symm
      have h0 := loop4_0 es hx h1 mo h2 _ rfl hq (fun y hy => ⟨hK.ok y hy, hK.due y hy⟩) (runA (upto mo es) 0 ([], [])).1 [] rfl
      exact loop4_1 es mo [] _ _ _ _ _ _ _ hl hn h0 es [] rfl
    · rw [if_neg h2]
      simp only [Stg.ds, zeroS, List.cons_append, List.nil_append, gt_zero, gt_succ, int_i]
      exact Ev.pos rfl (Ev.pos rfl fin)
  · rw [if_pos h1]
    simp only [Stg.ds, zeroS, List.cons_append, List.nil_append, gt_zero, gt_succ, int_i]
    exact Ev.pos (bneI_true h1) (Ev.pos rfl fin)
theorem pure4 : ∀ xs, GoodL (tyTab TL) ([22, 3].flatMap fun t => (tyTab TL t).cells) xs → ∃ k, K4.f k xs = some [.bool true] := fun xs ⟨hl, hg⟩ => by
  have hl2 : xs.length = 2 := hl
  obtain ⟨d, m, rfl⟩ : ∃ d m, xs = [d, m] := by
    match xs, hl2 with
    | [d, m], _ => exact ⟨d, m, rfl⟩
  obtain ⟨es, rfl, hx⟩ := bks_of (hg 0 _ d rfl rfl)
  obtain ⟨mo, rfl, _⟩ := GoodC.int_inv (hg 1 (.int .i64) m rfl rfl)
  exact (law4 es hx mo).ex
end Go.Sx
