/- ReplyAnswersCount. -/
import Derived.Test.YtndlhopdhfhjnaaDoorSxPb10
set_option linter.unusedVariables false
set_option linter.unusedSimpArgs false
namespace Go.Sx
section
variable (s : ByteArray) (v mo : Int) (gs : List D) (A B : List Sd) (x y : List D)
def st6 (o i : Int) : List D := [.int mo, .int o, .int i, .str s, .int v, .row gs, .row (A.map Sd.d), .row x, .row (B.map Sd.d), .row y]
/-- From here on all are the same. -/
theorem same6 (o : Int) (hA : A.length ≤ 3000) (ho : o ≤ 1) (hsum : (IntKind.i64.wrap (o + (y.length : Int)) == IntKind.i64.wrap (1 + (x.length : Int))) = true) : ∀ (post preA preB : List Sd), A = preA ++ post → B = preB ++ post → preA.length = preB.length →
    Ev (fun k => iter B6x0 k (st6 s v mo gs A B x y o (preA.length : Int))) [.bool true]
  | [], preA, preB, hA', hB', hl => by
    refine Ev.iter ?_
    have e : A.length = preA.length := by rw [hA']; simp
    unfold B6x0 st6
    simp only [gt_zero, gt_succ, int_i, row_r, str_s, List.length_map, e, no_more, cond_false, decide_eq_true ho, cond_true, hsum]
    refine Ev.bind awake11 ?_
    simp only [gt_zero, bool_b]
    exact Ev.now _
  | z :: post, preA, preB, hA', hB', hl => by
    have ih := same6 o hA ho hsum post (preA ++ [z]) (preB ++ [z]) (by simp [hA']) (by simp [hB']) (by simp [hl])
    have hlen : A.length = preA.length + (post.length + 1) := by rw [hA']; simp
    have hlenB : B.length = preA.length + (post.length + 1) := by rw [hB']; simp [hl]
    have h1 : (preA.length : Int) < (A.length : Int) := by omega
    have e1 : elAt (A.map Sd.d) (preA.length : Int) = z.d := by rw [hA']; exact elAt_mid _ _ _ _
    have e2 : elAt (B.map Sd.d) (preA.length : Int) = z.d := by rw [hB', hl]; exact elAt_mid _ _ _ _
    have i1 : inRow (preA.length : Int) (A.map Sd.d).length = true := inRow_yes (by omega) (by simpa using h1)
    have i2 : inRow (preA.length : Int) (B.map Sd.d).length = true := inRow_yes (by omega) (by simp; omega)
    have h3 : IntKind.i64.wrap ((preA.length : Int) + 1) = ((preA ++ [z]).length : Int) := by rw [w64 (by omega) (by omega)]; simp
    refine Ev.iterG fun go hgo => Ev.congr (fun k => ?_) (hgo _ _ ih)
    unfold B6x0 st6
    simp only [gt_zero, gt_succ, int_i, row_r, str_s, e1, e2, i1, i2, Sd.c0, Sd.c1, Sd.c2, Sd.c3, Sd.c4, Bool.and_true, cond_true, ba_beq, beq_self_eq_true, Bool.not_true, cond_false, h3]
    rw [decide_eq_true (show (preA.length : Int) < (((A.map Sd.d).length : Nat) : Int) by simpa using h1)]
    rfl
/-- One of them is answered. -/
theorem one6 (z : Sd) (c : List Sd) (hA : A.length ≤ 3000) (hx : x.length ≤ 3000) (hyx : y.length = x.length) (hz : z.answer = -1) (hzr : z.ref = s) (hmo : 0 ≤ mo) : ∀ (post pre : List Sd), A = pre ++ post ++ z :: c → B = pre ++ post ++ (z.done mo v) :: c →
    Ev (fun k => iter B6x0 k (st6 s v mo gs A B x y 0 (pre.length : Int))) [.bool true]
  | [], pre, hA', hB' => by
    simp only [List.append_nil] at hA' hB'
    have ih := same6 s v mo gs A B x y 1 hA (by omega) (by rw [hyx]; simp) c (pre ++ [z]) (pre ++ [z.done mo v]) (by simp [hA']) (by simp [hB']) (by simp)
    have hlen : A.length = pre.length + (c.length + 1) := by rw [hA']; simp
    have hlenB : B.length = pre.length + (c.length + 1) := by rw [hB']; simp
    have h1 : (pre.length : Int) < (A.length : Int) := by omega
    have e1 : elAt (A.map Sd.d) (pre.length : Int) = z.d := by rw [hA']; exact elAt_mid _ _ _ _
    have e2 : elAt (B.map Sd.d) (pre.length : Int) = (z.done mo v).d := by rw [hB']; exact elAt_mid _ _ _ _
    have i1 : inRow (pre.length : Int) (A.map Sd.d).length = true := inRow_yes (by omega) (by simpa using h1)
    have i2 : inRow (pre.length : Int) (B.map Sd.d).length = true := inRow_yes (by omega) (by simp; omega)
    have h3 : IntKind.i64.wrap ((pre.length : Int) + 1) = ((pre ++ [z]).length : Int) := by rw [w64 (by omega) (by omega)]; simp
    have h4 : IntKind.i64.wrap ((0 : Int) + 1) = 1 := by rw [w64 (by omega) (by omega)]; omega
    refine Ev.iterG fun go hgo => Ev.congr (fun k => ?_) (hgo _ _ ih)
    unfold B6x0 st6
    have hne : ((-1 : Int) == mo) = false := beqI_false (by omega)
    simp only [gt_zero, gt_succ, int_i, row_r, str_s, e1, e2, i1, i2, Sd.c0, Sd.c1, Sd.c2, Sd.c3, Sd.c4, Sd.done, hz, hzr, hne, Bool.and_true, Bool.and_false, Bool.false_and, cond_true, beq_self_eq_true, bne_self_eq_false, Bool.not_true, Bool.not_false, cond_false, h3, h4, Option.bind_some, bool_b]
    rw [decide_eq_true (show (pre.length : Int) < (((A.map Sd.d).length : Nat) : Int) by simpa using h1)]
    rfl
  | w :: post, pre, hA', hB' => by
    have ih := one6 z c hA hx hyx hz hzr hmo post (pre ++ [w]) (by simp [hA']) (by simp [hB'])
    have hlen : A.length = pre.length + (post.length + 1) + (c.length + 1) := by rw [hA']; simp; omega
    have hlenB : B.length = pre.length + (post.length + 1) + (c.length + 1) := by rw [hB']; simp; omega
    have h1 : (pre.length : Int) < (A.length : Int) := by omega
    have e1 : elAt (A.map Sd.d) (pre.length : Int) = w.d := by rw [hA', List.append_assoc, List.cons_append]; exact elAt_mid _ _ _ _
    have e2 : elAt (B.map Sd.d) (pre.length : Int) = w.d := by rw [hB', List.append_assoc, List.cons_append]; exact elAt_mid _ _ _ _
    have i1 : inRow (pre.length : Int) (A.map Sd.d).length = true := inRow_yes (by omega) (by simpa using h1)
    have i2 : inRow (pre.length : Int) (B.map Sd.d).length = true := inRow_yes (by omega) (by simp; omega)
    have h3 : IntKind.i64.wrap ((pre.length : Int) + 1) = ((pre ++ [w]).length : Int) := by rw [w64 (by omega) (by omega)]; simp
    refine Ev.iterG fun go hgo => Ev.congr (fun k => ?_) (hgo _ _ ih)
    unfold B6x0 st6
    simp only [gt_zero, gt_succ, int_i, row_r, str_s, e1, e2, i1, i2, Sd.c0, Sd.c1, Sd.c2, Sd.c3, Sd.c4, Bool.and_true, cond_true, ba_beq, beq_self_eq_true, Bool.not_true, cond_false, h3]
    rw [decide_eq_true (show (pre.length : Int) < (((A.map Sd.d).length : Nat) : Int) by simpa using h1)]
    rfl
end
theorem law6 (es : List Bk) (hx : ∀ x ∈ es, x.ok) (s : ByteArray) (hs : s.size ≤ 140737488351232) (v : Int) (hv : wf v) (gs : List D) (mo : Int) (hm : wf mo) (hl : gs.length * 8 ≤ 140737488351232) (hg : ∀ x ∈ gs, okG x) :
    Ev (fun k => F6 k [.row (es.map Bk.d), .str s, .int v, .row gs, .int mo]) [.bool true] := by
  unfold F6
  simp only [gt_zero, gt_succ, int_i, row_r, str_s]
  refine Ev.bind (ans19 es s v gs mo hl hg) ?_
  simp only [gt_zero, gt_succ, int_i, row_r]
  have bad : ∀ n : Int, n ≠ 0 → ansB es s v gs mo = ([], n) → Ev (fun k => bif ((ansB es s v gs mo).2 != 0) then (bif (((((ansB es s v gs mo).1.map Bk.d).length : Nat) : Int) == 0) then (F11 k []).bind fun ds1 => some [D.bool (gt ds1 0).b] else some [D.bool false]) else none) [.bool true] := fun n hn he => by
    rw [he]
    refine Ev.pos (bneI_true hn) (Ev.pos rfl (Ev.bind awake11 ?_))
    simp only [gt_zero, bool_b]
    exact Ev.now _
  have out : ∀ n : Int, n ≠ 0 → ansB es s v gs mo = ([], n) → ∀ G : Nat → Option (List D), Ev (fun k => bif ((ansB es s v gs mo).2 != 0) then (bif (((((ansB es s v gs mo).1.map Bk.d).length : Nat) : Int) == 0) then (F11 k []).bind fun ds1 => some [D.bool (gt ds1 0).b] else some [D.bool false]) else G k) [.bool true] := fun n hn he G => by
    rw [he]
    refine Ev.pos (bneI_true hn) (Ev.pos rfl (Ev.bind awake11 ?_))
    simp only [gt_zero, bool_b]
    exact Ev.now _
  by_cases h1 : cb es = 0
  case neg => exact out (cb es) h1 (by unfold ansB; rw [if_pos h1]) _
  by_cases h2 : repF s v gs = 0
  case neg => exact out _ h2 (by unfold ansB; rw [if_neg (fun h => h h1), if_pos h2]) _
  by_cases h3 : 0 ≤ mo ∧ mo ≤ 1000000000000000
  case neg => exact out 1 (by omega) (by unfold ansB; rw [if_neg (fun h => h h1), if_neg (fun h => h h2), if_pos h3]) _
  by_cases h4 : cb (es ++ [ansE s v mo]) = 0
  case neg => exact out _ h4 (by unfold ansB; rw [if_neg (fun h => h h1), if_neg (fun h => h h2), if_neg (fun h => h h3), if_pos h4]) _
  have he : ansB es s v gs mo = (es ++ [ansE s v mo], 0) := by unfold ansB; rw [if_neg (fun h => h h1), if_neg (fun h => h h2), if_neg (fun h => h h3), if_neg (fun h => h h4)]
  rw [he]
  refine Ev.neg rfl ?_
  have hx2 : ∀ x ∈ es ++ [ansE s v mo], x.ok := fun x hx' => by
    rcases List.mem_append.1 hx' with h | h
    · exact hx x h
    · obtain rfl : x = ansE s v mo := by simpa using h
      exact ⟨⟨show -9223372036854775808 ≤ (2 : Int) by omega, show (2 : Int) ≤ 9223372036854775807 by omega⟩, hm, ⟨show -9223372036854775808 ≤ (0 : Int) by omega, show (0 : Int) ≤ 9223372036854775807 by omega⟩, hs, hv⟩
  refine Ev.bind (book10 es hx) (Ev.bind (book10 _ hx2) ?_)
  rw [if_neg (fun h => h h1), if_neg (fun h => h h4), runA_snoc]
  obtain ⟨hle, hz⟩ := cb_zero h1
  have hr := run_len (l := es) (i := 0) (s := ([], [])) (Nat.le_refl _) (Nat.le_refl _)
  have hK := keeps_run (pre := []) keeps_nil (cb_chk h1)
  simp only [List.nil_append, List.length_nil] at hK
  generalize hst : runA es 0 ([], []) = stt at hr hK ⊢
  obtain ⟨A, lf⟩ := stt
  simp only at hr
  have hkd : ¬ (ansE s v mo).kind = 1 := show ¬ (2 : Int) = 1 by omega
  unfold stepA
  rw [if_neg hkd]
  simp only [gt_zero, gt_succ, row_r, int_i]
  rcases last_waits s A with hw | ⟨a, z, c, hA, hzw, hc⟩
  · have e1 : close (ansE s v mo).ref (ansE s v mo).time (ansE s v mo).verdict A = none := close_none hw
    simp only [e1, gt_zero, gt_succ, row_r, int_i, bne_self_eq_false, cond_false, Option.bind_some, bool_b]
    refine same6 s v mo gs A A (lf.map .int) ((lf ++ [_]).map .int) 0 (by omega) (by omega) ?_ A [] [] rfl rfl rfl
    simp only [List.length_map, List.length_append, List.length_cons, List.length_nil]
    exact beqI_true (by congr 1; omega)
  · have e1 : close (ansE s v mo).ref (ansE s v mo).time (ansE s v mo).verdict A = some (a ++ z.done mo v :: c) := by rw [hA]; exact close_mid hzw hc
    have hz1 : z.answer = -1 := by
      rcases hK.ok z (by rw [hA]; simp) with h | h
      · exact h.1
      · have := hzw.2; omega
    have elen : ((((A.map Sd.d).length : Nat) : Int) != (((a ++ z.done mo v :: c).map Sd.d).length : Int)) = false := bneI_false (by rw [hA]; simp)
    simp only [e1, gt_zero, gt_succ, row_r, int_i, bne_self_eq_false, cond_false, Option.bind_some, bool_b, elen]
    exact one6 s v mo gs A _ (lf.map .int) (lf.map .int) z c (by omega) (by simp; omega) rfl hz1 hzw.1 h3.1 a [] (by simp [hA]) (by simp)
theorem pure6 : ∀ xs, GoodL (tyTab TL) ([22, 47, 3].flatMap fun t => (tyTab TL t).cells) xs → ∃ k, K6.f k xs = some [.bool true] := fun xs h => by
  obtain ⟨es, s, v, gs, mo, rfl, hx, hs, hv, hm, hl, hg⟩ := args_of h
  exact (law6 es hx s hs v hv gs mo hm hl hg).ex
end Go.Sx
