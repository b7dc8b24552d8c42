/- A book with the answer of a reply. -/
import Derived.Test.YtndlhopdhfhjnaaDoorSxPb9
set_option linter.unusedVariables false
set_option linter.unusedSimpArgs false
namespace Go.Sx
theorem runA_snoc (x : Bk) : ∀ (es : List Bk) (i : Nat) (s : List Sd × List Int), runA (es ++ [x]) i s = stepA (runA es i s) (i + es.length) x
  | [], i, s => by simp [runA]
  | e :: es, i, s => by
    simp only [List.cons_append, runA, runA_snoc x es, List.length_cons]
    rw [show i + 1 + es.length = i + (es.length + 1) by omega]
theorem ev21 : ∀ (post pre : List Bk), (pre ++ post).length ≤ 3000000 → Ev (fun k => iter B21x0 k [.row ((pre ++ post).map Bk.d), .row ((pre ++ post).map Bk.d), .int ((pre ++ post).length : Int), .int (pre.length : Int)]) [.bool true]
  | [], pre, hl => by
    refine Ev.iter (Ev.of fun k => ?_)
    unfold B21x0
    simp [gt_zero, gt_succ, int_i, row_r]
  | x :: post, pre, hl => by
    have h1 : (pre.length : Int) < ((pre ++ x :: post).length : Int) := by simp; omega
    have h2 : inRow (pre.length : Int) ((pre ++ x :: post).map Bk.d).length = true := inRow_yes (by omega) (by simpa using h1)
    have hpp : (pre ++ [x]) ++ post = pre ++ x :: post := by simp
    have ih := ev21 post (pre ++ [x]) (by simpa using hl)
    rw [hpp] at ih
    simp only [List.length_append, List.length_cons] at hl
    have h3 : IntKind.i64.wrap ((pre.length : Int) + 1) = ((pre ++ [x]).length : Int) := by rw [w64 (by omega) (by omega)]; simp
    refine Ev.iterG fun go hgo => Ev.congr (fun k => ?_) (hgo _ _ ih)
    unfold B21x0
    simp only [gt_zero, gt_succ, int_i, row_r, str_s, elAt_mid, Bk.c0, Bk.c1, Bk.c2, Bk.c3, Bk.c4, h1, h2, decide_true, cond_true, Bool.and_true, h3, ba_beq, beq_self_eq_true, Bool.not_true, cond_false]
theorem ev21b (l : List Bk) (hl : l.length ≤ 3000000) : Ev (fun k => F21 k [.row (l.map Bk.d), .row (l.map Bk.d)]) [.bool true] := by
  have := ev21 l [] (by simpa using hl)
  refine Ev.congr (fun k => ?_) this
  simp [F21, gt_zero, gt_succ, row_r]
/-- The event of an answer. -/
def ansE (s : ByteArray) (v mo : Int) : Bk := ⟨2, mo, 0, s, v⟩
def ansB (es : List Bk) (s : ByteArray) (v : Int) (gs : List D) (mo : Int) : List Bk × Int :=
  if cb es ≠ 0 then ([], cb es) else if repF s v gs ≠ 0 then ([], repF s v gs) else if ¬ (0 ≤ mo ∧ mo ≤ 1000000000000000) then ([], 1)
  else if cb (es ++ [ansE s v mo]) ≠ 0 then ([], cb (es ++ [ansE s v mo])) else (es ++ [ansE s v mo], 0)
theorem clone36 (k : Nat) (l : List D) (hl : l.length ≤ 3000) : F36 k [.row l] = some [.row l] := by
  simp only [F36, cloneK, gt_zero, row_r]
  rw [needOk_yes (by omega)]; rfl
theorem ans19 (es : List Bk) (s : ByteArray) (v : Int) (gs : List D) (mo : Int) (hl : gs.length * 8 ≤ 140737488351232) (hg : ∀ x ∈ gs, okG x) :
    Ev (fun k => F19 k [.row (es.map Bk.d), .str s, .int v, .row gs, .int mo]) [.row ((ansB es s v gs mo).1.map Bk.d), .int (ansB es s v gs mo).2] := by
  unfold F19 ansB
  simp only [gt_zero, gt_succ, int_i, row_r, str_s]
  refine Ev.bind (ev16b es) ?_
  simp only [gt_zero, int_i]
  by_cases h1 : cb es = 0
  case neg => rw [if_pos h1]; exact Ev.pos (bneI_true h1) (Ev.now _)
  rw [if_neg (fun h => h h1)]
  refine Ev.neg (bneI_false h1) (Ev.bind (rep35 s v gs hl hg) ?_)
  simp only [gt_zero, int_i, moment28, Option.bind_some, bool_b]
  by_cases h2 : repF s v gs = 0
  case neg => rw [if_pos h2]; exact Ev.pos (bneI_true h2) (Ev.now _)
  rw [if_neg (fun h => h h2)]
  refine Ev.neg (bneI_false h2) ?_
  by_cases h3 : 0 ≤ mo ∧ mo ≤ 1000000000000000
  case neg => rw [if_pos h3, decide_eq_false h3]; exact Ev.now _
  rw [if_neg (fun h => h h3), decide_eq_true h3]
  obtain ⟨hle, hz⟩ := cb_zero h1
  simp only [Bool.not_true, cond_false, clone36 _ _ (show (es.map Bk.d).length ≤ 3000 by simpa using hle), Option.bind_some, gt_zero, row_r]
  rw [needOk_yes (by simp; omega)]
  have e1 : es.map Bk.d ++ [D.agg [.int 2, .int mo, .int 0, .str s, .int v]] = (es ++ [ansE s v mo]).map Bk.d := by simp [ansE, Bk.d]
  simp only [cond_true, e1]
  refine Ev.bind (ev16b _) ?_
  simp only [gt_zero, int_i]
  by_cases h4 : cb (es ++ [ansE s v mo]) = 0
  case neg => rw [if_pos h4]; exact Ev.pos (bneI_true h4) (Ev.now _)
  rw [if_neg (fun h => h h4)]
  exact Ev.neg (bneI_false h4) (Ev.now _)
theorem ans20 (es : List Bk) (hx : ∀ x ∈ es, x.ok) (s : ByteArray) (hs : s.size ≤ 140737488351232) (v : Int) (hv : wf v) (gs : List D) (mo : Int) (hm : wf mo) (hl : gs.length * 8 ≤ 140737488351232) (hg : ∀ x ∈ gs, okG x) :
    Ev (fun k => F20 k [.row (es.map Bk.d), .str s, .int v, .row gs, .int mo]) [.row ((ansB es s v gs mo).1.map Bk.d), .int (ansB es s v gs mo).2] := by
  unfold F20 ansB
  simp only [gt_zero, gt_succ, int_i, row_r, str_s]
  refine Ev.bind (ev15b es hx) ?_
  simp only [gt_zero, int_i]
  by_cases h1 : cb es = 0
  case neg => rw [if_pos h1]; exact Ev.pos (bneI_true h1) (Ev.now _)
  rw [if_neg (fun h => h h1)]
  refine Ev.neg (bneI_false h1) (Ev.bind (rep37 s hs v gs hl hg) ?_)
  simp only [gt_zero, int_i, in38, Option.bind_some, bool_b]
  by_cases h2 : repF s v gs = 0
  case neg => rw [if_pos h2]; exact Ev.pos (bneI_true h2) (Ev.now _)
  rw [if_neg (fun h => h h2)]
  refine Ev.neg (bneI_false h2) ?_
  by_cases h3 : 0 ≤ mo ∧ mo ≤ 1000000000000000
  case neg => rw [if_pos h3, decide_eq_false h3]; exact Ev.now _
  rw [if_neg (fun h => h h3), decide_eq_true h3]
  obtain ⟨hle, hz⟩ := cb_zero h1
  simp only [Bool.not_true, cond_false]
  rw [needOk_yes (by simp; omega), needOk_yes (by simp; omega)]
  have e1 : es.map Bk.d ++ [D.agg [.int 2, .int mo, .int 0, .str s, .int v]] = (es ++ [ansE s v mo]).map Bk.d := by simp [ansE, Bk.d]
  simp only [cond_true, e1]
  refine Ev.bind (ev15b _ (fun x hx' => ?_)) ?_
  · rcases List.mem_append.1 hx' with h | h
    · exact hx x h
    · obtain rfl : x = ansE s v mo := by simpa using h
      exact ⟨⟨show -9223372036854775808 ≤ (2 : Int) by omega, show (2 : Int) ≤ 9223372036854775807 by omega⟩, hm, ⟨show -9223372036854775808 ≤ (0 : Int) by omega, show (0 : Int) ≤ 9223372036854775807 by omega⟩, hs, hv⟩
  simp only [gt_zero, int_i]
  by_cases h4 : cb (es ++ [ansE s v mo]) = 0
  case neg => rw [if_pos h4]; exact Ev.pos (bneI_true h4) (Ev.now _)
  rw [if_neg (fun h => h h4)]
  exact Ev.neg (bneI_false h4) (Ev.now _)
theorem ansB_len (es : List Bk) (s : ByteArray) (v : Int) (gs : List D) (mo : Int) : (ansB es s v gs mo).1.length ≤ 3000000 := by
  unfold ansB
  split
  · simp
  · split
    · simp
    · split
      · simp
      · split
        · simp
        · rename_i h
          have := (cb_zero (es := es ++ [ansE s v mo]) (by simpa using h)).1
          show (es ++ [ansE s v mo]).length ≤ 3000000
          omega
theorem law7 (es : List Bk) (hx : ∀ x ∈ es, x.ok) (s : ByteArray) (hs : s.size ≤ 140737488351232) (v : Int) (hv : wf v) (gs : List D) (mo : Int) (hm : wf mo) (hl : gs.length * 8 ≤ 140737488351232) (hg : ∀ x ∈ gs, okG x) :
    Ev (fun k => F7 k [.row (es.map Bk.d), .str s, .int v, .row gs, .int mo]) [.bool true] := by
  unfold F7
  simp only [gt_zero, gt_succ, int_i, row_r, str_s]
  refine Ev.bind (ans20 es hx s hs v hv gs mo hm hl hg) (Ev.bind (ans19 es s v gs mo hl hg) ?_)
  simp only [gt_zero, gt_succ, int_i, row_r]
  refine Ev.bind (ev21b _ (ansB_len es s v gs mo)) ?_
  simp only [gt_zero, bool_b]
  refine Ev.pos rfl (Ev.pos (beqI_true rfl) (Ev.bind awake11 ?_))
  simp only [gt_zero, bool_b]
  exact Ev.now _
/-! ### Out of good data -/
theorem okS_of {d : D} (h : GoodC (tyTab TL) .str d) : okS d := by obtain ⟨s, rfl, hs⟩ := h.str_inv; exact hs
theorem okFls_of {d : D} (h : GoodC (tyTab TL) (.sl 134) d) : okRow okFl d := by
  obtain ⟨l, rfl, hb, _, hc⟩ := h.sl_inv
  have hb : l.length * 56 ≤ 140737488351232 := hb
  exact ⟨show l.length * 8 ≤ _ by omega, fun x hx => okS_of (show GoodC (tyTab TL) .str (x.c 5) from hc x hx 5 (show 5 < 6 by omega))⟩
theorem okSs_of {d : D} (h : GoodC (tyTab TL) (.sl 9) d) : okRow okS d := by
  obtain ⟨l, rfl, hb, _, hc⟩ := h.sl_inv
  have hb : l.length * 16 ≤ 140737488351232 := hb
  exact ⟨show l.length * 8 ≤ _ by omega, fun x hx => okS_of (show GoodC (tyTab TL) .str x from hc x hx 0 (show 0 < 1 by omega))⟩
theorem okMs_of {d : D} (h : GoodC (tyTab TL) (.sl 89) d) : okRow okM d := by
  obtain ⟨l, rfl, hb, _, hc⟩ := h.sl_inv
  have hb : l.length * 80 ≤ 140737488351232 := hb
  exact ⟨show l.length * 8 ≤ _ by omega, fun x hx => ⟨okS_of (show GoodC (tyTab TL) .str (x.c 0) from hc x hx 0 (show 0 < 5 by omega)), okFls_of (show GoodC (tyTab TL) (.sl 134) (x.c 3) from hc x hx 3 (show 3 < 5 by omega)), okSs_of (show GoodC (tyTab TL) (.sl 9) (x.c 4) from hc x hx 4 (show 4 < 5 by omega))⟩⟩
theorem okGs_of {d : D} (h : GoodC (tyTab TL) (.sl 77) d) : okRow okG d := by
  obtain ⟨l, rfl, hb, _, hc⟩ := h.sl_inv
  have hb : l.length * 48 ≤ 140737488351232 := hb
  exact ⟨show l.length * 8 ≤ _ by omega, fun x hx => ⟨okS_of (show GoodC (tyTab TL) .str (x.c 0) from hc x hx 0 (show 0 < 3 by omega)), okMs_of (show GoodC (tyTab TL) (.sl 89) (x.c 2) from hc x hx 2 (show 2 < 3 by omega))⟩⟩
theorem args_of {xs : List D} (h : GoodL (tyTab TL) ([22, 47, 3].flatMap fun t => (tyTab TL t).cells) xs) :
    ∃ (es : List Bk) (s : ByteArray) (v : Int) (gs : List D) (mo : Int), xs = [.row (es.map Bk.d), .str s, .int v, .row gs, .int mo] ∧ (∀ x ∈ es, x.ok) ∧ s.size ≤ 140737488351232 ∧ wf v ∧ wf mo ∧ gs.length * 8 ≤ 140737488351232 ∧ ∀ x ∈ gs, okG x := by
  obtain ⟨hl, hg⟩ := h
  obtain ⟨a, b, c, d, e, rfl⟩ : ∃ a b c d e, xs = [a, b, c, d, e] := by
    match xs, (show xs.length = 5 from hl) with
    | [a, b, c, d, e], _ => exact ⟨a, b, c, d, e, rfl⟩
  obtain ⟨es, rfl, hx⟩ := bks_of (hg 0 _ a rfl rfl)
  obtain ⟨s, rfl, hs⟩ := GoodC.str_inv (show GoodC (tyTab TL) .str b from hg 1 _ b rfl rfl)
  obtain ⟨v, rfl, hv⟩ := GoodC.int_inv (show GoodC (tyTab TL) (.int .i64) c from hg 2 _ c rfl rfl)
  have hgs : GoodC (tyTab TL) (.sl 77) d := hg 3 _ d rfl rfl
  obtain ⟨mo, rfl, hm⟩ := GoodC.int_inv (show GoodC (tyTab TL) (.int .i64) e from hg 4 _ e rfl rfl)
  obtain ⟨gs, rfl, _⟩ := hgs.sl_inv
  obtain ⟨h1, h2⟩ := okGs_of hgs
  exact ⟨es, s, v, gs, mo, rfl, hx, hs, wf64 hv, wf64 hm, h1, h2⟩
theorem pure7 : ∀ xs, GoodL (tyTab TL) ([22, 47, 3].flatMap fun t => (tyTab TL t).cells) xs → ∃ k, K7.f k xs = some [.bool true] := fun xs h => by
  obtain ⟨es, s, v, gs, mo, rfl, hx, hs, hv, hm, hl, hg⟩ := args_of h
  exact (law7 es hx s hs v hv gs mo hm hl hg).ex
end Go.Sx
