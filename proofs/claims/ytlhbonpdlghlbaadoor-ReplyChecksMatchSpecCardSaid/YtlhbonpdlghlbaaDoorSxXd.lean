/- Replies: checks and segments are as specified (row 27). -/
import Derived.Test.YtlhbonpdlghlbaaDoorSxXc
set_option linter.unusedVariables false
set_option linter.unusedSimpArgs false
namespace Go.Sx
theorem awake31 : Ev (fun k => F31 k []) [.bool true] := ⟨60, fun k hk => by
  obtain ⟨j, rfl⟩ : ∃ j, k = j + 60 := ⟨k - 60, by omega⟩
  kernel_rfl⟩
/-! ### How many segments -/
def sumM (gs : List D) : Nat := (gs.map fun g => (g.c 2).r.length).sum
theorem snoc_ind {α : Type} {P : List α → Prop} (h0 : P []) (h1 : ∀ l a, P l → P (l ++ [a])) : ∀ (n : Nat) (l : List α), l.length = n → P l
  | 0, l, h => by obtain rfl := List.eq_nil_of_length_eq_zero h; exact h0
  | n + 1, l, h => by
    rcases List.eq_nil_or_concat l with rfl | ⟨l', a, rfl⟩
    · exact h0
    · rw [List.concat_eq_append] at h ⊢
      exact h1 l' a (snoc_ind h0 h1 n l' (by simpa using h))
theorem sumM_le : ∀ (gs : List D), (∀ g ∈ gs, (g.c 2).r.length ≤ 20000000000000) → sumM gs ≤ 20000000000000 * gs.length
  | [], _ => by simp [sumM]
  | g :: gs, h => by
    have := sumM_le gs (fun x hx => h x (by simp [hx]))
    have := h g (by simp)
    simp only [sumM, List.map_cons, List.sum_cons, List.length_cons] at *
    omega
theorem many_sum (gs : List D) (hl : gs.length ≤ 1000) (h : ∀ g ∈ gs, (g.c 2).r.length ≤ 20000000000000) : many gs = (sumM gs : Int) := by
  refine snoc_ind (P := fun gs => gs.length ≤ 1000 → (∀ g ∈ gs, (g.c 2).r.length ≤ 20000000000000) → many gs = (sumM gs : Int)) ?_ (fun gs g ih => ?_) _ gs rfl hl h
  · intro _ _; rfl
  · intro hl h
    simp only [List.length_append, List.length_cons, List.length_nil] at hl
    have h1 := ih (by omega) (fun x hx => h x (by simp [hx]))
    have h2 := sumM_le gs (fun x hx => h x (by simp [hx]))
    have h3 := h g (by simp)
    rw [many_snoc, h1, w64 (by omega) (by omega)]
    simp [sumM]
theorem flat_le {f : D → List D} {n : Nat} : ∀ {l : List D}, (∀ x ∈ l, (f x).length ≤ n) → (l.flatMap f).length ≤ n * l.length
  | [], _ => by simp
  | x :: l, h => by
    have h1 := flat_le (f := f) (n := n) (l := l) (fun y hy => h y (by simp [hy]))
    have h2 := h x (by simp)
    simp only [List.flatMap_cons, List.length_append, List.length_cons, Nat.mul_succ]
    omega
theorem gr_le : ∀ {gs : List D}, (∀ g ∈ gs, ∀ m ∈ (g.c 2).r, (msS m).length ≤ 701) → (gs.flatMap grS).length ≤ gs.length + 701 * sumM gs
  | [], _ => by simp
  | g :: gs, h => by
    have h1 := gr_le (gs := gs) (fun y hy => h y (by simp [hy]))
    have h2 := flat_le (f := msS) (n := 701) (h g (by simp))
    simp only [List.flatMap_cons, List.length_append, List.length_cons, sumM, List.map_cons, List.sum_cons, grS] at h1 h2 ⊢
    omega
theorem flaws_len {l : List D} (h : flaws l = 0) : l.length ≤ 500 := by
  unfold flaws at h
  by_cases hs : (l.length : Int) > 500
  · rw [decide_eq_true hs] at h; simp at h
  · omega
theorem msg_len {pre : List D} {m : D} (h : msgF pre m = 0) : (msS m).length ≤ 701 := by
  unfold msgF at h
  cases h1 : !isRef (m.c 0).s <;> rw [h1] at h
  · cases h2 : !decide (1 ≤ (m.c 1).i ∧ (m.c 1).i ≤ 3) <;> rw [h2] at h
    · cases h3 : twice pre (m.c 0).s <;> rw [h3] at h
      · simp only [cond_false] at h
        unfold msgT at h
        cases h4 : ((m.c 2).b && (((m.c 1).i != 3) || some2 m)) <;> rw [h4] at h
        · cases h5 : (flaws (m.c 3).r != 0) <;> rw [h5] at h
          · have hf := flaws_len (show flaws (m.c 3).r = 0 by simpa using h5)
            by_cases h6 : ((m.c 4).r.length : Int) > 200
            · rw [decide_eq_true h6] at h; simp at h
            · simp only [msS, List.length_cons, List.length_append, List.length_map]
              omega
          · simp only [cond_false, cond_true] at h
            rw [h] at h5; simp at h5
        · simp at h
      · simp at h
    · simp at h
  · simp at h
theorem msF_zero {v t : Int} : ∀ {ms pre : List D} (_ : msF v t pre ms = 0), ∀ m ∈ ms, (msS m).length ≤ 701
  | [], _, _, m, hm => by simp at hm
  | x :: ms, pre, h, m, hm => by
    unfold msF at h
    cases h1 : (msgF pre x != 0) <;> rw [h1] at h
    · rcases List.mem_cons.1 hm with rfl | hm
      · exact msg_len (by simpa using h1)
      · exact msF_zero h m hm
    · simp only [cond_true] at h
      rw [h] at h1; simp at h1
theorem grp_len {pre : List D} {g : D} (h : grpF pre g = 0) : ∀ m ∈ (g.c 2).r, (msS m).length ≤ 701 := by
  unfold grpF at h
  cases h1 : !isRef (g.c 0).s <;> rw [h1] at h
  · cases h2 : !decide (1 ≤ (g.c 1).i ∧ (g.c 1).i ≤ 3) <;> rw [h2] at h
    · cases h3 : twice pre (g.c 0).s <;> rw [h3] at h
      · exact msF_zero h
      · simp at h
    · simp at h
  · simp at h
theorem gsF_zero {v t : Int} : ∀ {gs pre : List D} (_ : gsF v t pre gs = 0), many (pre ++ gs) ≤ 200 ∧ ∀ g ∈ gs, ∀ m ∈ (g.c 2).r, (msS m).length ≤ 701
  | [], pre, h => by
    unfold gsF at h
    refine ⟨?_, fun g hg => by simp at hg⟩
    rw [List.append_nil]
    by_cases h1 : many pre > 200
    · rw [decide_eq_true h1] at h; simp at h
    · omega
  | g :: gs, pre, h => by
    unfold gsF at h
    cases h1 : (grpF pre g != 0) <;> rw [h1] at h
    · obtain ⟨h2, h3⟩ := gsF_zero h
      refine ⟨by simpa using h2, fun x hx => ?_⟩
      rcases List.mem_cons.1 hx with rfl | hx
      · exact grp_len (by simpa using h1)
      · exact h3 x hx
    · simp only [cond_true] at h
      rw [h] at h1; simp at h1
theorem rep_len {s : ByteArray} {v : Int} {gs : List D} (h : repF s v gs = 0) (hg : ∀ g ∈ gs, (g.c 2).r.length ≤ 20000000000000) : (gs.flatMap grS).length ≤ 200000 ∧ gs.length ≤ 50 := by
  unfold repF at h
  cases h1 : !isRef s <;> rw [h1] at h
  · cases h2 : !decide (1 ≤ v ∧ v ≤ 3) <;> rw [h2] at h
    · by_cases h3 : (gs.length : Int) > 50
      · rw [decide_eq_true h3] at h; simp at h
      · rw [decide_eq_false h3] at h
        obtain ⟨h4, h5⟩ := gsF_zero (pre := []) h
        rw [List.nil_append, many_sum gs (by omega) hg] at h4
        have := gr_le h5
        exact ⟨by omega, by omega⟩
    · simp at h
  · simp at h
/-! ### Small segments -/
theorem small_of {t : ByteArray} {l : List D} (h : l.length ≤ 10) (hx : ∀ x ∈ l, ∃ p : List D, x = elP p ∧ p.length ≤ 10) : small (sgD t l) := by
  refine ⟨h, fun x hxm => ?_⟩
  obtain ⟨p, rfl, hp⟩ := hx x hxm
  refine ⟨show 1 ≤ 10 by omega, fun y hy => ?_⟩
  have hy2 : y ∈ [D.row p] := hy
  rw [List.mem_singleton.1 hy2]
  exact hp
theorem ms_small (m : D) : ∀ d ∈ msS m, small d := by
  intro d hd
  unfold msS at hd
  rcases List.mem_cons.1 hd with rfl | hd
  · refine small_of (by unfold msE; cases (m.c 2).b <;> simp) (fun x hx => ?_)
    unfold msE at hx
    cases h : (m.c 2).b <;> rw [h] at hx <;> simp [el] at hx
    · rcases hx with rfl | rfl <;> exact ⟨_, rfl, by simp⟩
    · rcases hx with rfl | rfl | rfl <;> exact ⟨_, rfl, by simp⟩
  · rcases List.mem_append.1 hd with hd | hd
    · obtain ⟨x, _, rfl⟩ := List.mem_map.1 hd
      refine small_of (by unfold flE; cases spt x <;> cases nam x <;> simp) (fun y hy => ?_)
      unfold flE at hy
      cases h1 : spt x <;> cases h2 : nam x <;> rw [h1, h2] at hy <;> simp [el] at hy
      · rcases hy with rfl | rfl <;> exact ⟨_, rfl, by simp⟩
      · rcases hy with rfl | rfl | rfl | rfl <;> exact ⟨_, rfl, by simp⟩
      · rcases hy with rfl | rfl | rfl <;> exact ⟨_, rfl, by simp⟩
      · rcases hy with rfl | rfl | rfl | rfl <;> exact ⟨_, rfl, by simp⟩
    · obtain ⟨x, _, rfl⟩ := List.mem_map.1 hd
      exact small_of (by simp) (fun y hy => ⟨[.str x.s], List.mem_singleton.1 hy, by simp⟩)
theorem two_small (t a b : ByteArray) : small (sgD t [el a, el b]) := small_of (by simp) (fun x hx => by
  simp [el] at hx
  rcases hx with rfl | rfl <;> exact ⟨_, rfl, by simp⟩)
theorem all_small (s : ByteArray) (v : Int) (gs : List D) : ∀ d ∈ allS s v gs, small d := by
  intro d hd
  unfold allS at hd
  rcases List.mem_cons.1 hd with rfl | hd
  · exact two_small _ _ _
  · obtain ⟨g, _, hg⟩ := List.mem_flatMap.1 hd
    unfold grS at hg
    rcases List.mem_cons.1 hg with rfl | hg
    · exact two_small _ _ _
    · obtain ⟨m, _, hm⟩ := List.mem_flatMap.1 hg
      exact ms_small m d hm
/-! ### Row 27 -/
def segK (s : ByteArray) (v : Int) (gs : List D) : List D :=
  bif repF s v gs != 0 then [.row [], .int (repF s v gs)] else bif decide (((allS s v gs).length : Int) > 2000) then [.row [], .int 2] else [.row (allS s v gs), .int 0]
theorem seg26 (s : ByteArray) (hs : s.size ≤ 140737488351232) (v : Int) (hv : okI v) (gs : List D) (hl : gs.length * 8 ≤ 140737488351232) (hx : ∀ g ∈ gs, okG g) (hi : ∀ g ∈ gs, iG g) : Ev (fun k => F26 k [.str s, .int v, .row gs]) (segK s v gs) := by
  have hg : ∀ g ∈ gs, (g.c 2).r.length ≤ 20000000000000 := fun g hg => by have := (hx g hg).2.1; omega
  unfold F26 segK
  simp only [gt_zero, gt_succ, int_i, str_s, row_r]
  refine Ev.bind (rep37 s hs v gs hl hx) ?_
  simp only [gt_zero, int_i]
  cases hr : (repF s v gs != 0)
  case true => exact Ev.now _
  obtain ⟨h1, h2⟩ := rep_len (show repF s v gs = 0 by simpa using hr) hg
  refine Ev.neg rfl ?_
  simp only [ia53 _ _ hv, Option.bind_some, gt_zero, str_s]
  refine Ev.bind (seg52 akI [.row [.str s], .row [.str (ia v)]] (by simp)) ?_
  simp only [gt_zero, gt_succ, str_s, row_r, List.map_cons, List.map_nil]
  exact gr26 gs [sgD akI [el s, el (ia v)]] hi (by simp only [List.length_cons, List.length_nil]; omega) (by omega) (fun g hm => by have := hg g hm; omega)
theorem seg27 (s : ByteArray) (v : Int) (hv : okI v) (gs : List D) (hl : gs.length * 8 ≤ 140737488351232) (hx : ∀ g ∈ gs, okG g) (hi : ∀ g ∈ gs, iG g) : Ev (fun k => F27 k [.str s, .int v, .row gs]) (segK s v gs) := by
  have hg : ∀ g ∈ gs, (g.c 2).r.length ≤ 20000000000000 := fun g hg => by have := (hx g hg).2.1; omega
  unfold F27 segK
  simp only [gt_zero, gt_succ, int_i, str_s, row_r]
  refine Ev.bind (rep35 s v gs hl hx) ?_
  simp only [gt_zero, int_i]
  cases hr : (repF s v gs != 0)
  case true => exact Ev.now _
  obtain ⟨h1, h2⟩ := rep_len (show repF s v gs = 0 by simpa using hr) hg
  refine Ev.neg rfl (Ev.bind (a := [.row (allS s v gs)]) ?_ ?_)
  · unfold F55
    simp only [gt_zero, gt_succ, int_i, str_s, row_r, ia53 _ _ hv, Option.bind_some]
    refine Ev.bind (made81 akI [.str s, .str (ia v)] (by simp)) ?_
    simp only [gt_zero, gt_succ, str_s, row_r, List.map_cons, List.map_nil]
    exact gr55 gs [sgD akI [el s, el (ia v)]] hi (by simp only [List.length_cons, List.length_nil]; omega) (by omega) (fun g hm => by have := hg g hm; omega)
  · simp only [gt_zero, row_r]
    cases decide (((allS s v gs).length : Int) > 2000) <;> exact Ev.now _
theorem law8 (s : ByteArray) (hs : s.size ≤ 140737488351232) (v : Int) (hv : okI v) (gs : List D) (hl : gs.length * 8 ≤ 140737488351232) (hx : ∀ g ∈ gs, okG g) (hi : ∀ g ∈ gs, iG g) : Ev (fun k => F8 k [.str s, .int v, .row gs]) [.bool true] := by
  have hg : ∀ g ∈ gs, (g.c 2).r.length ≤ 20000000000000 := fun g hg => by have := (hx g hg).2.1; omega
  obtain ⟨l, f, hk, hsm, hlen⟩ : ∃ l f, segK s v gs = [.row l, .int f] ∧ (∀ d ∈ l, small d) ∧ l.length ≤ 1000000 := by
    unfold segK
    cases hr : (repF s v gs != 0)
    · obtain ⟨h1, h2⟩ := rep_len (show repF s v gs = 0 by simpa using hr) hg
      cases decide (((allS s v gs).length : Int) > 2000)
      · exact ⟨_, _, rfl, all_small s v gs, by simp only [allS, List.length_cons]; omega⟩
      · exact ⟨_, _, rfl, fun d hd => by simp at hd, by simp⟩
    · exact ⟨_, _, rfl, fun d hd => by simp at hd, by simp⟩
  have h26 := seg26 s hs v hv gs hl hx hi
  have h27 := seg27 s v hv gs hl hx hi
  rw [hk] at h26 h27
  unfold F8
  simp only [gt_zero, gt_succ, int_i, str_s, row_r]
  refine Ev.bind h26 (Ev.bind h27 (Ev.bind (rep37 s hs v gs hl hx) (Ev.bind (rep35 s v gs hl hx) ?_)))
  simp only [gt_zero, gt_succ, int_i, row_r]
  refine Ev.pos (beqI_true rfl) (Ev.bind (same30 l hlen hsm) ?_)
  simp only [gt_zero, bool_b]
  refine Ev.pos rfl (Ev.pos (beqI_true rfl) (Ev.bind awake31 ?_))
  simp only [gt_zero, bool_b]
  exact Ev.now _
theorem okS_of {d : D} (h : GoodC (tyTab TL) .str d) : okS d := by obtain ⟨s, rfl, hs⟩ := h.str_inv; exact hs
theorem okI_of {d : D} (h : GoodC (tyTab TL) (.int .i64) d) : okI d.i := by
  obtain ⟨n, rfl, hn⟩ := GoodC.int_inv h
  exact wf64 hn
theorem okFls_of {d : D} (h : GoodC (tyTab TL) (.sl 110) d) : okRow okFl d ∧ ∀ x ∈ d.r, okI5 x := by
  obtain ⟨l, rfl, hl, _, hc⟩ := h.sl_inv
  have hl : l.length * 56 ≤ 140737488351232 := hl
  exact ⟨⟨show l.length * 8 ≤ _ by omega, fun x hx => okS_of (show GoodC (tyTab TL) .str (x.c 5) from hc x hx 5 (show 5 < 6 by omega))⟩,
    fun x hx => ⟨okI_of (show GoodC (tyTab TL) (.int .i64) (x.c 0) from hc x hx 0 (show 0 < 6 by omega)), okI_of (show GoodC (tyTab TL) (.int .i64) (x.c 1) from hc x hx 1 (show 1 < 6 by omega)), okI_of (show GoodC (tyTab TL) (.int .i64) (x.c 2) from hc x hx 2 (show 2 < 6 by omega)), okI_of (show GoodC (tyTab TL) (.int .i64) (x.c 3) from hc x hx 3 (show 3 < 6 by omega)), okI_of (show GoodC (tyTab TL) (.int .i64) (x.c 4) from hc x hx 4 (show 4 < 6 by omega))⟩⟩
theorem okSs_of {d : D} (h : GoodC (tyTab TL) (.sl 9) d) : okRow okS d := by
  obtain ⟨l, rfl, hl, _, hc⟩ := h.sl_inv
  have hl : l.length * 16 ≤ 140737488351232 := hl
  exact ⟨show l.length * 8 ≤ _ by omega, fun x hx => okS_of (show GoodC (tyTab TL) .str x from hc x hx 0 (show 0 < 1 by omega))⟩
theorem okMs_of {d : D} (h : GoodC (tyTab TL) (.sl 107) d) : okRow okM d ∧ ∀ m ∈ d.r, iM m := by
  obtain ⟨l, rfl, hl, _, hc⟩ := h.sl_inv
  have hl : l.length * 80 ≤ 140737488351232 := hl
  exact ⟨⟨show l.length * 8 ≤ _ by omega, fun x hx => ⟨okS_of (show GoodC (tyTab TL) .str (x.c 0) from hc x hx 0 (show 0 < 5 by omega)), (okFls_of (show GoodC (tyTab TL) (.sl 110) (x.c 3) from hc x hx 3 (show 3 < 5 by omega))).1, okSs_of (show GoodC (tyTab TL) (.sl 9) (x.c 4) from hc x hx 4 (show 4 < 5 by omega))⟩⟩,
    fun x hx => ⟨okI_of (show GoodC (tyTab TL) (.int .i64) (x.c 1) from hc x hx 1 (show 1 < 5 by omega)), (okFls_of (show GoodC (tyTab TL) (.sl 110) (x.c 3) from hc x hx 3 (show 3 < 5 by omega))).2⟩⟩
theorem okGs_of {d : D} (h : GoodC (tyTab TL) (.sl 104) d) : okRow okG d ∧ ∀ g ∈ d.r, iG g := by
  obtain ⟨l, rfl, hl, _, hc⟩ := h.sl_inv
  have hl : l.length * 48 ≤ 140737488351232 := hl
  exact ⟨⟨show l.length * 8 ≤ _ by omega, fun x hx => ⟨okS_of (show GoodC (tyTab TL) .str (x.c 0) from hc x hx 0 (show 0 < 3 by omega)), (okMs_of (show GoodC (tyTab TL) (.sl 107) (x.c 2) from hc x hx 2 (show 2 < 3 by omega))).1⟩⟩,
    fun x hx => ⟨okI_of (show GoodC (tyTab TL) (.int .i64) (x.c 1) from hc x hx 1 (show 1 < 3 by omega)), (okMs_of (show GoodC (tyTab TL) (.sl 107) (x.c 2) from hc x hx 2 (show 2 < 3 by omega))).2⟩⟩
theorem pure8 : ∀ xs, GoodL (tyTab TL) ([57].flatMap fun t => (tyTab TL t).cells) xs → ∃ k, K8.f k xs = some [.bool true] := fun xs ⟨hl, hg⟩ => by
  have hl2 : xs.length = 3 := hl
  obtain ⟨a, b, c, rfl⟩ : ∃ a b c, xs = [a, b, c] := by
    match xs, hl2 with
    | [a, b, c], _ => exact ⟨a, b, c, rfl⟩
  obtain ⟨s, rfl, hs⟩ := GoodC.str_inv (show GoodC (tyTab TL) .str a from hg 0 _ a rfl rfl)
  obtain ⟨v, rfl, hv⟩ := GoodC.int_inv (show GoodC (tyTab TL) (.int .i64) b from hg 1 _ b rfl rfl)
  have hc : GoodC (tyTab TL) (.sl 104) c := hg 2 _ c rfl rfl
  obtain ⟨⟨h1, h2⟩, h3⟩ := okGs_of hc
  obtain ⟨gs, rfl, _⟩ := hc.sl_inv
  exact (law8 s hs v (wf64 hv) gs h1 h2 h3).ex
end Go.Sx
