/- Segments: each byte of a part is one of its spot (row 21). -/
import Derived.Test.YtlhbonpdlghlbaaDoorSxWo
set_option linter.unusedVariables false
set_option linter.unusedSimpArgs false
namespace Go.Sx
theorem txs_ge (m : Mk) (f : Bool) : ∀ l : List UInt8, l.length ≤ (txs m f l).length
  | [] => by simp
  | u :: l => by
    have h := txs_ge m f l
    have : 1 ≤ (one m f u).length := by unfold one; cases (m.is (u.toNat : Int) && f) <;> simp
    simp only [txs, List.flatMap_cons, List.length_append, List.length_cons] at h ⊢
    omega
/-- A piece of a part. -/
structure IsP (i : Int) (it : Pt) (z : D) : Prop where
  c0 : (z.c 0).i = i
  c1 : (z.c 1).i = it.e
  c2 : (z.c 2).i = it.r
  c3 : (z.c 3).i = it.p
  sz : (it.t.size : Int) ≤ (z.c 6).i - (z.c 5).i
theorem its_org {m : Mk} {i : Int} : ∀ {l : List Pt} {s : RW} {z : D} (_ : z ∈ (s.its m i l).pc), z ∈ s.pc ∨ ∃ it ∈ l, IsP i it z
  | [], s, z, h => .inl h
  | it :: l, s, z, h => by
    rcases its_org (l := l) (s := s.it m i it) h with h | ⟨x, hx, hp⟩
    · simp only [RW.it] at h
      rcases List.mem_append.1 h with h | h
      · exact .inl h
      · refine .inr ⟨it, by simp, ?_⟩
        rw [List.mem_singleton.1 h]
        refine ⟨rfl, rfl, rfl, rfl, ?_⟩
        show _ ≤ (((s.out ++ [D.int it.k] ++ txs m (m.x != 0) it.t.data.toList).length : Nat) : Int) - (((s.out ++ [D.int it.k]).length : Nat) : Int)
        have := txs_ge m (m.x != 0) it.t.data.toList
        rw [ba_len] at this
        rw [List.length_append]
        omega
    · exact .inr ⟨x, by simp [hx], hp⟩
theorem segs_org (m : Mk) (lines : Bool) (l : List D) {z : D} (h : z ∈ (RW.segs m lines 0 RW0 l).pc) (h1 : (z.c 1).i ≠ 0) : ∃ pre d post, l = pre ++ d :: post ∧ ∃ it ∈ segIts m (d.c 1).r, IsP (pre.length : Int) it z := by
  refine snoc_ind (P := fun l => z ∈ (RW.segs m lines 0 RW0 l).pc → ∃ pre d post, l = pre ++ d :: post ∧ ∃ it ∈ segIts m (d.c 1).r, IsP (pre.length : Int) it z) ?_ (fun l d ih => ?_) _ l rfl h
  · intro h; simp [RW.segs, RW0] at h
  · intro h
    rw [RW.segs_snoc, Nat.zero_add] at h
    unfold RW.seg at h
    dsimp only at h
    rcases its_org h with h | ⟨it, hit, hp⟩
    · rcases List.mem_append.1 h with h | h
      · obtain ⟨pre, d2, post, e, r⟩ := ih h
        exact ⟨pre, d2, post ++ [d], by rw [e]; simp, r⟩
      · rw [List.mem_singleton.1 h] at h1
        exact absurd rfl h1
    · exact ⟨l, d, [], by simp, it, hit, hp⟩
theorem it_at {m : Mk} {els : List D} {it : Pt} (h : it ∈ segIts m els) : ∃ ep x eq, els = ep ++ x :: eq ∧ it.e = (ep.length : Int) + 1 ∧ ∃ rp y rq, (x.c 0).r = rp ++ y :: rq ∧ it.r = (rp.length : Int) + 1 ∧ ∃ tp w tq, y.r = tp ++ w :: tq ∧ it.p = (tp.length : Int) + 1 ∧ it.t = w.s := by
  obtain ⟨a, ha, hia⟩ := List.mem_flatten.1 h
  obtain ⟨i, hi, rfl⟩ := List.mem_mapIdx.1 ha
  obtain ⟨b, hb, hib⟩ := List.mem_flatten.1 hia
  obtain ⟨j, hj, rfl⟩ := List.mem_mapIdx.1 hb
  obtain ⟨k, hk, rfl⟩ := List.mem_mapIdx.1 hib
  obtain ⟨e1, e2⟩ := at_ix hi
  obtain ⟨f1, f2⟩ := at_ix hj
  obtain ⟨g1, g2⟩ := at_ix hk
  exact ⟨_, _, _, e1, by rw [e2], _, _, _, f1, by rw [f2], _, _, _, g1, by rw [g2], rfl⟩
theorem text51 (k : Nat) (s : ByteArray) (els ep : List D) (x : D) (eq rp : List D) (y : D) (rq tp : List D) (w : D) (tq : List D) (h1 : els = ep ++ x :: eq) (h2 : (x.c 0).r = rp ++ y :: rq) (h3 : y.r = tp ++ w :: tq) (b1 : els.length ≤ 50) (b2 : (x.c 0).r.length ≤ 20) (b3 : y.r.length ≤ 20) :
    F51 k [.str s, .row els, .int ((ep.length : Int) + 1), .int ((rp.length : Int) + 1), .int ((tp.length : Int) + 1)] = some [.str w.s, .bool true] := by
  have A := at_of h1 (by omega)
  have B := at_of h2 (by omega)
  have C := at_of h3 (by omega)
  have l1 : ep.length < els.length := by rw [h1]; simp
  have l2 : rp.length < (x.c 0).r.length := by rw [h2]; simp
  have l3 : tp.length < y.r.length := by rw [h3]; simp
  have u1 : IntKind.i64.wrap ((ep.length : Int) + 1 - 1) = (ep.length : Int) := by rw [w64 (by omega) (by omega)]; omega
  have u2 : IntKind.i64.wrap ((rp.length : Int) + 1 - 1) = (rp.length : Int) := by rw [w64 (by omega) (by omega)]; omega
  have u3 : IntKind.i64.wrap ((tp.length : Int) + 1 - 1) = (tp.length : Int) := by rw [w64 (by omega) (by omega)]; omega
  unfold F51
  simp only [gt_zero, gt_succ, int_i, str_s, row_r, u1, u2, u3, A.inr, A.el, B.inr, B.el, C.inr, C.el, Bool.and_true, cond_true]
  rw [decide_eq_false (show ¬ (ep.length : Int) + 1 > (els.length : Int) by omega), decide_eq_false (show ¬ (rp.length : Int) + 1 > ((x.c 0).r.length : Int) by omega), decide_eq_false (show ¬ (tp.length : Int) + 1 > (y.r.length : Int) by omega)]
  rfl
theorem law7 (l : List D) (m : Mk) (lines : Bool) (sg e r p : Int) (h : okR okSg l) : Ev (fun k => F7 k [.row l, .int m.e, .int m.p, .int m.r, .int m.x, .int m.z, .bool lines, .int sg, .int e, .int r, .int p]) [.bool true] := by
  obtain ⟨res, _, w2, hR⟩ := where_both l m lines sg e r p h
  have aw : Ev (fun k => (F15 k []).bind fun ds1 => some [D.bool ((gt ds1 0).b)]) [.bool true] := by
    refine Ev.bind awake15 ?_
    simp only [gt_zero, bool_b]
    exact Ev.now _
  cases hR with
  | fault f h0 hr =>
    subst hr
    unfold F7
    simp only [gt_zero, gt_succ, int_i, row_r, bool_b]
    refine Ev.bind w2 ?_
    simp only [gt_zero, gt_succ, int_i]
    exact Ev.pos (bneI_true h0) (Ev.pos rfl aw)
  | ok hb S hw hle h1 h2 h3 q y w hp hy hy0 hr =>
    subst hr
    have hj : joinK l m lines 500000 = [rwD m (RW.segs m lines 0 RW0 l), .int 0] := by
      rcases wrote l m lines 500000 with ⟨f, h0, _, hw', _⟩ | ⟨s, _, hs, _, _, hj, _⟩
      · rw [hw] at hw'
        simp only [List.cons.injEq, D.int.injEq] at hw'
        exact absurd hw'.2.1.symm h0
      · exact hj
    have hL := both_lim hb
    have hl2000 : l.length ≤ 2000 := hL.1
    have I := segs_inv m lines l hL.2 hL.1
    have hnum := I.num
    rw [hp, numOK_app] at hnum
    have hyn := hnum.2
    have hy1 := hyn.1
    have hy2 := hyn.2
    rw [if_neg hy0] at hy2
    have hfr : (y.c 5).i = bgP y + 1 := hy2.2.2.1
    have hft : (y.c 5).i ≤ toP y := hy2.2.2.2.1
    have hto : toP y ≤ ((RW.segs m lines 0 RW0 l).out.length : Int) := I.le y (by rw [hp]; simp)
    have hbl : ((RW.segs m lines 0 RW0 l).out.length : Int) ≤ 500000 := by rw [← S.b]; exact hle
    have hsr := I.srt
    rw [hp, List.pairwise_append] at hsr
    have hsw := hsr.2.1
    rw [List.pairwise_cons] at hsw
    have hq0 : ∀ z ∈ q, bgP z ≤ toP z := by
      have : ∀ (a : List D) (N : Nat), numOK N a → ∀ z ∈ a, bgP z ≤ toP z := by
        intro a
        induction a with
        | nil => intro N _ z hz; simp at hz
        | cons b a ih =>
          intro N hN z hz
          rcases List.mem_cons.1 hz with rfl | hz
          · exact hN.1.2.1
          · have hN2 := hN.2
            by_cases h0 : (b.c 1).i = 0
            · rw [if_pos h0] at hN2; exact ih _ hN2.2.2.2 z hz
            · rw [if_neg h0] at hN2; exact ih _ hN2.2.2.2.2 z hz
      exact this q 0 hnum.1
    have hyh := hy
    unfold hit at hyh
    simp only [Bool.and_eq_true, beq_iff_eq] at hyh
    obtain ⟨y0, y1, y2, y3⟩ := hyh
    obtain ⟨pre, d, post, hld, it, hit_, hisp⟩ := segs_org m lines l (z := y) (by rw [hp]; simp) hy0
    obtain ⟨ep, x, eq, k1, k2, rp, yy, rq, k3, k4, tp, ww, tq, k5, k6, k7⟩ := it_at hit_
    have A := at_of hld (by omega)
    have hsgp : sg = (pre.length : Int) := by rw [← y0, hisp.c0]
    have hd : limS d := hL.2 d (by simp [hld])
    have hx : limE x := hd.2.2 x (by rw [k1]; simp)
    have hyy : limR yy := hx.2 yy (by rw [k3]; simp)
    have hck : ckS l = 0 := by
      unfold bothK at hb
      cases hc : (ckS l != 0) <;> rw [hc] at hb
      · simpa using hc
      · exact hb
    have hsd : sgK d = 0 := by
      unfold ckS at hck
      rw [decide_eq_false (show ¬ (l.length : Int) > 2000 by omega)] at hck
      exact fz_zero hck d (by simp [hld])
    have hdo : okSg d := h.2 d (by simp [hld])
    have ee : e = (ep.length : Int) + 1 := by rw [← y1, hisp.c1, k2]
    have er : r = (rp.length : Int) + 1 := by rw [← y2, hisp.c2, k4]
    have ep_ : p = (tp.length : Int) + 1 := by rw [← y3, hisp.c3, k6]
    have hsz : (ww.s.size : Int) ≤ toP y - (y.c 5).i := by have := hisp.sz; rw [k7] at this; exact this
    have text : Ev (fun k => F25 k [.str (d.c 0).s, .row (d.c 1).r, .int e, .int r, .int p]) [.str ww.s, .bool true, .int 0] := by
      unfold F25
      simp only [gt_zero, gt_succ, int_i, str_s, row_r]
      refine Ev.bind (a := [.int 0]) ?_ ?_
      · unfold F50
        simp only [gt_zero, gt_succ, int_i, str_s, row_r]
        refine Ev.bind ((ck14 [.agg [.str (d.c 0).s, .row (d.c 1).r]] ⟨by simp, fun z hz => by rw [List.mem_singleton.1 hz]; exact hdo⟩).cast (s := [.int 0]) ?_) ?_
        · have : ckS [D.agg [.str (d.c 0).s, .row (d.c 1).r]] = bif (sgK d != 0) then sgK d else 0 := rfl
          rw [this, hsd]
          rfl
        · simp only [gt_zero, int_i, rng47, Option.bind_some]
          rw [h3]
          exact Ev.neg rfl (Ev.now _)
      · simp only [gt_zero, int_i]
        refine Ev.neg rfl ?_
        rw [ee, er, ep_]
        refine Ev.bind (Ev.of fun k => text51 k _ _ ep x eq rp yy rq tp ww tq k1 k3 k5 hd.2.1 hx.1 hyy.1) ?_
        simp only [gt_zero, gt_succ, str_s, bool_b]
        exact Ev.now _
    unfold F7
    simp only [gt_zero, gt_succ, int_i, row_r, bool_b]
    refine Ev.bind w2 ?_
    simp only [gt_zero, gt_succ, int_i]
    refine Ev.neg rfl (Ev.bind (a := [.row (WW.segs m lines 500000 0 WW0 l).b, .int 0]) ?_ ?_)
    · unfold F19
      simp only [gt_zero, gt_succ, int_i, row_r, bool_b]
      refine Ev.bind ((wr44 l m lines 500000 h).cast hw) ?_
      simp only [gt_zero, gt_succ, int_i]
      exact Ev.neg rfl (Ev.pos rfl (Ev.now _))
    simp only [gt_zero, gt_succ, int_i, row_r, S.b]
    have c6 : (y.c 6).i = toP y := rfl
    rw [c6]
    rw [bneI_false rfl, decide_eq_false (show ¬ (y.c 5).i < 1 by omega), decide_eq_false (show ¬ toP y < (y.c 5).i by omega), decide_eq_false (show ¬ toP y > ((RW.segs m lines 0 RW0 l).out.length : Int) by omega), decide_eq_false (show ¬ sg < 0 by omega), decide_eq_false (show ¬ sg ≥ (l.length : Int) by omega)]
    simp only [cond_false, Option.bind_some, gt_zero, bool_b]
    rw [w64 (by omega) (by omega), show (y.c 5).i - 1 = bgP y by omega]
    have loop : ∀ (n : Nat) (at_ : Int), bgP y ≤ at_ → at_ + (n : Int) = toP y → Ev (fun k => iter B7x0 k [.row l, .bool lines, .int sg, .int at_, .int m.e, .int m.p, .int m.r, .int m.x, .int m.z, .int e, .int r, .int p, .int (y.c 5).i, .int (toP y)]) [.bool true] := by
      intro n
      induction n with
      | zero =>
        intro at_ ha hn
        have hn : at_ = toP y := by omega
        subst hn
        refine Ev.iter ?_
        have key : Ev (fun k => bif inRow sg l.length then (F25 k [.str (((elAt l sg).c 0).s), .row (((elAt l sg).c 1).r), .int e, .int r, .int p]).bind fun ds9 => bif ((gt ds9 2).i == 0) then bif (gt ds9 1).b then bif decide ((IntKind.i64.wrap (toP y - (y.c 5).i)) ≥ ((ByteArray.size ((gt ds9 0).s)) : Int)) then (F15 k []).bind fun ds10 => some [D.bool ((gt ds10 0).b)] else some [D.bool false] else some [D.bool false] else some [D.bool false] else none) [.bool true] := by
          rw [hsgp, A.inr, A.el]
          refine Ev.pos rfl (Ev.bind text ?_)
          simp only [gt_zero, gt_succ, int_i, str_s, bool_b]
          refine Ev.pos rfl (Ev.pos rfl (Ev.pos ?_ aw))
          rw [w64 (by omega) (by omega)]
          exact decide_eq_true hsz
        refine Ev.congr (fun k => ?_) key
        show B7x0 k (iter B7x0 k) _ = _
        generalize iter B7x0 k = go
        unfold B7x0
        simp only [gt_zero, gt_succ, int_i, row_r, bool_b, Bool.and_true]
        rw [decide_eq_false (show ¬ toP y < toP y by omega)]
        rfl
      | succ n ih =>
        intro at_ ha hn
        have hs := (spot_ok l m lines at_ h hb S hw hj hle (by omega) (by omega) q w y hp (fun z hz => by
          have := hq0 z hz
          have := hsr.2.2 z hz y (by simp)
          omega) ha (fun z hz => by
          have := hsw.1 z hz
          omega)).2
        rw [y0, y1, y2, y3] at hs
        refine Ev.iter ?_
        have key : ∀ (go : Nat → List D → Option (List D)), Ev (fun k => go k [.row l, .bool lines, .int sg, .int (at_ + 1), .int m.e, .int m.p, .int m.r, .int m.x, .int m.z, .int e, .int r, .int p, .int (y.c 5).i, .int (toP y)]) [.bool true] → Ev (fun k => B7x0 k (go k) [.row l, .bool lines, .int sg, .int at_, .int m.e, .int m.p, .int m.r, .int m.x, .int m.z, .int e, .int r, .int p, .int (y.c 5).i, .int (toP y)]) [.bool true] := fun go hgo => by
          unfold B7x0
          simp only [gt_zero, gt_succ, int_i, row_r, bool_b]
          refine Ev.pos (decide_eq_true (by omega)) (Ev.bind hs ?_)
          simp only [gt_zero, gt_succ, int_i, beq_self_eq_true, Bool.and_true, Bool.not_true]
          rw [bneI_false rfl, bneI_false rfl]
          simp only [cond_false, Option.bind_some, gt_zero, bool_b]
          rw [w64 (by omega) (by omega)]
          exact hgo
        exact key (fun k => iter B7x0 k) (ih (at_ + 1) (by omega) (by omega))
    exact loop (toP y - bgP y).toNat (bgP y) (Int.le_refl _) (by omega)
theorem pure7 : ∀ xs, GoodL (tyTab TL) ([24, 23, 4, 3, 41].flatMap fun t => (tyTab TL t).cells) xs → ∃ k, K7.f k xs = some [.bool true] := fun xs ⟨hl, hg⟩ => by
  have hl2 : xs.length = 11 := hl
  obtain ⟨f, a, b, c, d, e, g, s, x, y, z, rfl⟩ : ∃ f a b c d e g s x y z, xs = [f, a, b, c, d, e, g, s, x, y, z] := by
    match xs, hl2 with
    | [f, a, b, c, d, e, g, s, x, y, z], _ => exact ⟨f, a, b, c, d, e, g, s, x, y, z, rfl⟩
  obtain ⟨l, rfl, hx⟩ := okL_of (hg 0 (.sl 53) f rfl rfl)
  obtain ⟨m1, rfl, _⟩ := GoodC.int_inv (hg 1 (.int .u8) a rfl rfl)
  obtain ⟨m2, rfl, _⟩ := GoodC.int_inv (hg 2 (.int .u8) b rfl rfl)
  obtain ⟨m3, rfl, _⟩ := GoodC.int_inv (hg 3 (.int .u8) c rfl rfl)
  obtain ⟨m4, rfl, _⟩ := GoodC.int_inv (hg 4 (.int .u8) d rfl rfl)
  obtain ⟨m5, rfl, _⟩ := GoodC.int_inv (hg 5 (.int .u8) e rfl rfl)
  obtain ⟨lines, rfl⟩ := (hg 6 .bool g rfl rfl).bool_inv
  obtain ⟨n1, rfl, _⟩ := GoodC.int_inv (hg 7 (.int .i64) s rfl rfl)
  obtain ⟨n2, rfl, _⟩ := GoodC.int_inv (hg 8 (.int .i64) x rfl rfl)
  obtain ⟨n3, rfl, _⟩ := GoodC.int_inv (hg 9 (.int .i64) y rfl rfl)
  obtain ⟨n4, rfl, _⟩ := GoodC.int_inv (hg 10 (.int .i64) z rfl rfl)
  exact (law7 l ⟨m1, m2, m3, m4, m5⟩ lines n1 n2 n3 n4 hx).ex
end Go.Sx
