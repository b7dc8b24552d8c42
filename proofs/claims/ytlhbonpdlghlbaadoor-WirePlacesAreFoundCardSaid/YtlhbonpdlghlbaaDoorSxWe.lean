/- Segments: how many bytes are marks; rows of checks. -/
import Derived.Test.YtlhbonpdlghlbaaDoorSxWd
set_option linter.unusedVariables false
set_option linter.unusedSimpArgs false
namespace Go.Sx
def sI (m : Mk) (l : List Pt) : Nat := (l.map fun it => cnt m it.t.data.toList).sum
def sL (m : Mk) (l : List D) : Nat := (l.map fun d => sI m (segIts m (d.c 1).r)).sum
theorem sI_app (m : Mk) (l l' : List Pt) : sI m (l ++ l') = sI m l + sI m l' := by simp [sI]
theorem sL_snoc (m : Mk) (l : List D) (d : D) : sL m (l ++ [d]) = sL m l + sI m (segIts m (d.c 1).r) := by simp [sL]
theorem sI_le {m : Mk} : ∀ {l : List Pt} (_ : ∀ it ∈ l, txI it), sI m l ≤ 1000 * l.length
  | [], _ => by simp [sI]
  | it :: l, h => by
    have h1 := sI_le (m := m) (l := l) (fun x hx => h x (by simp [hx]))
    have h2 := cnt_le m it.t.data.toList
    rw [ba_len] at h2
    have h3 : it.t.size ≤ 1000 := h it (by simp)
    simp only [sI, List.map_cons, List.sum_cons, List.length_cons] at h1 ⊢
    omega
theorem sL_le {m : Mk} : ∀ {l : List D} (_ : ∀ d ∈ l, limS d), sL m l ≤ 20000000 * l.length
  | [], _ => by simp [sL]
  | d :: l, h => by
    have h1 := sL_le (m := m) (l := l) (fun x hx => h x (by simp [hx]))
    obtain ⟨_, h2, h3⟩ := h d (by simp)
    have h4 := segIts_len (m := m) h3
    have h5 := sI_le (m := m) (segIts_tx (m := m) h3)
    simp only [sL, List.map_cons, List.sum_cons, List.length_cons] at h1 ⊢
    omega
theorem its_esc (m : Mk) (i : Int) : ∀ (l : List Pt) (s : RW), (s.its m i l).esc = s.esc + (sI m l : Int)
  | [], s => by simp [RW.its, sI]
  | it :: l, s => by
    show ((s.it m i it).its m i l).esc = _
    rw [its_esc m i l]
    simp only [RW.it, sI, List.map_cons, List.sum_cons]
    omega
theorem segs_esc (m : Mk) (lines : Bool) : ∀ (l : List D) (i : Nat) (s : RW), (RW.segs m lines i s l).esc = s.esc + (sL m l : Int)
  | [], i, s => by simp [RW.segs, sL]
  | d :: l, i, s => by
    show (RW.segs m lines (i + 1) (RW.seg m lines (i : Int) s d) l).esc = _
    rw [segs_esc m lines l]
    have : (RW.seg m lines (i : Int) s d).esc = s.esc + (sI m (segIts m (d.c 1).r) : Int) := by
      unfold RW.seg
      dsimp only
      rw [its_esc]
    rw [this]
    simp only [sL, List.map_cons, List.sum_cons]
    omega
section
variable {ι : Type} [Dir ι]
theorem esc35 (l : List D) (m : Mk) (h : limL l) : Ev (fun k => F35 k [.row l, .int m.e, .int m.p, .int m.r, .int m.x, .int m.z]) [.int (sL m l : Int)] := by
  obtain ⟨hl, hx⟩ := h
  unfold F35
  simp only [gt_zero, gt_succ, int_i, row_r]
  refine EvG.nat (EvG.loopN (f := fun _ n => iter B35x3 n _) ?_)
  refine EvG.congr (fun q => ?_) (EvG.scan (ι := Nat) (B := fun _ => B35x3) l (fun pre => [.int (sL m pre : Int), .row l, .int (l.length : Int), .int (pre.length : Int), .int m.e, .int m.p, .int m.r, .int m.x, .int m.z]) (fun _ _ => [.int (sL m l : Int)]) ?_ ?_)
  · rfl
  · refine EvG.of fun p => ?_
    unfold B35x3
    simp only [gt_zero, gt_succ, int_i, row_r, no_more, cond_false]
  intro pre d post go hp ih
  have A := at_of hp (by omega)
  obtain ⟨_, he1, he2⟩ := hx d (by simp [hp])
  have hb := sL_le (m := m) (l := pre) (fun z hz => hx z (by simp [hp, hz]))
  have hpl : pre.length ≤ 2000 := by have := congrArg List.length hp; simp at this; omega
  rw [sL_snoc] at ih
  unfold B35x3
  simp only [gt_zero, gt_succ, int_i, row_r, A.lt, A.inr, A.el, Bool.and_true, cond_true]
  refine EvG.loop (f := fun p n => iter (B35x2 (go p)) n _) ?_
  refine EvG.congr (fun q => ?_) (EvG.scan (ι := Nat × Nat) (B := fun p => B35x2 (go p)) (d.c 1).r (fun ep => [.int ((sL m pre + sI m (segIts m ep) : Nat) : Int), .row l, .int (l.length : Int), .int (pre.length : Int), .row (d.c 1).r, .int ((d.c 1).r.length : Int), .int (ep.length : Int), .int m.e, .int m.p, .int m.r, .int m.x, .int m.z]) (fun _ _ => [.int (sL m l : Int)]) ?_ ?_)
  · rfl
  · unfold B35x2
    simp only [gt_zero, gt_succ, int_i, row_r, no_more, cond_false, A.up]
    exact ih.fst
  intro ep x epost go2 hp2 ih2
  have B := at_of hp2 (by omega)
  obtain ⟨hr1, hr2⟩ := he2 x (by simp [hp2])
  have hep : ∀ z ∈ ep, limE z := fun z hz => he2 z (by simp [hp2, hz])
  have hepl : ep.length ≤ 50 := by have := congrArg List.length hp2; simp at this; omega
  have hb2 := sI_le (m := m) (segIts_tx (m := m) hep)
  have hb3 := segIts_len (m := m) hep
  rw [segIts_snoc, sI_app] at ih2
  unfold B35x2
  simp only [gt_zero, gt_succ, int_i, row_r, B.lt, B.inr, B.el, Bool.and_true, cond_true]
  refine EvG.loop (f := fun p n => iter (B35x1 (go2 p)) n _) ?_
  refine EvG.congr (fun q => ?_) (EvG.scan (ι := (Nat × Nat) × Nat) (B := fun p => B35x1 (go2 p)) (x.c 0).r (fun rp => [.int ((sL m pre + (sI m (segIts m ep) + sI m (repIts m ((ep.length : Int) + 1) rp)) : Nat) : Int), .row l, .int (l.length : Int), .int (pre.length : Int), .row (d.c 1).r, .int ((d.c 1).r.length : Int), .int (ep.length : Int), .row (x.c 0).r, .int ((x.c 0).r.length : Int), .int (rp.length : Int), .int m.e, .int m.p, .int m.r, .int m.x, .int m.z]) (fun _ _ => [.int (sL m l : Int)]) ?_ ?_)
  · rfl
  · unfold B35x1
    simp only [gt_zero, gt_succ, int_i, row_r, no_more, cond_false, B.up]
    exact ih2.fst
  intro rp y rpost go3 hp3 ih3
  have C := at_of hp3 (by omega)
  obtain ⟨ht1, ht2⟩ := hr2 y (by simp [hp3])
  have hrp : ∀ z ∈ rp, limR z := fun z hz => hr2 z (by simp [hp3, hz])
  have hrpl : rp.length ≤ 20 := by have := congrArg List.length hp3; simp at this; omega
  have hb4 := sI_le (m := m) (repIts_tx (m := m) (e := (ep.length : Int) + 1) hrp)
  have hb5 := repIts_len (m := m) (e := (ep.length : Int) + 1) hrp
  rw [repIts_snoc, sI_app] at ih3
  unfold B35x1
  simp only [gt_zero, gt_succ, int_i, row_r, C.lt, C.inr, C.el, Bool.and_true, cond_true]
  refine EvG.loop (f := fun p n => iter (B35x0 (go3 p)) n _) ?_
  refine EvG.congr (fun q => ?_) (EvG.scan (ι := ((Nat × Nat) × Nat) × Nat) (B := fun p => B35x0 (go3 p)) y.r (fun tp => [.int ((sL m pre + (sI m (segIts m ep) + (sI m (repIts m ((ep.length : Int) + 1) rp) + sI m (partIts m ((ep.length : Int) + 1) ((rp.length : Int) + 1) (bif rp.length == 0 then m.e else m.r) tp))) : Nat) : Int), .row l, .int (l.length : Int), .int (pre.length : Int), .row (d.c 1).r, .int ((d.c 1).r.length : Int), .int (ep.length : Int), .row (x.c 0).r, .int ((x.c 0).r.length : Int), .int (rp.length : Int), .row y.r, .int (y.r.length : Int), .int (tp.length : Int), .int m.e, .int m.p, .int m.r, .int m.x, .int m.z]) (fun _ _ => [.int (sL m l : Int)]) ?_ ?_)
  · rfl
  · unfold B35x0
    simp only [gt_zero, gt_succ, int_i, row_r, no_more, cond_false, C.up]
    exact ih3.fst
  intro tp z tpost go4 hp4 ih4
  have E := at_of hp4 (by omega)
  have hz : limT z := ht2 z (by simp [hp4])
  have htp : ∀ z ∈ tp, limT z := fun w hw => ht2 w (by simp [hp4, hw])
  have htpl : tp.length ≤ 20 := by have := congrArg List.length hp4; simp at this; omega
  have hb6 := sI_le (m := m) (partIts_tx (m := m) (e := (ep.length : Int) + 1) (r := (rp.length : Int) + 1) (k := bif rp.length == 0 then m.e else m.r) htp)
  rw [partIts_len] at hb6
  have hb7 := cnt_le m z.s.data.toList
  rw [ba_len] at hb7
  unfold limT at hz
  rw [partIts_snoc, sI_app] at ih4
  rw [show ∀ (a b c d : Int) (t : ByteArray), sI m [⟨a, b, c, d, t⟩] = cnt m t.data.toList from fun _ _ _ _ _ => by simp [sI]] at ih4
  generalize sI m (partIts m ((ep.length : Int) + 1) ((rp.length : Int) + 1) (bif rp.length == 0 then m.e else m.r) tp) = n4 at ih4 hb6 ⊢
  generalize sI m (repIts m ((ep.length : Int) + 1) rp) = n3 at ih4 hb4 ⊢
  generalize sI m (segIts m ep) = n2 at ih4 hb2 ⊢
  generalize sL m pre = n1 at ih4 hb ⊢
  unfold B35x0
  simp only [gt_zero, gt_succ, int_i, row_r, E.lt, E.inr, E.el, Bool.and_true, cond_true]
  refine EvG.bind (Ev.snd (need67 m z.s (by omega))) ?_
  simp only [gt_zero, int_i, E.up]
  rw [w64 (by omega) (by omega)]
  rw [show ((n1 + (n2 + (n3 + n4)) : Nat) : Int) + (cnt m z.s.data.toList : Int) = ((n1 + (n2 + (n3 + (n4 + cnt m z.s.data.toList))) : Nat) : Int) by omega]
  exact ih4
end
def escK (l : List D) (m : Mk) : List D := bif bothK l m != 0 then [.int 0, .int (bothK l m)] else [.int (sL m l : Int), .int 0]
theorem esc9 (l : List D) (m : Mk) (h : okR okSg l) : Ev (fun k => F9 k [.row l, .int m.e, .int m.p, .int m.r, .int m.x, .int m.z]) (escK l m) := by
  unfold F9 escK
  simp only [gt_zero, gt_succ, int_i, row_r]
  refine Ev.bind (both32 l m h) ?_
  simp only [gt_zero, int_i]
  cases hb : (bothK l m != 0)
  · have h0 : bothK l m = 0 := by simpa using hb
    refine Ev.neg rfl (Ev.bind (wr33 l m false (both_lim h0)) ?_)
    simp only [gt_zero, segs_esc]
    refine Ev.pos rfl ((Ev.now _).cast ?_)
    show [D.int (0 + (sL m l : Int)), D.int 0] = _
    rw [Int.zero_add]
    rfl
  · exact Ev.pos rfl (Ev.now _)
theorem esc10 (l : List D) (m : Mk) (h : okR okSg l) : Ev (fun k => F10 k [.row l, .int m.e, .int m.p, .int m.r, .int m.x, .int m.z]) (escK l m) := by
  unfold F10 escK
  simp only [gt_zero, gt_succ, int_i, row_r]
  refine Ev.bind (both34 l m h) ?_
  simp only [gt_zero, int_i]
  cases hb : (bothK l m != 0)
  · have h0 : bothK l m = 0 := by simpa using hb
    refine Ev.neg rfl (Ev.bind (esc35 l m (both_lim h0)) ?_)
    simp only [gt_zero, int_i]
    exact Ev.now _
  · exact Ev.pos rfl (Ev.now _)
theorem law3 (l : List D) (m : Mk) (h : okR okSg l) : Ev (fun k => F3 k [.int m.e, .int m.p, .int m.r, .int m.x, .int m.z, .row l]) [.bool true] := by
  unfold F3
  simp only [gt_zero, gt_succ, int_i, row_r]
  refine Ev.bind (esc9 l m h) (Ev.bind (esc10 l m h) (Ev.bind (ck11 m) (Ev.bind (ck12 m) ?_)))
  simp only [gt_zero, gt_succ, int_i]
  refine Ev.pos (beqI_true rfl) (Ev.bind (ck13 l h) (Ev.bind (ck14 l h) ?_))
  simp only [gt_zero, int_i]
  refine Ev.pos (beqI_true rfl) (Ev.pos (beqI_true rfl) (Ev.pos (beqI_true rfl) (Ev.bind awake15 ?_)))
  simp only [gt_zero, bool_b]
  exact Ev.now _
end Go.Sx
