/- Segments: the reference's writer, whole. -/
import Derived.Test.YtlhbonpdlghlbaaDoorSxWc
set_option linter.unusedVariables false
set_option linter.unusedSimpArgs false
namespace Go.Sx
def tgD (s : ByteArray) : List D := List.map (fun c => D.int ((UInt8.toNat c) : Int)) (ByteArray.toList s)
theorem tgD_len (s : ByteArray) : (tgD s).length = s.size := by simp [tgD, ByteArray.toList_eq]
def RW.seg (m : Mk) (lines : Bool) (i : Int) (s : RW) (d : D) : RW :=
  let s2 := RW.its m i ⟨s.out ++ tgD (d.c 0).s, s.pc ++ [.agg [.int i, .int 0, .int 0, .int 0, .int (s.out.length : Int), .int (s.out.length : Int), .int ((s.out.length : Int) + ((d.c 0).s.size : Int))]], s.esc⟩ (segIts m (d.c 1).r)
  ⟨s2.out ++ [.int m.z] ++ (bif lines then [.int 10] else []), s2.pc, s2.esc⟩
def RW.segs (m : Mk) (lines : Bool) : Nat → RW → List D → RW
  | _, s, [] => s
  | i, s, d :: l => RW.segs m lines (i + 1) (RW.seg m lines (i : Int) s d) l
theorem RW.segs_snoc (m : Mk) (lines : Bool) : ∀ (l : List D) (i : Nat) (s : RW) (d : D), RW.segs m lines i s (l ++ [d]) = RW.seg m lines ((i + l.length : Nat) : Int) (RW.segs m lines i s l) d
  | [], i, s, d => rfl
  | x :: l, i, s, d => by
    show RW.segs m lines (i + 1) _ (l ++ [d]) = _
    rw [RW.segs_snoc m lines l (i + 1)]
    rw [show i + 1 + l.length = i + (x :: l).length by simp; omega]
    rfl
theorem RW.its_out {m : Mk} {i : Int} : ∀ {l : List Pt} {s : RW} (_ : ∀ it ∈ l, txI it), (s.its m i l).out.length ≤ s.out.length + 2001 * l.length
  | [], s, _ => Nat.le_refl _
  | it :: l, s, ht => by
    have h1 := RW.its_out (m := m) (i := i) (l := l) (s := s.it m i it) (fun x hx => ht x (by simp [hx]))
    have h2 := txs_le m (m.x != 0) it.t.data.toList
    rw [ba_len] at h2
    have h3 : it.t.size ≤ 1000 := ht it (by simp)
    have h4 : (s.it m i it).out.length ≤ s.out.length + 2001 := by
      simp only [RW.it, List.length_append, List.length_cons, List.length_nil]; omega
    show ((s.it m i it).its m i l).out.length ≤ _
    simp only [List.length_cons]; omega
theorem RW.le_seg {m : Mk} {lines : Bool} {i : Int} {s : RW} {d : D} {n : Nat} (h : s.le n) (hd : limS d) : (s.seg m lines i d).le (n + 20001) := by
  obtain ⟨h1, h2, h3⟩ := hd
  have hl := segIts_len (m := m) h3
  have ht := segIts_tx (m := m) h3
  have a1 := h.out; have a2 := h.pc; have a3 := h.e0; have a4 := h.e1
  have hs : RW.le ⟨s.out ++ tgD (d.c 0).s, s.pc ++ [.agg [.int i, .int 0, .int 0, .int 0, .int (s.out.length : Int), .int (s.out.length : Int), .int ((s.out.length : Int) + ((d.c 0).s.size : Int))]], s.esc⟩ (n + 1) := by
    refine ⟨?_, ?_, a3, ?_⟩
    · simp only [List.length_append, tgD_len]; omega
    · simp only [List.length_append, List.length_cons, List.length_nil]; omega
    · show s.esc ≤ _; omega
  have b := RW.le_its (m := m) (i := i) hs ht
  have b0 := RW.its_out (m := m) (i := i) (s := ⟨s.out ++ tgD (d.c 0).s, s.pc ++ [.agg [.int i, .int 0, .int 0, .int 0, .int (s.out.length : Int), .int (s.out.length : Int), .int ((s.out.length : Int) + ((d.c 0).s.size : Int))]], s.esc⟩) ht
  simp only [List.length_append, tgD_len] at b0
  unfold RW.seg
  dsimp only
  generalize RW.its m i ⟨s.out ++ tgD (d.c 0).s, s.pc ++ [.agg [.int i, .int 0, .int 0, .int 0, .int (s.out.length : Int), .int (s.out.length : Int), .int ((s.out.length : Int) + ((d.c 0).s.size : Int))]], s.esc⟩ (segIts m (d.c 1).r) = Q at b b0 ⊢
  have b2 := b.pc; have b3 := b.e0; have b4 := b.e1
  refine ⟨?_, ?_, b3, ?_⟩
  · simp only [List.length_append, List.length_cons, List.length_nil]
    have : (bif lines then [D.int 10] else []).length ≤ 1 := by cases lines <;> simp
    omega
  · show Q.pc.length ≤ _; omega
  · show Q.esc ≤ _; omega
theorem RW.le_segs {m : Mk} {lines : Bool} : ∀ {l : List D} {i : Nat} {s : RW} {n : Nat} (_ : s.le n) (_ : ∀ d ∈ l, limS d), (RW.segs m lines i s l).le (n + 20001 * l.length)
  | [], i, s, n, h, _ => h
  | d :: l, i, s, n, h, hd => by
    have := RW.le_segs (m := m) (lines := lines) (l := l) (i := i + 1) (RW.le_seg (m := m) (lines := lines) (i := (i : Int)) h (hd d (by simp))) (fun x hx => hd x (by simp [hx]))
    rw [show n + 20001 * (d :: l).length = n + 20001 + 20001 * l.length by simp only [List.length_cons]; omega]
    exact this
section
variable {ι : Type} [Dir ι] {R : Type}
theorem rp33 (go : ι → List D → Option (List D)) (m : Mk) (l lpre els epre : List D) (d x : D) (lines : Bool) (s : RW) (n : Nat) (r : List D)
    (A : At l lpre d) (B : At els epre x) (hd : (d.c 1).r = els) (hx : limE x) (hep : epre.length ≤ 50) (h : s.le n) (hn : n ≤ 90000000)
    (k : EvG (fun p_ => go p_ [.row l, .bool lines, .int (lpre.length : Int), .int ((epre ++ [x]).length : Int), .int m.e, .int m.p, .int m.r, .int m.x, .int m.z, .int m.e, .int m.p, .int m.r, .int m.x, .int m.z, .int (s.its m (lpre.length : Int) (repIts m ((epre.length : Int) + 1) (x.c 0).r)).esc, .row (s.its m (lpre.length : Int) (repIts m ((epre.length : Int) + 1) (x.c 0).r)).out, .row (s.its m (lpre.length : Int) (repIts m ((epre.length : Int) + 1) (x.c 0).r)).pc]) r) :
    EvG (fun q : ι × Nat => iter (B33x2 (go q.1)) q.2 [.row l, .bool lines, .int (lpre.length : Int), .int (epre.length : Int), .int m.e, .int 0, .int m.e, .int m.p, .int m.r, .int m.x, .int m.z, .int m.e, .int m.p, .int m.r, .int m.x, .int m.z, .int s.esc, .row s.out, .row s.pc]) r := by
  obtain ⟨hl1, hl2⟩ := hx
  refine EvG.congr (fun q => ?_) (EvG.scan (B := fun q => B33x2 (go q)) (x.c 0).r (fun pre => [.row l, .bool lines, .int (lpre.length : Int), .int (epre.length : Int), .int (bif pre.length == 0 then m.e else m.r), .int (pre.length : Int), .int m.e, .int m.p, .int m.r, .int m.x, .int m.z, .int m.e, .int m.p, .int m.r, .int m.x, .int m.z, .int (s.its m (lpre.length : Int) (repIts m ((epre.length : Int) + 1) pre)).esc, .row (s.its m (lpre.length : Int) (repIts m ((epre.length : Int) + 1) pre)).out, .row (s.its m (lpre.length : Int) (repIts m ((epre.length : Int) + 1) pre)).pc]) (fun _ _ => r) ?_ ?_)
  · rfl
  · unfold B33x2
    simp only [gt_zero, gt_succ, int_i, row_r, bool_b, A.inr, A.el, hd, B.inr, B.el, B.up, no_more, Bool.and_true, cond_true, cond_false]
    exact k.fst
  · intro pre y post go2 hp2 ih
    have a := at_of hp2 (by omega)
    have hpl : pre.length ≤ 20 := by have := congrArg List.length hp2; simp at this; omega
    have hy : limR y := hl2 y (by simp [hp2])
    have hpre : ∀ z ∈ pre, limR z := fun z hz => hl2 z (by simp [hp2, hz])
    have hle := RW.le_its (m := m) (i := (lpre.length : Int)) h (l := repIts m ((epre.length : Int) + 1) pre) (repIts_tx hpre)
    have hlen := repIts_len (m := m) (e := (epre.length : Int) + 1) hpre
    rw [repIts_snoc, RW.its_app] at ih
    have hne : (bif (pre ++ [y]).length == 0 then m.e else m.r) = m.r := by simp
    rw [hne] at ih
    generalize hS : s.its m (lpre.length : Int) (repIts m ((epre.length : Int) + 1) pre) = S at ih hle ⊢
    unfold B33x2
    simp only [gt_zero, gt_succ, int_i, row_r, bool_b, A.inr, A.el, hd, B.inr, B.el, a.lt, a.inr, a.el, Bool.and_true, cond_true]
    refine EvG.loop (f := fun p n => iter (B33x1 (go2 p)) n _) ?_
    have e5 : ((pre ++ [y]).length : Int) = (pre.length : Int) + 1 := by simp
    rw [e5] at ih
    refine pt33 go2 m l y.r lines (lpre.length : Int) (epre.length : Int) _ (pre.length : Int) m.e m.p m.r m.x m.z S _ r hy ?_ ?_ hle (by omega) ih rfl
    · rw [w64 (by omega) (by omega)]
    · rw [w64 (by omega) (by omega)]
theorem el33 (k : Nat) (m : Mk) (l lpre post' : List D) (d : D) (lines : Bool) (s : RW) (n : Nat) (hl : l = lpre ++ d :: post') (hll : l.length ≤ 2000) (hd : limS d) (h : s.le n) (hn : n ≤ 80000000) :
    Ev (fun k => iter B33x3 k [.row l, .bool lines, .int (lpre.length : Int), .int 0, .int m.e, .int m.p, .int m.r, .int m.x, .int m.z, .int m.e, .int m.p, .int m.r, .int m.x, .int m.z, .int s.esc, .row s.out, .row s.pc])
      [.row l, .bool lines, .int (lpre.length : Int), .int m.e, .int m.p, .int m.r, .int m.x, .int m.z, .int m.e, .int m.p, .int m.r, .int m.x, .int m.z, .int (s.its m (lpre.length : Int) (segIts m (d.c 1).r)).esc, .row ((s.its m (lpre.length : Int) (segIts m (d.c 1).r)).out ++ [.int m.z] ++ (bif lines then [.int 10] else [])), .row (s.its m (lpre.length : Int) (segIts m (d.c 1).r)).pc] := by
  have A := at_of hl (by omega)
  obtain ⟨_, hl1, hl2⟩ := hd
  refine EvG.nat (EvG.loopN (f := fun _ n => iter B33x3 n _) ?_)
  refine EvG.congr (fun q => ?_) (EvG.scan (ι := Nat) (B := fun _ => B33x3) (d.c 1).r (fun pre => [.row l, .bool lines, .int (lpre.length : Int), .int (pre.length : Int), .int m.e, .int m.p, .int m.r, .int m.x, .int m.z, .int m.e, .int m.p, .int m.r, .int m.x, .int m.z, .int (s.its m (lpre.length : Int) (segIts m pre)).esc, .row (s.its m (lpre.length : Int) (segIts m pre)).out, .row (s.its m (lpre.length : Int) (segIts m pre)).pc]) (fun _ _ => _) ?_ ?_)
  · rfl
  · have hle := RW.le_its (m := m) (i := (lpre.length : Int)) h (l := segIts m (d.c 1).r) (segIts_tx hl2)
    have hlen := segIts_len (m := m) hl2
    generalize hS : s.its m (lpre.length : Int) (segIts m (d.c 1).r) = S at hle ⊢
    have h1 := hle.out
    unfold B33x3
    simp only [gt_zero, gt_succ, int_i, row_r, bool_b, A.inr, A.el, no_more, Bool.and_true, cond_true, cond_false]
    refine EvG.pos (needOk_yes (by simp only [List.length_cons, List.length_nil]; omega)) ?_
    cases lines
    · refine EvG.neg rfl ((EvG.now _).cast ?_)
      simp
    · refine EvG.pos rfl (EvG.pos (needOk_yes (by simp only [List.length_append, List.length_cons, List.length_nil]; omega)) ((EvG.now _).cast ?_))
      simp
  · intro pre x post go hp ih
    have B := at_of hp (by omega)
    have hpl : pre.length ≤ 50 := by have := congrArg List.length hp; simp at this; omega
    have hpre : ∀ z ∈ pre, limE z := fun z hz => hl2 z (by simp [hp, hz])
    have hle := RW.le_its (m := m) (i := (lpre.length : Int)) h (l := segIts m pre) (segIts_tx hpre)
    have hlen := segIts_len (m := m) hpre
    rw [segIts_snoc, RW.its_app] at ih
    generalize hS : s.its m (lpre.length : Int) (segIts m pre) = S at ih hle ⊢
    unfold B33x3
    simp only [gt_zero, gt_succ, int_i, row_r, bool_b, A.inr, A.el, B.lt, Bool.and_true, cond_true]
    refine EvG.loop (f := fun p n => iter (B33x2 (go p)) n _) ?_
    exact rp33 go m l lpre (d.c 1).r pre d x lines S _ _ A B rfl (hl2 x (by simp [hp])) hpl hle (by omega) ih
end
theorem wr33 (l : List D) (m : Mk) (lines : Bool) (h : limL l) :
    Ev (fun k => F33 k [.row l, .int m.e, .int m.p, .int m.r, .int m.x, .int m.z, .bool lines]) [.agg [.bool false, .agg [.int m.e, .int m.p, .int m.r, .int m.x, .int m.z, .row (RW.segs m lines 0 ⟨[], [], 0⟩ l).out, .row (RW.segs m lines 0 ⟨[], [], 0⟩ l).pc, .int (RW.segs m lines 0 ⟨[], [], 0⟩ l).esc]]] := by
  obtain ⟨hl1, hl2⟩ := h
  unfold F33
  simp only [gt_zero, gt_succ, int_i, row_r, bool_b]
  refine Ev.congr (fun q => ?_) (Ev.scan (B := B33x4) l (fun pre => [.row l, .bool lines, .int (pre.length : Int), .int m.e, .int m.p, .int m.r, .int m.x, .int m.z, .int m.e, .int m.p, .int m.r, .int m.x, .int m.z, .int (RW.segs m lines 0 ⟨[], [], 0⟩ pre).esc, .row (RW.segs m lines 0 ⟨[], [], 0⟩ pre).out, .row (RW.segs m lines 0 ⟨[], [], 0⟩ pre).pc]) (fun _ _ => _) ?_ ?_)
  · rfl
  · unfold B33x4
    simp only [gt_zero, gt_succ, int_i, row_r, bool_b, no_more, cond_false]
    exact Ev.now _
  · intro pre d post go hp ih
    have A := at_of hp (by omega)
    have hpl : pre.length ≤ 2000 := by have := congrArg List.length hp; simp at this; omega
    have hd : limS d := hl2 d (by simp [hp])
    have hle := RW.le_segs (m := m) (lines := lines) (i := 0) (l := pre) (s := ⟨[], [], 0⟩) (n := 0) ⟨by simp, by simp, by simp, by simp⟩ (fun z hz => hl2 z (by simp [hp, hz]))
    rw [RW.segs_snoc, Nat.zero_add] at ih
    generalize hS : RW.segs m lines 0 ⟨[], [], 0⟩ pre = S at ih hle ⊢
    have h1 := hle.out; have h2 := hle.pc; have h3 := hle.e0; have h4 := hle.e1
    have htg := hd.1
    unfold B33x4
    simp only [gt_zero, gt_succ, int_i, row_r, bool_b, A.inr, A.el, A.lt, Bool.and_true, cond_true]
    have e6 : IntKind.i64.wrap ((S.out.length : Int) + ((d.c 0).s.size : Int)) = (S.out.length : Int) + ((d.c 0).s.size : Int) := w64 (by omega) (by omega)
    refine Ev.bind (a := [D.row l, .bool lines, .int (pre.length : Int), .int m.e, .int m.p, .int m.r, .int m.x, .int m.z, .int m.e, .int m.p, .int m.r, .int m.x, .int m.z, .int (S.seg m lines (pre.length : Int) d).esc, .row (S.seg m lines (pre.length : Int) d).out, .row (S.seg m lines (pre.length : Int) d).pc]) (Ev.pos (needOk_yes (by simp only [List.length_cons, List.length_nil]; omega)) (Ev.pos (needOk_yes (by rw [show (List.map (fun c => D.int ((UInt8.toNat c) : Int)) (ByteArray.toList (d.c 0).s)).length = (d.c 0).s.size from tgD_len _]; omega)) ?_)) ?_
    · rw [e6]
      refine el33 0 m l pre post d lines ⟨S.out ++ tgD (d.c 0).s, S.pc ++ [.agg [.int (pre.length : Int), .int 0, .int 0, .int 0, .int (S.out.length : Int), .int (S.out.length : Int), .int ((S.out.length : Int) + ((d.c 0).s.size : Int))]], S.esc⟩ (0 + 20001 * pre.length + 1) hp hl1 hd ?_ (by omega)
      refine ⟨?_, ?_, h3, ?_⟩
      · simp only [List.length_append, tgD_len]; omega
      · simp only [List.length_append, List.length_cons, List.length_nil]; omega
      · show S.esc ≤ _; omega
    · simp only [gt_zero, gt_succ, int_i, row_r, bool_b, A.up]
      exact ih
end Go.Sx
