/- Segments: where parts stand. -/
import Derived.Test.YtlhbonpdlghlbaaDoorSxWj
set_option linter.unusedVariables false
set_option linter.unusedSimpArgs false
namespace Go.Sx
def bgP (d : D) : Int := (d.c 4).i
def toP (d : D) : Int := (d.c 6).i
/-- Pieces are numbered by their segments; N: the segments before. -/
def numOK : Nat → List D → Prop
  | _, [] => True
  | N, z :: l => (0 ≤ bgP z ∧ bgP z ≤ toP z ∧ toP z ≤ 1000000000000) ∧
    (if (z.c 1).i = 0 then (z.c 0).i = (N : Int) ∧ (z.c 2).i = 0 ∧ (z.c 3).i = 0 ∧ numOK (N + 1) l else (z.c 0).i = (N : Int) - 1 ∧ 1 ≤ N ∧ (z.c 5).i = bgP z + 1 ∧ (z.c 5).i ≤ toP z ∧ numOK N l)
theorem stOf_cons (z : D) (l : List D) : stOf (z :: l) = bif (z.c 1).i == 0 then .int (z.c 4).i :: stOf l else stOf l := by
  simp only [stOf, List.filterMap_cons]
  cases (z.c 1).i == 0 <;> rfl
theorem plOf_cons (z : D) (l : List D) : plOf (z :: l) = bif (z.c 1).i == 0 then plOf l else .agg [.int (z.c 0).i, .int (z.c 1).i, .int (z.c 2).i, .int (z.c 3).i, .int (z.c 5).i, .int (z.c 6).i] :: plOf l := by
  simp only [plOf, List.filterMap_cons]
  cases (z.c 1).i == 0 <;> rfl
theorem numOK_app : ∀ (a b : List D) (N : Nat), numOK N (a ++ b) ↔ numOK N a ∧ numOK (N + (stOf a).length) b
  | [], b, N => by simp [numOK, stOf]
  | z :: a, b, N => by
    simp only [List.cons_append, numOK]
    rw [stOf_cons]
    by_cases h : (z.c 1).i = 0
    · rw [if_pos h, if_pos h, beqI_true h, numOK_app a b (N + 1)]
      simp only [cond_true, List.length_cons]
      rw [show N + 1 + (stOf a).length = N + ((stOf a).length + 1) by omega]
      simp only [and_assoc]
    · rw [if_neg h, if_neg h, beqI_false h, numOK_app a b N]
      simp only [cond_false, and_assoc]
structure PcInv (r : RW) (N : Nat) : Prop where
  num : numOK 0 r.pc
  tags : (stOf r.pc).length = N
  srt : r.pc.Pairwise (fun a b => toP a ≤ bgP b)
  le : ∀ z ∈ r.pc, toP z ≤ (r.out.length : Int)
theorem it_inv {m : Mk} {i : Int} {r : RW} {N : Nat} {it : Pt} {n : Nat} (h : PcInv r N) (hl : r.le n) (hn : n ≤ 100000000) (ht : txI it) (hi : i = (N : Int) - 1) (hN : 1 ≤ N) (he : it.e ≠ 0) : PcInv (r.it m i it) N := by
  have h1 := txs_le m (m.x != 0) it.t.data.toList
  rw [ba_len] at h1
  unfold txI at ht
  have h2 := hl.out
  have hz : ∀ (a b c d e f g : Int), bgP (.agg [.int a, .int b, .int c, .int d, .int e, .int f, .int g]) = e ∧ toP (.agg [.int a, .int b, .int c, .int d, .int e, .int f, .int g]) = g := fun _ _ _ _ _ _ _ => ⟨rfl, rfl⟩
  refine ⟨?_, ?_, ?_, ?_⟩
  · simp only [RW.it]
    rw [numOK_app]
    refine ⟨h.num, ?_⟩
    rw [h.tags, Nat.zero_add]
    simp only [numOK, (hz _ _ _ _ _ _ _).1, (hz _ _ _ _ _ _ _).2]
    refine ⟨⟨by omega, by simp only [List.length_append, List.length_cons, List.length_nil]; omega, by simp only [List.length_append, List.length_cons, List.length_nil]; omega⟩, ?_⟩
    rw [if_neg (show ¬ ((D.agg [.int i, .int it.e, .int it.r, .int it.p, .int (r.out.length : Int), .int ((r.out ++ [D.int it.k]).length : Int), .int ((r.out ++ [D.int it.k] ++ txs m (m.x != 0) it.t.data.toList).length : Int)]).c 1).i = 0 from he)]
    refine ⟨hi, hN, ?_, ?_, trivial⟩
    · show (((r.out ++ [D.int it.k]).length : Nat) : Int) = _
      simp
    · show (((r.out ++ [D.int it.k]).length : Nat) : Int) ≤ _
      simp only [List.length_append, List.length_cons, List.length_nil]; omega
  · simp only [RW.it, stOf_app]
    rw [List.length_append, h.tags]
    rw [stOf_cons, beqI_false (show ((D.agg [.int i, .int it.e, .int it.r, .int it.p, .int (r.out.length : Int), .int ((r.out ++ [D.int it.k]).length : Int), .int ((r.out ++ [D.int it.k] ++ txs m (m.x != 0) it.t.data.toList).length : Int)]).c 1).i ≠ 0 from he)]
    rfl
  · simp only [RW.it]
    rw [List.pairwise_append]
    refine ⟨h.srt, List.pairwise_singleton _ _, fun a ha b hb => ?_⟩
    rw [List.mem_singleton.1 hb, (hz _ _ _ _ _ _ _).1]
    exact h.le a ha
  · intro z hzm
    simp only [RW.it] at hzm ⊢
    rcases List.mem_append.1 hzm with hzm | hzm
    · have := h.le z hzm
      simp only [List.length_append, List.length_cons, List.length_nil]; omega
    · rw [List.mem_singleton.1 hzm, (hz _ _ _ _ _ _ _).2]
      exact Int.le_refl _
theorem its_inv {m : Mk} {i : Int} {N : Nat} (hi : i = (N : Int) - 1) (hN : 1 ≤ N) : ∀ {l : List Pt} {r : RW} {n : Nat} (_ : PcInv r N) (_ : r.le n) (_ : n + l.length ≤ 100000000) (_ : ∀ it ∈ l, txI it) (_ : ∀ it ∈ l, it.e ≠ 0), PcInv (r.its m i l) N
  | [], r, n, h, _, _, _, _ => h
  | it :: l, r, n, h, hl, hn, ht, he => by
    simp only [List.length_cons] at hn
    exact its_inv hi hN (l := l) (r := r.it m i it) (n := n + 1) (it_inv h hl (by omega) (ht it (by simp)) hi hN (he it (by simp))) (RW.le_it hl (ht it (by simp))) (by omega) (fun x hx => ht x (by simp [hx])) (fun x hx => he x (by simp [hx]))
theorem seg_inv {m : Mk} {lines : Bool} {r : RW} {N : Nat} {d : D} {n : Nat} (h : PcInv r N) (hl : r.le n) (hn : n + 20001 ≤ 100000000) (hd : limS d) : PcInv (r.seg m lines (N : Int) d) (N + 1) := by
  obtain ⟨h1, h2, h3⟩ := hd
  have hlen := segIts_len (m := m) h3
  have ht := segIts_tx (m := m) h3
  have a1 := hl.out; have a2 := hl.pc; have a3 := hl.e0; have a4 := hl.e1
  have hz : ∀ (a b c d e f g : Int), bgP (.agg [.int a, .int b, .int c, .int d, .int e, .int f, .int g]) = e ∧ toP (.agg [.int a, .int b, .int c, .int d, .int e, .int f, .int g]) = g := fun _ _ _ _ _ _ _ => ⟨rfl, rfl⟩
  have hs : RW.le ⟨r.out ++ tgD (d.c 0).s, r.pc ++ [.agg [.int (N : Int), .int 0, .int 0, .int 0, .int (r.out.length : Int), .int (r.out.length : Int), .int ((r.out.length : Int) + ((d.c 0).s.size : Int))]], r.esc⟩ (n + 1) := by
    refine ⟨?_, ?_, a3, ?_⟩
    · simp only [List.length_append, tgD_len]; omega
    · simp only [List.length_append, List.length_cons, List.length_nil]; omega
    · show r.esc ≤ _; omega
  have hp : PcInv ⟨r.out ++ tgD (d.c 0).s, r.pc ++ [.agg [.int (N : Int), .int 0, .int 0, .int 0, .int (r.out.length : Int), .int (r.out.length : Int), .int ((r.out.length : Int) + ((d.c 0).s.size : Int))]], r.esc⟩ (N + 1) := by
    refine ⟨?_, ?_, ?_, ?_⟩
    · show numOK 0 (r.pc ++ _)
      rw [numOK_app]
      refine ⟨h.num, ?_⟩
      rw [h.tags, Nat.zero_add]
      simp only [numOK, (hz _ _ _ _ _ _ _).1, (hz _ _ _ _ _ _ _).2]
      refine ⟨⟨by omega, by omega, by omega⟩, ?_⟩
      rw [if_pos (show ((D.agg [.int (N : Int), .int 0, .int 0, .int 0, .int (r.out.length : Int), .int (r.out.length : Int), .int ((r.out.length : Int) + ((d.c 0).s.size : Int))]).c 1).i = 0 from rfl)]
      exact ⟨rfl, rfl, rfl, trivial⟩
    · show (stOf (r.pc ++ _)).length = _
      rw [stOf_app, List.length_append, h.tags]
      rfl
    · show List.Pairwise _ (r.pc ++ _)
      rw [List.pairwise_append]
      refine ⟨h.srt, List.pairwise_singleton _ _, fun a ha b hb => ?_⟩
      rw [List.mem_singleton.1 hb, (hz _ _ _ _ _ _ _).1]
      exact h.le a ha
    · intro z hzm
      rcases List.mem_append.1 hzm with hzm | hzm
      · have := h.le z hzm
        show _ ≤ (((r.out ++ tgD (d.c 0).s).length : Nat) : Int)
        rw [List.length_append]; omega
      · rw [List.mem_singleton.1 hzm, (hz _ _ _ _ _ _ _).2]
        show _ ≤ (((r.out ++ tgD (d.c 0).s).length : Nat) : Int)
        rw [List.length_append, tgD_len]; omega
  have q := its_inv (m := m) (i := (N : Int)) (N := N + 1) (by omega) (by omega) hp hs (by omega) ht (segIts_e m (d.c 1).r)
  unfold RW.seg
  dsimp only
  refine ⟨q.num, q.tags, q.srt, fun z hz => ?_⟩
  have := q.le z hz
  simp only [List.length_append, List.length_cons, List.length_nil]
  omega
theorem segs_inv (m : Mk) (lines : Bool) (l : List D) (h : ∀ d ∈ l, limS d) (hl : l.length ≤ 2000) : PcInv (RW.segs m lines 0 RW0 l) l.length := by
  refine snoc_ind (P := fun l => (∀ d ∈ l, limS d) → l.length ≤ 2000 → PcInv (RW.segs m lines 0 RW0 l) l.length) ?_ (fun l d ih => ?_) _ l rfl h hl
  · intro _ _
    exact ⟨trivial, rfl, .nil, fun z hz => by simp [RW.segs, RW0] at hz⟩
  · intro h hl
    simp only [List.length_append, List.length_cons, List.length_nil] at hl ⊢
    have hle := RW.le_segs (m := m) (lines := lines) (i := 0) (l := l) (s := RW0) (n := 0) ⟨by simp [RW0], by simp [RW0], by simp [RW0], by simp [RW0]⟩ (fun z hz => h z (by simp [hz]))
    rw [RW.segs_snoc, Nat.zero_add]
    exact seg_inv (ih (fun z hz => h z (by simp [hz])) (by omega)) hle (by omega) (h d (by simp))
/-! ### The piece of a byte -/
theorem srt_bg {l : List D} (N : Nat) (hn : numOK N l) (h : l.Pairwise (fun a b => toP a ≤ bgP b)) : l.Pairwise (fun a b => bgP a ≤ bgP b) := by
  induction l generalizing N with
  | nil => exact .nil
  | cons z l ih =>
    rw [List.pairwise_cons] at h ⊢
    have hz := hn.1
    refine ⟨fun b hb => by have := h.1 b hb; omega, ?_⟩
    have hn2 := hn.2
    by_cases h0 : (z.c 1).i = 0
    · rw [if_pos h0] at hn2; exact ih _ hn2.2.2.2 h.2
    · rw [if_neg h0] at hn2; exact ih _ hn2.2.2.2.2 h.2
/-- Pieces that begin at a byte or before it, and those behind. -/
theorem cut_at {l : List D} (at_ : Int) (h : l.Pairwise (fun a b => bgP a ≤ bgP b)) : ∃ P Q, l = P ++ Q ∧ (∀ z ∈ P, bgP z ≤ at_) ∧ ∀ z ∈ Q, at_ < bgP z := by
  induction l with
  | nil => exact ⟨[], [], rfl, by simp, by simp⟩
  | cons z l ih =>
    rw [List.pairwise_cons] at h
    by_cases hz : bgP z ≤ at_
    · obtain ⟨P, Q, h1, h2, h3⟩ := ih h.2
      refine ⟨z :: P, Q, by rw [h1]; rfl, fun y hy => ?_, h3⟩
      rcases List.mem_cons.1 hy with rfl | hy
      · exact hz
      · exact h2 y hy
    · refine ⟨[], z :: l, rfl, by simp, fun y hy => ?_⟩
      rcases List.mem_cons.1 hy with rfl | hy
      · omega
      · have := h.1 y hy; omega
theorem numOK_pl : ∀ (a : List D) (N : Nat), numOK N a → ∀ z ∈ plOf a, (z.c 0).i ≤ (N : Int) + ((stOf a).length : Int) - 1
  | [], N, _, z, hz => by simp [plOf] at hz
  | y :: a, N, h, z, hz => by
    rw [plOf_cons] at hz
    rw [stOf_cons]
    have h2 := h.2
    by_cases h0 : (y.c 1).i = 0
    · rw [if_pos h0] at h2
      rw [beqI_true h0] at hz ⊢
      have := numOK_pl a (N + 1) h2.2.2.2 z hz
      simp only [cond_true, List.length_cons]
      omega
    · rw [if_neg h0] at h2
      rw [beqI_false h0] at hz ⊢
      simp only [cond_false] at hz ⊢
      rcases List.mem_cons.1 hz with rfl | hz
      · have := h2.1
        show (y.c 0).i ≤ _
        omega
      · exact numOK_pl a N h2.2.2.2.2 z hz
/-- The spot that is noted last. -/
def sp1 (seg at_ : Int) (acc : Int × Int × Int) (d : D) : Int × Int × Int := bif ((d.c 0).i == seg) && decide ((d.c 4).i - 1 ≤ at_) then ((d.c 1).i, (d.c 2).i, (d.c 3).i) else acc
def spF (seg at_ : Int) (acc : Int × Int × Int) (l : List D) : Int × Int × Int := l.foldl (sp1 seg at_) acc
theorem spF_none {seg at_ : Int} : ∀ {l : List D} {acc : Int × Int × Int} (_ : ∀ d ∈ l, ¬ ((d.c 0).i = seg ∧ (d.c 4).i - 1 ≤ at_)), spF seg at_ acc l = acc
  | [], _, _ => rfl
  | d :: l, acc, h => by
    show spF seg at_ (sp1 seg at_ acc d) l = acc
    have h1 : sp1 seg at_ acc d = acc := by
      unfold sp1
      by_cases h0 : (d.c 0).i = seg
      · rw [beqI_true h0, decide_eq_false (fun h2 => h d (by simp) ⟨h0, h2⟩)]; rfl
      · rw [beqI_false h0]; rfl
    rw [h1]
    exact spF_none (fun x hx => h x (by simp [hx]))
theorem spF_app (seg at_ : Int) (acc : Int × Int × Int) (a b : List D) : spF seg at_ acc (a ++ b) = spF seg at_ (spF seg at_ acc a) b := by simp [spF]
/-- The last piece that begins at a byte or before it tells the segment and the spot. -/
theorem spot_of {P Q : List D} {z : D} {at_ : Int} (hn : numOK 0 (P ++ [z] ++ Q)) (h1 : ∀ y ∈ P ++ [z], bgP y ≤ at_) (h2 : ∀ y ∈ Q, at_ < bgP y) :
    (z.c 0).i = ((stOf (P ++ [z])).length : Int) - 1 ∧ spF (z.c 0).i at_ (0, 0, 0) (plOf (P ++ [z] ++ Q)) = ((z.c 1).i, (z.c 2).i, (z.c 3).i) := by
  rw [numOK_app] at hn
  obtain ⟨hn1, hn2⟩ := hn
  have hn1' := hn1
  rw [numOK_app, Nat.zero_add] at hn1
  obtain ⟨hP, hz⟩ := hn1
  have hQ : ∀ (q : List D) (N : Nat), numOK N q → (∀ y ∈ q, at_ < bgP y) → ∀ d ∈ plOf q, ¬ ((d.c 0).i = (z.c 0).i ∧ (d.c 4).i - 1 ≤ at_) := by
    intro q
    induction q with
    | nil => intro N _ _ d hd; simp [plOf] at hd
    | cons y q ih =>
      intro N hN hy d hd
      rw [plOf_cons] at hd
      have hN2 := hN.2
      by_cases h0 : (y.c 1).i = 0
      · rw [if_pos h0] at hN2
        rw [beqI_true h0] at hd
        exact ih _ hN2.2.2.2 (fun x hx => hy x (by simp [hx])) d hd
      · rw [if_neg h0] at hN2
        rw [beqI_false h0] at hd
        simp only [cond_false] at hd
        rcases List.mem_cons.1 hd with rfl | hd
        · rintro ⟨_, h3⟩
          have h4 : (y.c 5).i - 1 ≤ at_ := h3
          have h5 := hN2.2.2.1
          have h6 := hy y (by simp)
          omega
        · exact ih _ hN2.2.2.2.2 (fun x hx => hy x (by simp [hx])) d hd
  rw [plOf_app, spF_app, spF_none (hQ Q _ hn2 h2)]
  rw [stOf_app, plOf_app, stOf_cons, plOf_cons]
  have hz2 := hz.2
  by_cases h0 : (z.c 1).i = 0
  · rw [if_pos h0] at hz2
    rw [beqI_true h0]
    refine ⟨?_, ?_⟩
    · rw [hz2.1]
      simp [stOf]
    · simp only [cond_true]
      rw [show plOf P ++ plOf [] = plOf P by simp [plOf]]
      rw [spF_none, h0, hz2.2.1, hz2.2.2.1]
      rintro d hd ⟨h3, _⟩
      have := numOK_pl P 0 hP d hd
      rw [h3, hz2.1] at this
      omega
  · rw [if_neg h0] at hz2
    rw [beqI_false h0]
    refine ⟨?_, ?_⟩
    · rw [hz2.1]
      simp [stOf]
    · simp only [cond_false]
      rw [spF_app]
      show sp1 _ _ _ _ = _
      unfold sp1
      have h5 := hz2.2.2.1
      have h6 := h1 z (by simp)
      show (bif ((z.c 0).i == (z.c 0).i) && decide ((z.c 5).i - 1 ≤ at_) then ((z.c 1).i, (z.c 2).i, (z.c 3).i) else _) = _
      rw [beqI_true rfl, decide_eq_true (by omega)]
      rfl
end Go.Sx
