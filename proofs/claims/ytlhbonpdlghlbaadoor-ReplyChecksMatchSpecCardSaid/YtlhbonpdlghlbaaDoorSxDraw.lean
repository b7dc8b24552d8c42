/- Operations that do not meet may change places. -/
import Derived.Test.YtlhbonpdlghlbaaDoorSxReg
set_option linter.unusedVariables false
set_option linter.unusedSimpArgs false
namespace Go.Sx
open Go.RowKit
section
variable {T : Nat → TyI} {F : Nat → Nat → List AV → Option (List AV)} {k id : Nat} {md : Nat → Nat} {all : List Oper}
theorem hasNat_iff {l : List Nat} {i : Nat} : hasNat l i = true ↔ i ∈ l := by
  induction l with
  | nil => simp [hasNat]
  | cons n l ih =>
    simp only [hasNat, Bool.or_eq_true, ih, List.mem_cons]
    constructor
    · rintro (h | h)
      · exact .inl (Nat.eq_of_beq_eq_true h).symm
      · exact .inr h
    · rintro (h | h)
      · subst h; exact .inl (by simp)
      · exact .inr h
theorem disj_iff {a b : List Nat} : disj a b = true ↔ ∀ x, x ∈ a → x ∉ b := by
  simp only [disj, List.all_eq_true, Bool.not_eq_true']
  constructor
  · intro h x hx hb
    have := h x hx x hb
    simp at this
  · intro h x hx y hy
    cases hb : Nat.beq x y
    · rfl
    · have := Nat.eq_of_beq_eq_true hb
      subst this
      exact absurd hy (h x hx)
/-- The temporaries that an operation looks at, its guard's among them. -/
def uses (all : List Oper) (o : Oper) : List Nat := opTmps o ++ (match o.guard with | some (g, _) => (((all[g]?).bind (·.dst)).toList) | none => [])
/-- The temporaries and what is owned: nothing that one puts the other looks at or puts. -/
def Apart (all : List Oper) (x y : Nat × List Nat × List Nat) : Prop :=
  ∀ oi oj, all[x.1]? = some oi → all[y.1]? = some oj → (∀ d, oi.dst = some d → d ∉ uses all oj) ∧ (∀ d, oj.dst = some d → d ∉ uses all oi) ∧ (∀ d, oi.dst = some d → oj.dst ≠ some d) ∧ (∀ z, z ∈ x.2.2 → z ∉ y.2.1) ∧ (∀ z, z ∈ x.2.2 → z ∉ y.2.2) ∧ (∀ z, z ∈ x.2.1 → z ∉ y.2.2)
theorem Apart.symm {x y : Nat × List Nat × List Nat} (h : Apart all x y) : Apart all y x := fun oi oj hi hj => by
  obtain ⟨h1, h2, h3, h4, h5, h6⟩ := h oj oi hj hi
  exact ⟨h2, h1, fun d hd e => h3 d e hd, fun z hz hz' => h6 z hz' hz, fun z hz hz' => h5 z hz' hz, fun z hz hz' => h4 z hz' hz⟩

/-- One operation: what it changes, and that only what it looks at counts. -/
theorem pstep_local {i : Nat} {s s1 : St} {r w : List Nat} (h : pstep T F k id md all i s = some (s1, r, w)) :
    (∃ n, n = w.length ∧ s1.w = s.w + n ∧ (∀ j, (∀ o, all[i]? = some o → o.dst ≠ some j) → s1.t j = s.t j) ∧ (∀ z, z ∉ w → s1.h z = s.h z) ∧
      ∀ s2 : St, (∀ o, all[i]? = some o → ∀ j, j ∈ uses all o → s2.t j = s.t j) → (∀ z, z ∈ r → s2.h z = s.h z) → ∃ s3, pstep T F k id md all i s2 = some (s3, r, w) ∧ s3.w = s2.w + n ∧
        (∀ o j, all[i]? = some o → o.dst = some j → s3.t j = s1.t j) ∧ (∀ j, (∀ o, all[i]? = some o → o.dst ≠ some j) → s3.t j = s2.t j) ∧ (∀ z, z ∈ w → s3.h z = s1.h z) ∧ (∀ z, z ∉ w → s3.h z = s2.h z)) := by
  unfold pstep at h
  cases ho : all[i]? with
  | none =>
    rw [ho] at h
    simp only [Option.some.injEq, Prod.mk.injEq] at h
    obtain ⟨rfl, rfl, rfl⟩ := h
    refine ⟨0, rfl, rfl, fun _ _ => rfl, fun _ _ => rfl, fun s2 _ _ => ⟨s2, by unfold pstep; rw [ho], rfl, (fun o j h => by cases h), fun _ _ => rfl, (fun z hz => absurd hz (by simp)), fun _ _ => rfl⟩⟩
  | some o =>
    rw [ho] at h
    simp only at h
    have putT : ∀ (s : St) (hh : Tab) (wc : Nat) (d : Option Nat) (v : AV) (j : Nat), (St.put ⟨s.t, hh, wc⟩ d v).t j = if d = some j then v else s.t j := by
      intro s hh wc d v j
      cases d with
      | none => simp [St.put]
      | some n =>
        simp only [St.put, Option.some.injEq]
        cases hb : Nat.beq j n
        · have : ¬ n = j := fun e => by subst e; simp at hb
          rw [if_neg this]; rfl
        · have := Nat.eq_of_beq_eq_true hb
          subst this; simp
    have putH : ∀ (s : St) (hh : Tab) (wc : Nat) (d : Option Nat) (v : AV), (St.put ⟨s.t, hh, wc⟩ d v).h = hh ∧ (St.put ⟨s.t, hh, wc⟩ d v).w = wc := fun s hh wc d v => by cases d <;> exact ⟨rfl, rfl⟩
    -- the operation runs
    have run : ∀ {q : St × List Nat × List Nat}, (opEv T F k (2 * (2048 * (128 * id + i)) + 1) (md i) (ev (only (opTmps o) s.t)) o.op s.h).map (fun (p : Got AV) => ((St.put ⟨s.t, p.2.1, s.w + p.2.2.2.length⟩ o.dst (plainV p.1)), p.2.2.1, p.2.2.2)) = some q → q = (s1, r, w) →
        ∃ n, n = w.length ∧ s1.w = s.w + n ∧ (∀ j, o.dst ≠ some j → s1.t j = s.t j) ∧ (∀ z, z ∉ w → s1.h z = s.h z) ∧
          ∀ s2 : St, (∀ j, j ∈ opTmps o → s2.t j = s.t j) → (∀ z, z ∈ r → s2.h z = s.h z) → ∃ s3, (opEv T F k (2 * (2048 * (128 * id + i)) + 1) (md i) (ev (only (opTmps o) s2.t)) o.op s2.h).map (fun (p : Got AV) => ((St.put ⟨s2.t, p.2.1, s2.w + p.2.2.2.length⟩ o.dst (plainV p.1)), p.2.2.1, p.2.2.2)) = some (s3, r, w) ∧ s3.w = s2.w + n ∧
            (∀ j, o.dst = some j → s3.t j = s1.t j) ∧ (∀ j, o.dst ≠ some j → s3.t j = s2.t j) ∧ (∀ z, z ∈ w → s3.h z = s1.h z) ∧ (∀ z, z ∉ w → s3.h z = s2.h z) := by
      intro q hq hqe
      obtain ⟨⟨v, h', r', w'⟩, hev, rfl⟩ := Option.map_eq_some_iff.1 hq
      simp only [Prod.mk.injEq] at hqe
      obtain ⟨rfl, rfl, rfl⟩ := hqe
      unfold opEv at hev
      obtain ⟨r1, w1, hr1, hw1, hh, hloc⟩ := ev_local _ hev
      simp only [List.append_nil] at hr1 hw1
      subst hr1 hw1
      refine ⟨w'.length, rfl, by rw [(putH s h' _ o.dst _).2], fun j hj => by rw [putT, if_neg hj], fun z hz => by rw [(putH s h' _ o.dst _).1]; exact hh z hz, fun s2 ht hr2 => ?_⟩
      have hev2 : ev (only (opTmps o) s2.t) = ev (only (opTmps o) s.t) := by
        funext y
        cases y with
        | tmp j =>
          simp only [ev, only]
          cases low j
          · rfl
          · cases hb : hasNat (opTmps o) j
            · rfl
            · simp only [cond_true]; rw [ht j (hasNat_iff.1 hb)]
        | _ => rfl
      obtain ⟨h2', hev3, h4, h5⟩ := hloc s2.h [] [] hr2
      simp only [List.append_nil] at hev3
      refine ⟨St.put ⟨s2.t, h2', s2.w + w'.length⟩ o.dst (plainV v), ?_, ?_, fun j hj => ?_, fun j hj => ?_, fun z hz => ?_, fun z hz => ?_⟩
      · unfold opEv
        rw [hev2, hev3]; rfl
      · rw [(putH s2 h2' _ o.dst _).2]
      · rw [putT, putT, if_pos hj, if_pos hj]
      · rw [putT, if_neg hj]
      · rw [(putH s2 h2' _ o.dst _).1, (putH s h' _ o.dst _).1]; exact h4 z hz
      · rw [(putH s2 h2' _ o.dst _).1]; exact h5 z hz
    split at h
    · rename_i hg
      obtain ⟨n, hnw, h1, h2, h3, h4⟩ := run h rfl
      refine ⟨n, hnw, h1, fun j hj => h2 j (hj o rfl), h3, fun s2 ht hr2 => ?_⟩
      obtain ⟨s3, h5, h6, h7, h8, h9⟩ := h4 s2 (fun j hj => ht o rfl j (by simp [uses, hj])) hr2
      refine ⟨s3, ?_, h6, fun o' j ho' hj => by cases ho'; exact h7 j hj, fun j hj => h8 j (hj o rfl), h9⟩
      unfold pstep
      rw [ho]
      simp only
      rw [hg]
      exact h5
    · rename_i j b hg
      split at h
      · rename_i q hq
        obtain ⟨d, hd, hdv⟩ := Option.map_eq_some_iff.1 hq
        have hmem : d ∈ uses all o := by simp [uses, hg, hd]
        by_cases hqb : q = b
        · rw [if_pos hqb] at h
          obtain ⟨n, hnw, h1, h2, h3, h4⟩ := run h rfl
          refine ⟨n, hnw, h1, fun j hj => h2 j (hj o rfl), h3, fun s2 ht hr2 => ?_⟩
          obtain ⟨s3, h5, h6, h7, h8, h9⟩ := h4 s2 (fun j hj => ht o rfl j (by simp [uses, hj])) hr2
          refine ⟨s3, ?_, h6, fun o' j ho' hj => by cases ho'; exact h7 j hj, fun j hj => h8 j (hj o rfl), h9⟩
          unfold pstep
          rw [ho]
          simp only
          rw [hg]
          simp only [hd, Option.map_some, ht o rfl d hmem, hdv, if_pos hqb]
          exact h5
        · rw [if_neg hqb] at h
          simp only [Option.some.injEq, Prod.mk.injEq] at h
          obtain ⟨rfl, rfl, rfl⟩ := h
          refine ⟨0, rfl, by cases o.dst <;> rfl, fun j hj => ?_, fun z _ => by cases o.dst <;> rfl, fun s2 ht hr2 => ⟨s2.put o.dst .skip, ?_, by cases o.dst <;> rfl, fun o' j ho' hj => ?_, fun j hj => ?_, fun z hz => by simp at hz, fun z _ => by cases o.dst <;> rfl⟩⟩
          · have := putT s s.h s.w o.dst .skip j
            rw [if_neg (hj o rfl)] at this; exact this
          · unfold pstep
            rw [ho]
            simp only
            rw [hg]
            simp only [hd, Option.map_some, ht o rfl d hmem, hdv, if_neg hqb]
          · cases ho'
            have e1 := putT s2 s2.h s2.w o.dst .skip j
            have e2 := putT s s.h s.w o.dst .skip j
            rw [if_pos hj] at e1 e2
            exact e1.trans e2.symm
          · have := putT s2 s2.h s2.w o.dst .skip j
            rw [if_neg (hj o rfl)] at this; exact this
      · rename_i hsk
        obtain ⟨d, hd, hdv⟩ := Option.map_eq_some_iff.1 hsk
        have hmem : d ∈ uses all o := by simp [uses, hg, hd]
        simp only [Option.some.injEq, Prod.mk.injEq] at h
        obtain ⟨rfl, rfl, rfl⟩ := h
        refine ⟨0, rfl, by cases o.dst <;> rfl, fun j hj => ?_, fun z _ => by cases o.dst <;> rfl, fun s2 ht hr2 => ⟨s2.put o.dst .skip, ?_, by cases o.dst <;> rfl, fun o' j ho' hj => ?_, fun j hj => ?_, fun z hz => by simp at hz, fun z _ => by cases o.dst <;> rfl⟩⟩
        · have := putT s s.h s.w o.dst .skip j
          rw [if_neg (hj o rfl)] at this; exact this
        · unfold pstep
          rw [ho]
          simp only
          rw [hg]
          simp only [hd, Option.map_some, ht o rfl d hmem, hdv]
        · cases ho'
          have e1 := putT s2 s2.h s2.w o.dst .skip j
          have e2 := putT s s.h s.w o.dst .skip j
          rw [if_pos hj] at e1 e2
          exact e1.trans e2.symm
        · have := putT s2 s2.h s2.w o.dst .skip j
          rw [if_neg (hj o rfl)] at this; exact this
      · cases h

/-- Two that are apart change places. -/
theorem swap {i j : Nat} {s s1 s2 : St} {r1 w1 r2 w2 : List Nat} (h1 : pstep T F k id md all i s = some (s1, r1, w1)) (h2 : pstep T F k id md all j s1 = some (s2, r2, w2)) (hap : Apart all (i, r1, w1) (j, r2, w2)) (hi : ∃ o, all[i]? = some o) (hj : ∃ o, all[j]? = some o) :
    ∃ s3, pstep T F k id md all j s = some (s3, r2, w2) ∧ pstep T F k id md all i s3 = some (s2, r1, w1) := by
  obtain ⟨oi, hoi⟩ := hi
  obtain ⟨oj, hoj⟩ := hj
  obtain ⟨a1, a2, a3, a4, a5, a6⟩ := hap oi oj hoi hoj
  obtain ⟨n1, _, p1, p2, p3, p4⟩ := pstep_local h1
  obtain ⟨n2, _, q1, q2, q3, q4⟩ := pstep_local h2
  have hdi : ∀ z, (∀ o, all[i]? = some o → o.dst ≠ some z) ↔ oi.dst ≠ some z := fun z => ⟨fun h => h oi hoi, fun h o ho => by rw [hoi] at ho; cases ho; exact h⟩
  have hdj : ∀ z, (∀ o, all[j]? = some o → o.dst ≠ some z) ↔ oj.dst ≠ some z := fun z => ⟨fun h => h oj hoj, fun h o ho => by rw [hoj] at ho; cases ho; exact h⟩
  obtain ⟨s3, b1, b2, b3, b4, b5, b6⟩ := q4 s (fun o ho z hz => by
    rw [hoj] at ho; cases ho
    exact (p2 z ((hdi z).2 (fun hd => a1 z hd hz))).symm) (fun z hz => (p3 z (fun hw => a4 z hw hz)).symm)
  obtain ⟨s4, c1, c2, c3, c4, c5, c6⟩ := p4 s3 (fun o ho z hz => by
    rw [hoi] at ho; cases ho
    exact b4 z ((hdj z).2 (fun hd => a2 z hd hz))) (fun z hz => b6 z (fun hw => a6 z hz hw))
  refine ⟨s3, b1, ?_⟩
  rw [c1]
  congr 2
  obtain ⟨t4, h4, w4⟩ := s4
  obtain ⟨t2, hh2, ww2⟩ := s2
  congr 1
  · funext z
    by_cases hz : oi.dst = some z
    · have e1 : t4 z = s1.t z := c3 oi z hoi hz
      have e2 : t2 z = s1.t z := q2 z ((hdj z).2 (fun e => a3 z hz e))
      rw [e1, e2]
    · have e1 : t4 z = s3.t z := c4 z ((hdi z).2 hz)
      by_cases hz2 : oj.dst = some z
      · rw [e1]; exact b3 oj z hoj hz2
      · have e2 : s3.t z = s.t z := b4 z ((hdj z).2 hz2)
        have e3 : t2 z = s1.t z := q2 z ((hdj z).2 hz2)
        have e4 : s1.t z = s.t z := p2 z ((hdi z).2 hz)
        rw [e1, e2, e3, e4]
  · funext z
    by_cases hz : z ∈ w1
    · have e1 : h4 z = s1.h z := c5 z hz
      have e2 : hh2 z = s1.h z := q3 z (a5 z hz)
      rw [e1, e2]
    · have e1 : h4 z = s3.h z := c6 z hz
      by_cases hz2 : z ∈ w2
      · rw [e1]; exact b5 z hz2
      · have e2 : s3.h z = s.h z := b6 z hz2
        have e3 : hh2 z = s1.h z := q3 z hz2
        have e4 : s1.h z = s.h z := p3 z hz
        rw [e1, e2, e3, e4]
  · have e1 : w4 = s3.w + n1 := c2
    have e2 : ww2 = s1.w + n2 := q1
    omega

/-- Lists of operations in their order; each pair that may change places is apart. -/
theorem prun_append {s : St} : ∀ {l m : List Nat} {q : St × Tr}, prun T F k id md all (l ++ m) s = some q → ∃ q1 q2, prun T F k id md all l s = some q1 ∧ prun T F k id md all m q1.1 = some q2 ∧ q = (q2.1, q1.2 ++ q2.2)
  | [], m, q, h => ⟨(s, []), q, rfl, h, rfl⟩
  | i :: l, m, q, h => by
    simp only [List.cons_append, prun] at h
    obtain ⟨p, hp, h⟩ := Option.bind_eq_some_iff.1 h
    obtain ⟨q', hq', rfl⟩ := Option.map_eq_some_iff.1 h
    obtain ⟨q1, q2, h1, h2, rfl⟩ := prun_append hq'
    exact ⟨(q1.1, (i, p.2.1, p.2.2) :: q1.2), q2, by simp [prun, hp, h1], h2, by simp⟩
theorem prun_append' {s : St} : ∀ {l m : List Nat} {q1 q2 : St × Tr}, prun T F k id md all l s = some q1 → prun T F k id md all m q1.1 = some q2 → prun T F k id md all (l ++ m) s = some (q2.1, q1.2 ++ q2.2)
  | [], m, q1, q2, h1, h2 => by
    simp only [prun, Option.some.injEq] at h1
    subst h1
    exact h2
  | i :: l, m, q1, q2, h1, h2 => by
    simp only [prun] at h1
    obtain ⟨p, hp, h1⟩ := Option.bind_eq_some_iff.1 h1
    obtain ⟨q', hq', rfl⟩ := Option.map_eq_some_iff.1 h1
    have := prun_append' hq' h2
    simp [prun, hp, this]
/-- The trace names the operations. -/
theorem prun_names {s : St} : ∀ {l : List Nat} {q : St × Tr}, prun T F k id md all l s = some q → q.2.map (·.1) = l
  | [], q, h => by simp only [prun, Option.some.injEq] at h; subst h; rfl
  | i :: l, q, h => by
    simp only [prun] at h
    obtain ⟨p, hp, h⟩ := Option.bind_eq_some_iff.1 h
    obtain ⟨q', hq', rfl⟩ := Option.map_eq_some_iff.1 h
    simp [prun_names hq']
/-- An operation behind others that are apart from it comes first. -/
theorem to_front {i : Nat} (hi : ∃ o, all[i]? = some o) : ∀ {l : List Nat} {s : St} {q1 : St × Tr} {p : St × List Nat × List Nat}, (∀ j ∈ l, ∃ o, all[j]? = some o) → prun T F k id md all l s = some q1 → pstep T F k id md all i q1.1 = some p → (∀ x ∈ q1.2, Apart all x (i, p.2.1, p.2.2)) →
    ∃ s0, pstep T F k id md all i s = some (s0, p.2.1, p.2.2) ∧ prun T F k id md all l s0 = some (p.1, q1.2)
  | [], s, q1, p, _, h1, h2, _ => by
    simp only [prun, Option.some.injEq] at h1
    subst h1
    exact ⟨p.1, h2, rfl⟩
  | j :: l, s, q1, p, hl, h1, h2, hap => by
    simp only [prun] at h1
    obtain ⟨p1, hp1, h1⟩ := Option.bind_eq_some_iff.1 h1
    obtain ⟨q', hq', rfl⟩ := Option.map_eq_some_iff.1 h1
    obtain ⟨s0, h3, h4⟩ := to_front hi (fun x hx => hl x (by simp [hx])) hq' h2 (fun x hx => hap x (by simp [hx]))
    obtain ⟨s3, h5, h6⟩ := swap (s := s) (s1 := p1.1) (s2 := s0) hp1 h3 (hap (j, p1.2.1, p1.2.2) (by simp)) (hl j (by simp)) hi
    exact ⟨s3, h5, by simp [prun, h6, h4]⟩
end

/-! ### Who comes before -/
def befStep (acc : List (List Nat)) (o : Oper) : List (List Nat) := acc ++ [((o.after.toList.filter fun e => Region.binds .any e).flatMap fun e => e.on :: acc.getD e.on []).eraseDups]
theorem befores_len : ∀ (ops : List Oper) (acc : List (List Nat)), (ops.foldl befStep acc).length = acc.length + ops.length
  | [], acc => by simp
  | o :: ops, acc => by simp only [List.foldl_cons]; rw [befores_len ops]; simp [befStep]; omega
theorem befores_keep : ∀ (ops : List Oper) (acc : List (List Nat)) (i : Nat), i < acc.length → (ops.foldl befStep acc).getD i [] = acc.getD i []
  | [], acc, i, _ => rfl
  | o :: ops, acc, i, hi => by
    simp only [List.foldl_cons]
    rw [befores_keep ops _ i (by simp [befStep]; omega)]
    unfold befStep
    rw [getD_left hi]
theorem befores_at : ∀ (ops : List Oper) (acc : List (List Nat)) (i : Nat) (o : Oper), ops[i]? = some o → ∃ acc' : List (List Nat), (ops.foldl befStep acc).getD (acc.length + i) [] = ((o.after.toList.filter fun e => Region.binds .any e).flatMap fun e => e.on :: acc'.getD e.on []).eraseDups ∧
      ∀ j, acc'.getD j [] = (ops.foldl befStep acc).getD j [] ∨ acc'.getD j [] = []
  | [], acc, i, o, h => by simp at h
  | o' :: ops, acc, i, o, h => by
    cases i with
    | zero =>
      simp at h; subst h
      refine ⟨acc, ?_, fun j => ?_⟩
      · simp only [List.foldl_cons, Nat.add_zero]
        rw [befores_keep ops _ acc.length (by simp [befStep])]
        unfold befStep
        rw [getD_right (by omega)]
        simp
      · by_cases hj : j < acc.length
        · left
          simp only [List.foldl_cons]
          rw [befores_keep ops _ j (by simp [befStep]; omega)]
          unfold befStep
          rw [getD_left hj]
        · right
          rw [List.getD_eq_getElem?_getD, List.getElem?_eq_none (by omega)]; rfl
    | succ i =>
      obtain ⟨acc', h1, h2⟩ := befores_at ops (befStep acc o') i o (by simpa using h)
      refine ⟨acc', ?_, h2⟩
      rw [← h1]
      simp only [List.foldl_cons]
      congr 1
      simp [befStep]; omega
theorem befores_spec {ops : List Oper} {i : Nat} {o : Oper} (hi : ops[i]? = some o) {x : Nat} (hx : x ∈ (befores ops).getD i []) : ∃ e, e ∈ o.after.toList ∧ Region.binds .any e = true ∧ (x = e.on ∨ x ∈ (befores ops).getD e.on []) := by
  obtain ⟨acc', h1, h2⟩ := befores_at ops [] i o hi
  have hb : befores ops = ops.foldl befStep [] := rfl
  rw [hb] at hx ⊢
  simp only [List.length_nil, Nat.zero_add] at h1
  rw [h1] at hx
  rw [List.mem_eraseDups] at hx
  obtain ⟨e, he, hxe⟩ := List.mem_flatMap.1 hx
  rw [List.mem_filter] at he
  refine ⟨e, he.1, he.2, ?_⟩
  rcases List.mem_cons.1 hxe with h | h
  · exact .inl h
  · rcases h2 e.on with h3 | h3
    · exact .inr (by rw [← h3]; exact h)
    · rw [h3] at h; simp at h

theorem backOK_spec : ∀ {ops : List Oper} {n : Nat}, backOK n ops = true → ∀ (i : Nat) (o : Oper), ops[i]? = some o → ∀ e, e ∈ o.after.toList → Region.binds .any e = true → e.on < n + i
  | [], n, _, i, o, h, _, _, _ => by simp at h
  | o' :: ops, n, hb, i, o, h, e, he, hbe => by
    simp only [backOK, Bool.and_eq_true] at hb
    cases i with
    | zero =>
      simp at h; subst h
      have := List.all_eq_true.1 hb.1 e he
      rw [hbe] at this
      simp only [Bool.not_true, Bool.false_or] at this
      have := Nat.le_of_ble_eq_true this
      omega
    | succ i =>
      have := backOK_spec hb.2 i o (by simpa using h) e he hbe
      omega
/-- Every two of the trace are ordered, or apart. -/
def Pairs (ops : List Oper) (tr : Tr) : Prop := ∀ x ∈ tr, ∀ y ∈ tr, x.1 < y.1 → x.1 ∈ (befores ops).getD y.1 [] ∨ Apart ops x y
theorem apartOK_spec {ops : List Oper} {tr : Tr} (h : apartOK ops tr = true) : backOK 0 ops = true ∧ Pairs ops tr := by
  unfold apartOK at h
  simp only [Bool.and_eq_true] at h
  refine ⟨h.1, fun x hx y hy hlt => ?_⟩
  have h1 := List.all_eq_true.1 (List.all_eq_true.1 h.2 y hy) x hx
  obtain ⟨i, ri, wi⟩ := x
  obtain ⟨j, rj, wj⟩ := y
  simp only [Bool.or_eq_true, Bool.not_eq_true'] at h1
  rcases h1 with (h1 | h1) | h1
  · have : Nat.blt i j = true := Nat.ble_eq_true_of_le hlt
    rw [this] at h1; cases h1
  · left
    obtain ⟨z, hz, hzi⟩ := List.any_eq_true.1 h1
    have := Nat.eq_of_beq_eq_true hzi
    subst this; exact hz
  · right
    intro oi oj hi hj
    simp only at hi hj
    rw [hi, hj] at h1
    simp only [Bool.and_eq_true] at h1
    obtain ⟨⟨⟨⟨⟨a1, a2⟩, a3⟩, a4⟩, a5⟩, a6⟩ := h1
    refine ⟨fun d hd => disj_iff.1 a1 d (by simp [hd]), fun d hd => disj_iff.1 a2 d (by simp [hd]), fun d hd he => disj_iff.1 a3 d (by simp [hd]) (by simp [he]), disj_iff.1 a4, disj_iff.1 a5, disj_iff.1 a6⟩

/-- What is not listed yet, in the text's order. -/
def left (n : Nat) (listed : Array Bool) : List Nat := (List.range n).filter fun i => !listed.getD i true
theorem filter_split {p : Nat → Bool} {i : Nat} : ∀ {l : List Nat}, l.Nodup → i ∈ l → ∃ l1 l2, l = l1 ++ i :: l2 ∧ l.filter (fun j => !(Nat.beq j i)) = l1 ++ l2 ∧ i ∉ l1
  | [], _, h => by simp at h
  | a :: l, hn, h => by
    rw [List.nodup_cons] at hn
    by_cases ha : a = i
    · subst ha
      refine ⟨[], l, rfl, ?_, by simp⟩
      simp only [List.nil_append]
      rw [List.filter_cons_of_neg (by simp)]
      exact List.filter_eq_self.2 fun b hb => by
        cases hbe : Nat.beq b a
        · rfl
        · have := Nat.eq_of_beq_eq_true hbe
          subst this; exact absurd hb hn.1
    · have hi : i ∈ l := by
        rcases List.mem_cons.1 h with h | h
        · exact absurd h.symm ha
        · exact h
      obtain ⟨l1, l2, h1, h2, h3⟩ := filter_split (p := p) hn.2 hi
      refine ⟨a :: l1, l2, by rw [h1]; rfl, ?_, ?_⟩
      · rw [List.filter_cons_of_pos (by
          cases hbe : Nat.beq a i
          · rfl
          · exact absurd (Nat.eq_of_beq_eq_true hbe) ha), h2]
        rfl
      · simp only [List.mem_cons, not_or]
        exact ⟨fun e => ha e.symm, h3⟩
section
variable {P : Program} {T : Nat → TyI} {U : Nat → Prop} {N : Nat} {γ : Nat → Value} {F : Nat → Nat → List AV → Option (List AV)}
theorem draw_wp (hT : TOK P T) (hE : EOK P T) (hF : ∀ g k args res, F g k args = some res → CallOK P T g args res) {ops : Array Oper} {k id : Nat} {md : Nat → Nat} (hd : ∀ (i : Nat) (o : Oper) n, ops[i]? = some o → o.dst = some n → n < N) (hback : backOK 0 ops.toList = true) {Q : Exit → Act → World → Prop} {send : St} :
    ∀ (fuel : Nat) (listed : Array Bool) (s : St) (a : Act) (w : World) (I : Nat → Prop) (φ : Nat → Option Value) (tr : Tr), listed.size = ops.size → RelS T U N γ w I φ s a → prun T F k id md ops.toList (left ops.size listed) s = some (send, tr) → Pairs ops.toList tr →
      (∀ j x, listed.getD j true = true → j < ops.size → x ∈ (befores ops.toList).getD j [] → listed.getD x false = true) → (left ops.size listed).length ≤ fuel →
      (∀ a' w' I' φ', RelS T U N γ w' I' φ' send a' → Ext U w I φ w' I' φ' → Q .normal a' w') → wpAny P .any ops Q fuel listed a w := by
  have hnil : ∀ (listed : Array Bool), listed.size = ops.size → Region.ready .any ops listed = [] → left ops.size listed = [] := by
    intro listed hsz hr
    cases hl : left ops.size listed with
    | nil => rfl
    | cons i l =>
      exfalso
      have hi : i ∈ left ops.size listed := by rw [hl]; simp
      have hmem := List.mem_filter.1 hi
      have hin : i < ops.size := List.mem_range.1 hmem.1
      have hrd : i ∈ Region.ready .any ops listed := by
        rw [mem_ready]
        refine ⟨by simpa using hmem.2, ops[i], Array.getElem?_eq_getElem hin, fun e he hb => ?_⟩
        have hlt := backOK_spec hback i ops[i] (by rw [Array.getElem?_toList]; exact Array.getElem?_eq_getElem hin) e (by simpa using he) hb
        simp only [Nat.zero_add] at hlt
        cases hle : listed.getD e.on false
        · exfalso
          have hes : e.on < listed.size := by omega
          have : listed.getD e.on true = false := by
            rw [Array.getD_eq_getD_getElem?, Array.getElem?_eq_getElem hes] at hle ⊢
            exact hle
          have hme : e.on ∈ left ops.size listed := List.mem_filter.2 ⟨List.mem_range.2 (by omega), by rw [this]; rfl⟩
          -- the head is the least
          have hsorted : (left ops.size listed).Pairwise (· < ·) := List.Pairwise.sublist List.filter_sublist List.pairwise_lt_range
          rw [hl] at hsorted hme
          rcases List.mem_cons.1 hme with h | h
          · omega
          · have := (List.pairwise_cons.1 hsorted).1 e.on h
            omega
        · rfl
      rw [hr] at hrd
      simp at hrd
  intro fuel
  induction fuel with
  | zero =>
    intro listed s a w I φ tr hsz hs hp hpr hcl hlen hQ
    have hl : left ops.size listed = [] := List.eq_nil_of_length_eq_zero (by omega)
    rw [hl] at hp
    simp only [prun, Option.some.injEq, Prod.mk.injEq] at hp
    obtain ⟨rfl, rfl⟩ := hp
    refine ⟨?_, hQ a w I φ hs .refl⟩
    cases hr : Region.ready .any ops listed with
    | nil => rfl
    | cons i r =>
      exfalso
      have hi : i ∈ Region.ready .any ops listed := by rw [hr]; simp
      rw [mem_ready] at hi
      obtain ⟨h0, o, ho, _⟩ := hi
      have : i ∈ left ops.size listed := List.mem_filter.2 ⟨List.mem_range.2 (Array.getElem?_eq_some_iff.1 ho).1, by rw [h0]; rfl⟩
      rw [hl] at this; simp at this
  | succ fuel ih =>
    intro listed s a w I φ tr hsz hs hp hpr hcl hlen hQ
    refine ⟨fun hr => ?_, fun i hi => ?_⟩
    · rw [hnil listed hsz hr] at hp
      simp only [prun, Option.some.injEq, Prod.mk.injEq] at hp
      obtain ⟨rfl, rfl⟩ := hp
      exact hQ a w I φ hs .refl
    · rw [mem_ready] at hi
      obtain ⟨h0, o, ho, hall⟩ := hi
      have hin : i < ops.size := (Array.getElem?_eq_some_iff.1 ho).1
      have hol : ops.toList[i]? = some o := by rw [Array.getElem?_toList]; exact ho
      have hmem : i ∈ left ops.size listed := List.mem_filter.2 ⟨List.mem_range.2 hin, by rw [h0]; rfl⟩
      have hnd : (left ops.size listed).Nodup := List.Nodup.sublist List.filter_sublist List.nodup_range
      obtain ⟨l1, l2, hl, hfil, hni⟩ := filter_split (p := fun _ => true) hnd hmem
      rw [hl] at hp
      obtain ⟨q1, q2, hq1, hq2, hqe⟩ := prun_append hp
      simp only [Prod.mk.injEq] at hqe
      obtain ⟨hse, hte⟩ := hqe
      simp only [prun] at hq2
      obtain ⟨p, hpp, hq2⟩ := Option.bind_eq_some_iff.1 hq2
      obtain ⟨q3, hq3, hq3e⟩ := Option.map_eq_some_iff.1 hq2
      subst hq3e
      have hsorted : (left ops.size listed).Pairwise (· < ·) := List.Pairwise.sublist List.filter_sublist List.pairwise_lt_range
      rw [hl] at hsorted
      have hn1 := prun_names hq1
      have hlt1 : ∀ x ∈ q1.2, x.1 < i ∧ x.1 ∈ l1 := by
        intro x hx
        have : x.1 ∈ l1 := by rw [← hn1]; exact List.mem_map.2 ⟨x, hx, rfl⟩
        exact ⟨(List.pairwise_append.1 hsorted).2.2 x.1 this i (by simp), this⟩
      have hap : ∀ x ∈ q1.2, Apart ops.toList x (i, p.2.1, p.2.2) := by
        intro x hx
        obtain ⟨hlt, hxl⟩ := hlt1 x hx
        rcases hpr x (by rw [hte]; simp [hx]) (i, p.2.1, p.2.2) (by rw [hte]; simp) hlt with h | h
        · exfalso
          obtain ⟨e, he, hbe, hor⟩ := befores_spec hol h
          have heon := hall e (by simpa using he) hbe
          have hxm : x.1 ∈ left ops.size listed := by rw [hl]; simp [hxl]
          have hx0 : listed.getD x.1 true = false := by simpa using (List.mem_filter.1 hxm).2
          have hxs : x.1 < listed.size := by
            have := List.mem_range.1 (List.mem_filter.1 hxm).1
            omega
          have hx1 : listed.getD x.1 false = true := by
            rcases hor with hxe | hxe
            · rw [hxe]; exact heon
            · have hes : e.on < listed.size := by
                rcases Nat.lt_or_ge e.on listed.size with h | h
                · exact h
                · rw [Array.getD_eq_getD_getElem?, Array.getElem?_eq_none h] at heon
                  simp at heon
              refine hcl e.on x.1 ?_ (by omega) hxe
              rw [Array.getD_eq_getD_getElem?, Array.getElem?_eq_getElem hes] at heon ⊢
              exact heon
          rw [Array.getD_eq_getD_getElem?, Array.getElem?_eq_getElem hxs] at hx0 hx1
          simp at hx0 hx1
          rw [hx0] at hx1; cases hx1
        · exact h
      obtain ⟨s0, hs0, hrun⟩ := to_front ⟨o, hol⟩ (fun j hj => by
        have hjm : j ∈ left ops.size listed := by rw [hl]; simp [hj]
        have hjn := List.mem_range.1 (List.mem_filter.1 hjm).1
        exact ⟨ops[j], by rw [Array.getElem?_toList]; exact Array.getElem?_eq_getElem hjn⟩) hq1 hpp hap
      have hrest := prun_append' hrun hq3
      have hset : ∀ j d, (listed.setIfInBounds i true).getD j d = if j = i then true else listed.getD j d := by
        intro j d
        by_cases hj : j = i
        · subst hj
          rw [if_pos rfl, Array.getD_eq_getD_getElem?, Array.getElem?_setIfInBounds_self_of_lt (by omega)]; rfl
        · rw [if_neg hj]; exact getD_set_ne d (fun e => hj e.symm)
      have hleft : left ops.size (listed.setIfInBounds i true) = l1 ++ l2 := by
        rw [← hfil]
        unfold left
        rw [List.filter_filter]
        congr 1
        funext j
        rw [hset]
        by_cases hj : j = i
        · subst hj; simp
        · rw [if_neg hj]
          have : Nat.beq j i = false := by
            cases hb : Nat.beq j i
            · rfl
            · exact absurd (Nat.eq_of_beq_eq_true hb) hj
          rw [this]; simp
      refine pstep_wp hT hE hF hs hd hs0 (fun a' w' I' φ' hs' x => ?_)
      refine ih (listed.setIfInBounds i true) s0 a' w' I' φ' (q1.2 ++ q3.2) (by simpa using hsz) hs' (by rw [hleft, hrest, ← hse]) (fun x hx y hy => hpr x ?_ y ?_) (fun j x hj hjn hx => ?_) ?_ (fun a2 w2 I2 φ2 h2 x2 => hQ a2 w2 I2 φ2 h2 (x.trans x2))
      · rw [hte]; rcases List.mem_append.1 hx with h | h <;> simp [h]
      · rw [hte]; rcases List.mem_append.1 hy with h | h <;> simp [h]
      · rw [hset] at hj ⊢
        by_cases hxi : x = i
        · rw [if_pos hxi]
        · rw [if_neg hxi]
          by_cases hji : j = i
          · subst hji
            obtain ⟨e, he, hbe, hor⟩ := befores_spec hol hx
            have heon := hall e (by simpa using he) hbe
            rcases hor with hxe | hxe
            · rw [hxe]; exact heon
            · have hes : e.on < listed.size := by
                rcases Nat.lt_or_ge e.on listed.size with h | h
                · exact h
                · rw [Array.getD_eq_getD_getElem?, Array.getElem?_eq_none h] at heon
                  simp at heon
              refine hcl e.on x ?_ (by omega) hxe
              rw [Array.getD_eq_getD_getElem?, Array.getElem?_eq_getElem hes] at heon ⊢
              exact heon
          · rw [if_neg hji] at hj
            exact hcl j x hj hjn hx
      · rw [hleft]
        rw [hl] at hlen
        simp at hlen ⊢
        omega
/-- A region. -/
theorem region_wp (hT : TOK P T) (hE : EOK P T) (hF : ∀ g k args res, F g k args = some res → CallOK P T g args res) (hmx : P.follows .mixedOrders = true) {ops : Array Oper} {draw : Bool} {k id id0 : Nat} {md : Nat → Nat} (hd : ∀ (i : Nat) (o : Oper) n, ops[i]? = some o → o.dst = some n → n < N) {s send : St} {a : Act} {w : World} {I : Nat → Prop} {φ : Nat → Option Value} (hs : RelS T U N γ w I φ s a) {tr : Tr}
    (hp : prun T F k id md ops.toList (List.range ops.size) s = some (send, tr)) (hap : draw = true → apartOK ops.toList tr = true) {Q : Exit → Act → World → Prop} (hQ : ∀ a' w' I' φ', RelS T U N γ w' I' φ' send a' → Ext U w I φ w' I' φ' → Q .normal a' w') : (Code.region id0 ops draw).wp P Q a w := by
  cases draw with
  | false => exact wp_region (prun_wp hT hE hF hd _ hs hp hQ)
  | true =>
    obtain ⟨hback, hpairs⟩ := apartOK_spec (hap rfl)
    have hg : w.grownBy { w with drawn := w.drawn + 1 } none := ⟨rfl, rfl, rfl, Nat.le_refl _, fun _ _ _ => rfl⟩
    obtain ⟨m, x⟩ := hs.mem.grow hg (fun b hb => by cases hb)
    have hs' : RelS T U N γ { w with drawn := w.drawn + 1 } I φ s a := ⟨fun i => (hs.tm i).ext x, m, hs.sz, hs.df, hs.le, hs.fx.ext x⟩
    have hl : left ops.size (Array.replicate ops.size false) = List.range ops.size := by
      unfold left
      refine List.filter_eq_self.2 fun i hi => ?_
      have := List.mem_range.1 hi
      simp [Array.getD_eq_getD_getElem?, this]
    refine wp_region_any hmx (draw_wp hT hE hF hd hback ops.size _ s a _ I φ tr (by simp) hs' (by rw [hl]; exact hp) hpairs (fun j x hj hjn => ?_) (by rw [hl]; simp) (fun a' w' I' φ' h' x' => hQ a' w' I' φ' h' (x.trans x')))
    simp [Array.getD_eq_getD_getElem?, hjn] at hj
end
end Go.Sx
