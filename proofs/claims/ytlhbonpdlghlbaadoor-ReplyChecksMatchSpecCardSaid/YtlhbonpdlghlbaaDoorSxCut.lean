/- Cuts: what is handed on through one stands for the same memory. -/
import Derived.Test.YtlhbonpdlghlbaaDoorSxDraw
set_option linter.unusedVariables false
set_option linter.unusedSimpArgs false
namespace Go.Sx
open Go.RowKit
def Sub (a b : Asg) : Prop := ∀ j x, asgOf a j = some x → asgOf b j = some x
def Inj (a : Asg) : Prop := ∀ j j' p, asgOf a j = some (some p) → asgOf a j' = some (some p) → j = j'
theorem Sub.refl (a : Asg) : Sub a a := fun _ _ h => h
theorem Sub.trans {a b c : Asg} (h : Sub a b) (k : Sub b c) : Sub a c := fun j x hx => k j x (h j x hx)
theorem asgOf_mem : ∀ {a : Asg} {j : Nat} {x : Option Nat}, asgOf a j = some x → (j, x) ∈ a
  | [], j, x, h => by simp [asgOf] at h
  | (i, y) :: a, j, x, h => by
    simp only [asgOf] at h
    cases hb : Nat.beq i j <;> rw [hb] at h <;> simp only [cond_true, cond_false, Option.some.injEq] at h
    · exact List.mem_cons_of_mem _ (asgOf_mem h)
    · have := Nat.eq_of_beq_eq_true hb
      subst this; subst h; simp
theorem asgOf_cons {a : Asg} {j : Nat} {x : Option Nat} (h : asgOf a j = none) : Sub a ((j, x) :: a) ∧ asgOf ((j, x) :: a) j = some x := by
  refine ⟨fun i y hy => ?_, by simp [asgOf]⟩
  simp only [asgOf]
  cases hb : Nat.beq j i
  · exact hy
  · have := Nat.eq_of_beq_eq_true hb
    subst this
    rw [h] at hy; cases hy
theorem bindId_spec {a a' : Asg} {j : Nat} {x : Option Nat} (h : bindId a j x = some a') : Sub a a' ∧ asgOf a' j = some x ∧ (Inj a → Inj a') := by
  unfold bindId at h
  split at h
  · rename_i y hy
    split at h
    · rename_i p q
      cases hb : Nat.beq p q <;> rw [hb] at h <;> simp only [cond_true, cond_false] at h
      · cases h
      · have := Nat.eq_of_beq_eq_true hb
        subst this
        obtain rfl := Option.some.inj h
        exact ⟨.refl _, hy, fun h => h⟩
    · obtain rfl := Option.some.inj h
      exact ⟨.refl _, hy, fun h => h⟩
    · cases h
  · rename_i hn
    split at h
    · obtain rfl := Option.some.inj h
      obtain ⟨h1, h2⟩ := asgOf_cons (x := none) hn
      refine ⟨h1, h2, fun hi i i' p hp hp' => ?_⟩
      have back : ∀ k, asgOf ((j, none) :: a) k = some (some p) → asgOf a k = some (some p) := by
        intro k hk
        simp only [asgOf] at hk
        cases hb : Nat.beq j k <;> rw [hb] at hk <;> simp only [cond_true, cond_false] at hk
        · exact hk
        · cases hk
      exact hi i i' p (back i hp) (back i' hp')
    · rename_i p
      cases hany : a.any (isId p) <;> rw [hany] at h <;> simp only [cond_true, cond_false] at h
      · obtain rfl := Option.some.inj h
        obtain ⟨h1, h2⟩ := asgOf_cons (x := some p) hn
        refine ⟨h1, h2, fun hi i i' q hp hp' => ?_⟩
        have back : ∀ k, asgOf ((j, some p) :: a) k = some (some q) → (k = j ∧ q = p) ∨ (asgOf a k = some (some q) ∧ q ≠ p) := by
          intro k hk
          simp only [asgOf] at hk
          cases hb : Nat.beq j k <;> rw [hb] at hk <;> simp only [cond_true, cond_false, Option.some.injEq] at hk
          · refine .inr ⟨hk, fun e => ?_⟩
            subst e
            have := List.any_eq_false.1 hany _ (asgOf_mem hk)
            simp [isId] at this
          · exact .inl ⟨(Nat.eq_of_beq_eq_true hb).symm, hk.symm⟩
        rcases back i hp with ⟨rfl, hq⟩ | ⟨h3, hq⟩ <;> rcases back i' hp' with ⟨rfl, hq'⟩ | ⟨h3', hq'⟩
        · rfl
        · exact absurd hq hq'
        · exact absurd hq' hq
        · exact hi i i' q h3 h3'
      · cases h

theorem gt_at {pre post : List D} {d : D} : gt (pre ++ d :: post) pre.length = d := by
  simp [gt, List.getD_eq_getElem?_getD]
theorem gt_at' {pre post : List D} {d : D} {n : Nat} (hn : n = pre.length) : gt (pre ++ d :: post) n = d := by
  subst hn; exact gt_at

section
variable {T : Nat → TyI} {w : World} {I : Nat → Prop} {φ : Nat → Option Value}
/-- What the numbers of a cut stand for. -/
def φA (φ : Nat → Option Value) (A : Asg) : Nat → Option Value := fun n => if n % 2 = 1 then none else
  match asgOf A (n / 2) with
  | some (some id) => φ id
  | some none => some (.slice none 0 0)
  | none => none
theorem φA_even {A : Asg} {j id : Nat} (h : asgOf A j = some (some id)) : φA φ A (2 * j) = φ id := by
  unfold φA
  rw [if_neg (by omega), show 2 * j / 2 = j by omega, h]
theorem φA_nil {A : Asg} {j : Nat} (h : asgOf A j = some none) : φA φ A (2 * j) = some (.slice none 0 0) := by
  unfold φA
  rw [if_neg (by omega), show 2 * j / 2 = j by omega, h]

theorem pkP_sound {A : Asg} : ∀ {l : List (Nat × Nat)} {vs : List AV} {xs : List Value} {a a' : Asg}, pkP l vs a = some a' → All2 (RelP φ) vs xs → Sub a a' ∧ (Inj a → Inj a') ∧ (Sub a' A → All2 (RelP (φA φ A)) (l.map fun p => .ptr (2 * p.1) p.2) xs)
  | [], [], xs, a, a', h, hr => by
    simp only [pkP, Option.some.injEq] at h
    subst h
    cases hr
    exact ⟨.refl _, fun h => h, fun _ => .nil⟩
  | p :: l, .ptr id off :: vs, xs, a, a', h, hr => by
    simp only [pkP] at h
    cases hb : Nat.beq p.2 off <;> rw [hb] at h <;> simp only [cond_true, cond_false] at h
    · cases h
    · have hoff := Nat.eq_of_beq_eq_true hb
      split at h
      · rename_i a1 ha1
        obtain ⟨h1, h2, h3⟩ := bindId_spec ha1
        cases hr with
        | cons hr1 hr2 =>
          obtain ⟨h4, h5, h6⟩ := pkP_sound h hr2
          refine ⟨h1.trans h4, fun hi => h5 (h3 hi), fun hA => .cons ?_ (h6 hA)⟩
          obtain ⟨b, hb1, hb2⟩ := hr1
          exact ⟨b, by rw [φA_even (hA _ _ (h4 _ _ h2))]; exact hb1, by rw [hoff]; exact hb2⟩
      · cases h
  | [], _ :: _, _, _, _, h, _ => by simp [pkP] at h
  | _ :: _, [], _, _, _, h, _ => by simp [pkP] at h
  | _ :: _, .undef :: _, _, _, _, h, _ => by simp [pkP] at h
  | _ :: _, .int _ _ :: _, _, _, _, h, _ => by simp [pkP] at h
  | _ :: _, .bool _ :: _, _, _, _, h, _ => by simp [pkP] at h
  | _ :: _, .tb _ _ :: _, _, _, _, h, _ => by simp [pkP] at h
  | _ :: _, .str _ :: _, _, _, _, h, _ => by simp [pkP] at h
  | _ :: _, .srow _ _ :: _, _, _, _, h, _ => by simp [pkP] at h
  | _ :: _, .frow _ _ :: _, _, _, _, h, _ => by simp [pkP] at h
  | _ :: _, .nilsl :: _, _, _, _, h, _ => by simp [pkP] at h
  | _ :: _, .esl :: _, _, _, _, h, _ => by simp [pkP] at h
  | _ :: _, .orow _ :: _, _, _, _, h, _ => by simp [pkP] at h
  | _ :: _, .eptr _ _ _ _ :: _, _, _, _, h, _ => by simp [pkP] at h
  | _ :: _, .sptr _ _ _ :: _, _, _, _, h, _ => by simp [pkP] at h
  | _ :: _, .nptr _ _ :: _, _, _, _, h, _ => by simp [pkP] at h
  | _ :: _, .nilptr :: _, _, _, _, h, _ => by simp [pkP] at h
  | _ :: _, .clo _ _ :: _, _, _, _, h, _ => by simp [pkP] at h
  | _ :: _, .nilfn :: _, _, _, _, h, _ => by simp [pkP] at h
  | _ :: _, .mapr _ :: _, _, _, _, h, _ => by simp [pkP] at h
  | _ :: _, .nilmap :: _, _, _, _, h, _ => by simp [pkP] at h
  | _ :: _, .agg _ :: _, _, _, _, h, _ => by simp [pkP] at h
  | _ :: _, .tup _ :: _, _, _, _, h, _ => by simp [pkP] at h
  | _ :: _, .own _ _ :: _, _, _, _, h, _ => by simp [pkP] at h
  | _ :: _, .box _ _ :: _, _, _, _, h, _ => by simp [pkP] at h

/-- One cell through a cut. -/
theorem pkV_C {A : Asg} {s : Sh} {v : AV} {x : Value} {a a' : Asg} {ds : List D} (h : pkV s v a = some (a', ds)) (hr : RelC T w I φ v x) :
    Sub a a' ∧ (Inj a → Inj a') ∧ (Sub a' A → ∀ pre post, RelC T w I (φA φ A) (unV s (pre ++ ds ++ post) pre.length).1 x ∧ (unV s (pre ++ ds ++ post) pre.length).2 = pre.length + ds.length) := by
  unfold pkV at h
  split at h
  · simp only [Option.some.injEq, Prod.mk.injEq] at h
    obtain ⟨rfl, rfl⟩ := h
    exact ⟨.refl _, fun h => h, fun _ pre post => ⟨trivial, rfl⟩⟩
  · rename_i k k' n
    cases hk : decide (k = k') <;> rw [hk] at h <;> simp only [cond_true, cond_false] at h
    · cases h
    · have := of_decide_eq_true hk
      subst this
      simp only [Option.some.injEq, Prod.mk.injEq] at h
      obtain ⟨rfl, rfl⟩ := h
      refine ⟨.refl _, fun h => h, fun _ pre post => ⟨?_, rfl⟩⟩
      simp only [unV, List.append_assoc, List.singleton_append, gt_at]
      exact hr
  · simp only [Option.some.injEq, Prod.mk.injEq] at h
    obtain ⟨rfl, rfl⟩ := h
    refine ⟨.refl _, fun h => h, fun _ pre post => ⟨?_, rfl⟩⟩
    simp only [unV, List.append_assoc, List.singleton_append, gt_at]
    exact hr
  · simp only [Option.some.injEq, Prod.mk.injEq] at h
    obtain ⟨rfl, rfl⟩ := h
    refine ⟨.refl _, fun h => h, fun _ pre post => ⟨?_, rfl⟩⟩
    simp only [unV, List.append_assoc, List.singleton_append, gt_at]
    exact hr
  · rename_i e e' l
    cases hk : Nat.beq e e' <;> rw [hk] at h <;> simp only [cond_true, cond_false] at h
    · cases h
    · have := Nat.eq_of_beq_eq_true hk
      subst this
      simp only [Option.some.injEq, Prod.mk.injEq] at h
      obtain ⟨rfl, rfl⟩ := h
      refine ⟨.refl _, fun h => h, fun _ pre post => ⟨?_, rfl⟩⟩
      simp only [unV, List.append_assoc, List.singleton_append, gt_at]
      exact hr
  · rename_i e e' l
    cases hk : Nat.beq e e' <;> rw [hk] at h <;> simp only [cond_true, cond_false] at h
    · cases h
    · have := Nat.eq_of_beq_eq_true hk
      subst this
      simp only [Option.some.injEq, Prod.mk.injEq] at h
      obtain ⟨rfl, rfl⟩ := h
      refine ⟨.refl _, fun h => h, fun _ pre post => ⟨?_, rfl⟩⟩
      simp only [unV, List.append_assoc, List.singleton_append, gt_at]
      exact hr.1
  · simp only [Option.some.injEq, Prod.mk.injEq] at h
    obtain ⟨rfl, rfl⟩ := h
    refine ⟨.refl _, fun h => h, fun _ pre post => ⟨?_, rfl⟩⟩
    simp only [unV, List.append_assoc, List.singleton_append, gt_at]
    obtain rfl : x = .slice none 0 0 := hr
    exact .nil _ _ _ _ rfl
  · simp only [Option.some.injEq, Prod.mk.injEq] at h
    obtain ⟨rfl, rfl⟩ := h
    refine ⟨.refl _, fun h => h, fun _ pre post => ⟨?_, rfl⟩⟩
    simp only [unV, List.append_assoc, List.singleton_append, gt_at]
    obtain ⟨ad, rfl⟩ := hr
    exact .nil _ _ _ _ rfl
  · simp only [Option.some.injEq, Prod.mk.injEq] at h
    obtain ⟨rfl, rfl⟩ := h
    exact ⟨.refl _, fun h => h, fun _ pre post => ⟨hr, rfl⟩⟩
  · obtain ⟨a1, ha1, he⟩ := Option.map_eq_some_iff.1 h
    simp only [Prod.mk.injEq] at he
    obtain ⟨rfl, rfl⟩ := he
    obtain ⟨h1, h2, h3⟩ := bindId_spec ha1
    exact ⟨h1, h3, fun hA pre post => ⟨⟨by rw [φA_even (hA _ _ h2)]; exact hr.1, hr.2⟩, rfl⟩⟩
  · obtain ⟨a1, ha1, he⟩ := Option.map_eq_some_iff.1 h
    simp only [Prod.mk.injEq] at he
    obtain ⟨rfl, rfl⟩ := he
    obtain ⟨h1, h2, h3⟩ := bindId_spec ha1
    obtain rfl : x = .slice none 0 0 := hr
    exact ⟨h1, h3, fun hA pre post => ⟨⟨φA_nil (hA _ _ h2), _, _, _, rfl⟩, rfl⟩⟩
  · rename_i j off id off'
    cases hk : Nat.beq off off' <;> rw [hk] at h <;> simp only [cond_true, cond_false] at h
    · cases h
    · have := Nat.eq_of_beq_eq_true hk
      subst this
      obtain ⟨a1, ha1, he⟩ := Option.map_eq_some_iff.1 h
      simp only [Prod.mk.injEq] at he
      obtain ⟨rfl, rfl⟩ := he
      obtain ⟨h1, h2, h3⟩ := bindId_spec ha1
      obtain ⟨b, hb1, hb2⟩ := hr
      exact ⟨h1, h3, fun hA pre post => ⟨⟨b, by rw [φA_even (hA _ _ h2)]; exact hb1, hb2⟩, rfl⟩⟩
  · simp only [Option.some.injEq, Prod.mk.injEq] at h
    obtain ⟨rfl, rfl⟩ := h
    exact ⟨.refl _, fun h => h, fun _ pre post => ⟨hr, rfl⟩⟩
  · obtain ⟨a1, ha1, he⟩ := Option.map_eq_some_iff.1 h
    simp only [Prod.mk.injEq] at he
    obtain ⟨rfl, rfl⟩ := he
    obtain ⟨h1, h2, h3⟩ := bindId_spec ha1
    exact ⟨h1, h3, fun hA pre post => ⟨⟨by rw [φA_even (hA _ _ h2)]; exact hr.1, hr.2⟩, rfl⟩⟩
  · exact hr.elim
  · rename_i f l f' l'
    cases hk : Nat.beq f f' <;> rw [hk] at h <;> simp only [cond_true, cond_false] at h
    · cases h
    · have := Nat.eq_of_beq_eq_true hk
      subst this
      obtain ⟨a1, ha1, he⟩ := Option.map_eq_some_iff.1 h
      simp only [Prod.mk.injEq] at he
      obtain ⟨rfl, rfl⟩ := he
      obtain ⟨cs, hcs, hall⟩ := hr
      obtain ⟨h1, h2, h3⟩ := pkP_sound (A := A) ha1 hall
      exact ⟨h1, h2, fun hA pre post => ⟨⟨cs, hcs, h3 hA⟩, rfl⟩⟩
  · rename_i e e' d
    cases hk : Nat.beq e e' <;> rw [hk] at h <;> simp only [cond_true, cond_false] at h
    · cases h
    · have := Nat.eq_of_beq_eq_true hk
      subst this
      simp only [Option.some.injEq, Prod.mk.injEq] at h
      obtain ⟨rfl, rfl⟩ := h
      refine ⟨.refl _, fun h => h, fun _ pre post => ⟨?_, rfl⟩⟩
      simp only [unV, List.append_assoc, List.singleton_append, gt_at]
      exact hr
  · simp only [Option.some.injEq, Prod.mk.injEq] at h
    obtain ⟨rfl, rfl⟩ := h
    refine ⟨.refl _, fun h => h, fun _ pre post => ⟨?_, rfl⟩⟩
    simp only [unV, List.append_assoc, List.singleton_append, gt_at]
    exact .inl ⟨rfl, hr⟩
  · cases h
theorem pkL_C {A : Asg} : ∀ {l : List Sh} {vs : List AV} {xs : List Value} {a a' : Asg} {ds : List D} (_ : pkL l vs a = some (a', ds)) (_ : All2 (RelC T w I φ) vs xs),
    Sub a a' ∧ (Inj a → Inj a') ∧ (Sub a' A → ∀ pre post, All2 (RelC T w I (φA φ A)) (unL l (pre ++ ds ++ post) pre.length).1 xs ∧ (unL l (pre ++ ds ++ post) pre.length).2 = pre.length + ds.length)
  | [], [], xs, a, a', ds, h, hr => by
    simp only [pkL, Option.some.injEq, Prod.mk.injEq] at h
    obtain ⟨rfl, rfl⟩ := h
    cases hr
    exact ⟨.refl _, fun h => h, fun _ pre post => ⟨.nil, rfl⟩⟩
  | s :: l, v :: vs, xs, a, a', ds, h, hr => by
    simp only [pkL] at h
    split at h
    · rename_i a1 d1 h1
      split at h
      · rename_i a2 d2 h2
        simp only [Option.some.injEq, Prod.mk.injEq] at h
        obtain ⟨rfl, rfl⟩ := h
        cases hr with
        | cons hr1 hr2 =>
          obtain ⟨g1, g2, g3⟩ := pkV_C (A := A) h1 hr1
          obtain ⟨k1, k2, k3⟩ := pkL_C (A := A) h2 hr2
          refine ⟨g1.trans k1, fun hi => k2 (g2 hi), fun hA pre post => ?_⟩
          obtain ⟨e1, e2⟩ := g3 (k1.trans hA) pre (d2 ++ post)
          obtain ⟨f1, f2⟩ := k3 hA (pre ++ d1) post
          have hpp : pre ++ d1 ++ (d2 ++ post) = pre ++ (d1 ++ d2) ++ post := by simp
          have hpp2 : pre ++ d1 ++ d2 ++ post = pre ++ (d1 ++ d2) ++ post := by simp
          rw [hpp] at e1 e2
          rw [hpp2] at f1 f2
          simp only [unL]
          rw [e2, ← List.length_append]
          exact ⟨.cons e1 f1, by rw [f2]; simp [Nat.add_assoc]⟩
      · cases h
    · cases h
  | [], _ :: _, _, _, _, _, h, _ => by simp [pkL] at h
  | _ :: _, [], _, _, _, _, h, _ => by simp [pkL] at h

/-- A temporary's value through a cut. -/
theorem pkV_A {A : Asg} {s : Sh} {v : AV} {x : Value} {a a' : Asg} {ds : List D} (h : pkV s v a = some (a', ds)) (hr : RelV T w I φ v x) :
    Sub a a' ∧ (Inj a → Inj a') ∧ (Sub a' A → ∀ pre post, RelV T w I (φA φ A) (unV s (pre ++ ds ++ post) pre.length).1 x ∧ (unV s (pre ++ ds ++ post) pre.length).2 = pre.length + ds.length) := by
  by_cases hagg : ∃ l, v = .agg l
  · obtain ⟨l', rfl⟩ := hagg
    cases s <;> simp only [pkV, reduceCtorEq] at h
    case undef =>
      simp only [Option.some.injEq, Prod.mk.injEq] at h
      obtain ⟨rfl, rfl⟩ := h
      exact ⟨.refl _, fun h => h, fun _ pre post => ⟨.of_C trivial, rfl⟩⟩
    case agg l =>
      obtain ⟨cs, rfl, hcs⟩ := hr
      obtain ⟨h1, h2, h3⟩ := pkL_C (A := A) h hcs
      exact ⟨h1, h2, fun hA pre post => ⟨⟨cs, rfl, (h3 hA pre post).1⟩, (h3 hA pre post).2⟩⟩
  · by_cases htup : ∃ l, v = .tup l
    · obtain ⟨l', rfl⟩ := htup
      cases s <;> simp only [pkV, reduceCtorEq] at h
      simp only [Option.some.injEq, Prod.mk.injEq] at h
      obtain ⟨rfl, rfl⟩ := h
      exact ⟨.refl _, fun h => h, fun _ pre post => ⟨.of_C trivial, rfl⟩⟩
    · have hC : RelC T w I φ v x := by
        have hA := relA_of_V hr (fun l e => htup ⟨l, e⟩)
        unfold RelA at hA
        split at hA
        · exact absurd ⟨_, rfl⟩ hagg
        · exact hA
      obtain ⟨h1, h2, h3⟩ := pkV_C (A := A) h hC
      exact ⟨h1, h2, fun hA pre post => ⟨.of_C (h3 hA pre post).1, (h3 hA pre post).2⟩⟩
theorem pkL_A {A : Asg} : ∀ {l : List Sh} {vs : List AV} {xs : List Value} {a a' : Asg} {ds : List D} (_ : pkL l vs a = some (a', ds)) (_ : All2 (RelV T w I φ) vs xs),
    Sub a a' ∧ (Inj a → Inj a') ∧ (Sub a' A → ∀ pre post, All2 (RelV T w I (φA φ A)) (unL l (pre ++ ds ++ post) pre.length).1 xs ∧ (unL l (pre ++ ds ++ post) pre.length).2 = pre.length + ds.length)
  | [], [], xs, a, a', ds, h, hr => by
    simp only [pkL, Option.some.injEq, Prod.mk.injEq] at h
    obtain ⟨rfl, rfl⟩ := h
    cases hr
    exact ⟨.refl _, fun h => h, fun _ pre post => ⟨.nil, rfl⟩⟩
  | s :: l, v :: vs, xs, a, a', ds, h, hr => by
    simp only [pkL] at h
    split at h
    · rename_i a1 d1 h1
      split at h
      · rename_i a2 d2 h2
        simp only [Option.some.injEq, Prod.mk.injEq] at h
        obtain ⟨rfl, rfl⟩ := h
        cases hr with
        | cons hr1 hr2 =>
          obtain ⟨g1, g2, g3⟩ := pkV_A (A := A) h1 hr1
          obtain ⟨k1, k2, k3⟩ := pkL_A (A := A) h2 hr2
          refine ⟨g1.trans k1, fun hi => k2 (g2 hi), fun hA pre post => ?_⟩
          obtain ⟨e1, e2⟩ := g3 (k1.trans hA) pre (d2 ++ post)
          obtain ⟨f1, f2⟩ := k3 hA (pre ++ d1) post
          have hpp : pre ++ d1 ++ (d2 ++ post) = pre ++ (d1 ++ d2) ++ post := by simp
          have hpp2 : pre ++ d1 ++ d2 ++ post = pre ++ (d1 ++ d2) ++ post := by simp
          rw [hpp] at e1 e2
          rw [hpp2] at f1 f2
          simp only [unL]
          rw [e2, ← List.length_append]
          exact ⟨.cons e1 f1, by rw [f2]; simp [Nat.add_assoc]⟩
      · cases h
    · cases h
  | [], _ :: _, _, _, _, _, h, _ => by simp [pkL] at h
  | _ :: _, [], _, _, _, _, h, _ => by simp [pkL] at h

/-- The entry of an object: it is what stood under the old number, or nothing. -/
def EntOK (T : Nat → TyI) (w : World) (I : Nat → Prop) (φ : Nat → Option Value) (h : Tab) (A : Asg) (j : Nat) (E : Ent) : Prop :=
  RelE T w I (φA φ A) (2 * j) E ∧ (live E → (asgOf A j = some none ∧ ∃ e l f, E = .row e l f) ∨ ∃ id, asgOf A j = some (some id) ∧ live (h id) ∧ ∀ v b, has w E v b → has w (h id) v b)
theorem pkO_sound {U : Nat → Prop} {h : Tab} (hm : Mem T U w I φ h) : ∀ {l : List Ob} {j : Nat} {a : Asg} {ds : List D} (_ : pkO T h j l a = some ds), ∃ A, Sub a A ∧ (Inj a → Inj A) ∧ ∀ pre post, ∀ (i : Nat) (E : Ent), (unO l (pre ++ ds ++ post) pre.length)[i]? = some E → EntOK T w I φ h A (j + i) E
  | [], j, a, ds, hp => ⟨a, .refl _, fun h => h, fun pre post i E hE => by simp [unO] at hE⟩
  | o :: l, j, a, ds, hp => by
    simp only [pkO] at hp
    split at hp
    · rename_i id hid
      have he := hm.ent id
      split at hp
      · rename_i e f e' x f' hE
        cases hb : (Nat.beq e e' && (!f || f')) <;> rw [hb] at hp <;> simp only [cond_true, cond_false] at hp
        · cases hp
        · simp only [Bool.and_eq_true] at hb
          have := Nat.eq_of_beq_eq_true hb.1
          subst this
          obtain ⟨ds', hds, rfl⟩ := Option.map_eq_some_iff.1 hp
          obtain ⟨A, h1, h2, h3⟩ := pkO_sound hm hds
          refine ⟨A, h1, h2, fun pre post i E hi => ?_⟩
          have hpp : pre ++ (D.row x :: ds') ++ post = pre ++ D.row x :: (ds' ++ post) := by simp
          simp only [unO] at hi
          cases i with
          | zero =>
            simp only [List.getElem?_cons_zero, Option.some.injEq] at hi
            subst hi
            rw [hpp, gt_at]
            rw [hE] at he
            obtain ⟨v, hv, ho, hf, hT⟩ := he
            exact ⟨⟨v, (φA_even (h1 _ _ hid)).trans hv, ho, fun hft => hf (by subst hft; simpa using hb.2), hT⟩, fun _ => .inr ⟨id, h1 _ _ hid, by rw [hE]; trivial, fun v b hb => .inl (has_row.1 hb)⟩⟩
          | succ i =>
            have := h3 (pre ++ [D.row x]) post i E (by simpa using hi)
            rwa [show j + (i + 1) = j + 1 + i by omega]
      · rename_i e e' x hE
        cases hb : Nat.beq e e' <;> rw [hb] at hp <;> simp only [cond_true, cond_false] at hp
        · cases hp
        · have := Nat.eq_of_beq_eq_true hb
          subst this
          obtain ⟨ds', hds, rfl⟩ := Option.map_eq_some_iff.1 hp
          obtain ⟨A, h1, h2, h3⟩ := pkO_sound hm hds
          refine ⟨A, h1, h2, fun pre post i E hi => ?_⟩
          have hpp : pre ++ (D.row x :: ds') ++ post = pre ++ D.row x :: (ds' ++ post) := by simp
          simp only [unO] at hi
          cases i with
          | zero =>
            simp only [List.getElem?_cons_zero, Option.some.injEq] at hi
            subst hi
            rw [hpp, gt_at]
            rw [hE] at he
            obtain ⟨v, hv, ho, hT⟩ := he
            exact ⟨⟨v, (φA_even (h1 _ _ hid)).trans hv, ho, hT⟩, fun hl => hl.elim⟩
          | succ i =>
            have := h3 (pre ++ [D.row x]) post i E (by simpa using hi)
            rwa [show j + (i + 1) = j + 1 + i by omega]
      · rename_i e own e' own' m hE
        cases hb : (Nat.beq e e' && (own == own')) <;> rw [hb] at hp <;> simp only [cond_true, cond_false] at hp
        · cases hp
        · simp only [Bool.and_eq_true, beq_iff_eq] at hb
          have := Nat.eq_of_beq_eq_true hb.1
          subst this
          have := hb.2
          subst this
          obtain ⟨ds', hds, rfl⟩ := Option.map_eq_some_iff.1 hp
          obtain ⟨A, h1, h2, h3⟩ := pkO_sound hm hds
          refine ⟨A, h1, h2, fun pre post i E hi => ?_⟩
          have hpp : pre ++ (D.row m :: ds') ++ post = pre ++ D.row m :: (ds' ++ post) := by simp
          simp only [unO] at hi
          cases i with
          | zero =>
            simp only [List.getElem?_cons_zero, Option.some.injEq] at hi
            subst hi
            rw [hpp, gt_at]
            rw [hE] at he
            obtain ⟨r, es, clock, hv, hM⟩ := he
            refine ⟨⟨r, es, clock, (φA_even (h1 _ _ hid)).trans hv, ⟨hM.at_, hM.size, hM.small, hM.stamped, hM.keys, hM.all, hM.vals, hM.rows, hM.apart, hM.off, (fun _ _ ht => by cases ht), hM.known⟩⟩, fun _ => .inr ⟨id, h1 _ _ hid, by rw [hE]; trivial, fun v b hb => by rw [hE]; exact hb⟩⟩
          | succ i =>
            have := h3 (pre ++ [D.row m]) post i E (by simpa using hi)
            rwa [show j + (i + 1) = j + 1 + i by omega]
      · rename_i t ss t' cs hE
        cases hb : Nat.beq t t' <;> rw [hb] at hp <;> simp only [cond_true, cond_false] at hp
        · cases hp
        · have := Nat.eq_of_beq_eq_true hb
          subst this
          split at hp
          · rename_i a1 d1 hd1
            obtain ⟨ds', hds, rfl⟩ := Option.map_eq_some_iff.1 hp
            obtain ⟨A, h1, h2, h3⟩ := pkO_sound hm hds
            rw [hE] at he
            obtain ⟨b, vs, hv, hh, hc, ho⟩ := he
            obtain ⟨k1, k2, k3⟩ := pkL_C (A := A) hd1 hc
            refine ⟨A, k1.trans h1, fun hi => h2 (k2 hi), fun pre post i E hi => ?_⟩
            obtain ⟨e1, e2⟩ := k3 h1 pre (ds' ++ post)
            have hpp : pre ++ d1 ++ (ds' ++ post) = pre ++ (d1 ++ ds') ++ post := by simp
            rw [hpp] at e1 e2
            simp only [unO] at hi
            cases i with
            | zero =>
              simp only [List.getElem?_cons_zero, Option.some.injEq] at hi
              subst hi
              have hid' := (k1.trans h1) _ _ hid
              exact ⟨⟨b, vs, (φA_even hid').trans hv, hh, e1, ho⟩, fun _ => .inr ⟨id, hid', by rw [hE]; trivial, fun v b hb => .inl (has_box.1 hb)⟩⟩
            | succ i =>
              rw [e2] at hi
              have := h3 (pre ++ d1) post i E (by simpa using hi)
              rwa [show j + (i + 1) = j + 1 + i by omega]
          · cases hp
      · cases hp
    · rename_i hid
      split at hp
      · rename_i e
        cases hb : (Nat.blt 0 (T e).cells.length) <;> rw [hb] at hp <;> simp only [cond_true, cond_false] at hp
        · cases hp
        · have hT : (T e).cells ≠ [] := kn_iff.1 hb
          obtain ⟨ds', hds, rfl⟩ := Option.map_eq_some_iff.1 hp
          obtain ⟨A, h1, h2, h3⟩ := pkO_sound hm hds
          refine ⟨A, h1, h2, fun pre post i E hi => ?_⟩
          have hpp : pre ++ (D.row [] :: ds') ++ post = pre ++ D.row [] :: (ds' ++ post) := by simp
          simp only [unO] at hi
          cases i with
          | zero =>
            simp only [List.getElem?_cons_zero, Option.some.injEq] at hi
            subst hi
            rw [hpp, gt_at]
            exact ⟨⟨.slice none 0 0, φA_nil (h1 _ _ hid), ⟨[], .inl ⟨rfl, rfl, none, rfl⟩, fun i j hi => by simp [D.r] at hi⟩, (fun h => by cases h), hT⟩, fun _ => .inl ⟨h1 _ _ hid, _, _, _, rfl⟩⟩
          | succ i =>
            have := h3 (pre ++ [D.row []]) post i E (by simpa using hi)
            rwa [show j + (i + 1) = j + 1 + i by omega]
      · cases hp
    · cases hp

theorem slotOf_rel {R : AV → Value → Prop} (hu : ∀ x, R .undef x) : ∀ {ns : List (Nat × Sh)} {vs : List AV} {xs : List Value} {val : Nat → Value}, All2 R vs xs → xs = ns.map (fun p => val p.1) → ∀ i, R (slotOf ns vs i) (val i)
  | [], vs, xs, val, h, hx, i => by cases vs <;> exact hu _
  | n :: ns, [], xs, val, h, hx, i => hu _
  | n :: ns, v :: vs, xs, val, h, hx, i => by
    simp only [slotOf]
    cases h with
    | cons h1 h2 =>
      simp only [List.map_cons, List.cons.injEq] at hx
      cases hb : Nat.beq n.1 i
      · exact slotOf_rel hu h2 hx.2 i
      · have := Nat.eq_of_beq_eq_true hb
        subst this
        rw [hx.1] at h1
        exact h1
theorem Mem.cool1 {U : Nat → Prop} {h : Tab} (hm : Mem T U w I φ h) (o : Ob) (x : Option (Option Nat)) : ∃ I', Mem T U w I' φ (cool1 h o x) ∧ Ext U w I φ w I' φ := by
  unfold Sx.cool1
  split
  · rename_i e id
    split
    · rename_i e' y f hE
      obtain ⟨I', m, x, _⟩ := hm.freeze hE
      exact ⟨I', m, x⟩
    · exact ⟨I, hm, .refl⟩
  · exact ⟨I, hm, .refl⟩
theorem Mem.coolA {U : Nat → Prop} (a : Asg) : ∀ (l : List Ob) {h : Tab} {I : Nat → Prop} (j : Nat) (_ : Mem T U w I φ h), ∃ I', Mem T U w I' φ (coolA h a j l) ∧ Ext U w I φ w I' φ
  | [], h, I, j, hm => ⟨I, hm, .refl⟩
  | o :: l, h, I, j, hm => by
    obtain ⟨I1, m1, x1⟩ := hm.cool1 o (asgOf a j)
    obtain ⟨I2, m2, x2⟩ := Mem.coolA a l (j + 1) m1
    exact ⟨I2, m2, x1.trans x2⟩
/-- Through a cut everything stands for the same memory, under new numbers. -/
theorem cut_sound {U : Nat → Prop} {N : Nat} {γ : Nat → Value} {s : St} {a : Act} {c : Cut} {ds : List D} (hs0 : RelS T U N γ w I φ s a) (h : pack T c s = some ds) : ∃ I' φ', RelS T U N γ w I' φ' (unpack c ds) a ∧ Ext U w I noφ w I' noφ := by
  unfold pack at h
  split at h
  · rename_i a1 d1 h1
    obtain ⟨es, hes, rfl⟩ := Option.map_eq_some_iff.1 h
    obtain ⟨I2, mC, xC⟩ := Mem.coolA a1 c.objs 0 (hs0.mem.settleA a1)
    have hs : RelS T U N γ w I2 φ ⟨s.t, coolA (settleA s.h a1) a1 0 c.objs, s.w⟩ a := ⟨fun i => (hs0.tm i).ext xC, mC, hs0.sz, hs0.df, hs0.le, hs0.fx.ext xC⟩
    have xN : Ext U w I noφ w I2 noφ := ⟨xC.os, xC.tape, xC.output, xC.size, xC.keep, xC.imm, xC.same, xC.new, fun _ _ h => by cases h⟩
    clear xC mC
    obtain ⟨A, k1, k2, k3⟩ := pkO_sound hs.mem hes
    have hall : All2 (RelV T w I2 φ) (c.slots.map fun p => plainV (s.t p.1)) (c.slots.map fun p => tv γ a p.1) := all2_map _ _ _ fun p _ => plain_rel (hs.tm p.1)
    obtain ⟨g1, g2, g3⟩ := pkL_A (A := A) h1 hall
    have hinj : Inj A := k2 (g2 (fun j j' p hp => by simp [asgOf] at hp))
    obtain ⟨e1, e2⟩ := g3 k1 [] es
    simp only [List.nil_append, List.length_nil, Nat.zero_add] at e1 e2
    have hent := k3 d1 []
    simp only [List.append_nil, Nat.zero_add] at hent
    refine ⟨I2, φA φ A, ⟨fun i => ?_, ?_, hs.sz, hs.df, hs.le, hs.fx⟩, xN⟩
    · exact slotOf_rel (R := RelV T w I2 (φA φ A)) (fun _ => .of_C trivial) (val := fun i => tv γ a i) e1 rfl i
    · have htab : ∀ id, (unpack c (d1 ++ es)).h id = .unborn ∧ id % 2 = 1 ∨ ∃ j, id = 2 * j ∧ ((unpack c (d1 ++ es)).h id = .dead ∨ EntOK T w I2 φ (coolA (settleA s.h a1) a1 0 c.objs) A j ((unpack c (d1 ++ es)).h id)) := by
        intro id
        simp only [unpack, tabOf]
        cases hb : Nat.beq (id % 2) 1
        · right
          have hne : id % 2 ≠ 1 := fun e => by rw [e] at hb; simp at hb
          refine ⟨id / 2, by omega, ?_⟩
          simp only [cond_false]
          rw [e2]
          cases hE : (unO c.objs (d1 ++ es) d1.length)[id / 2]? with
          | none => left; simp [List.getD_eq_getElem?_getD, hE]
          | some E => right; simp only [List.getD_eq_getElem?_getD, hE]; exact hent _ _ hE
        · exact .inl ⟨rfl, Nat.eq_of_beq_eq_true hb⟩
      have hlive : ∀ id v b, live ((unpack c (d1 ++ es)).h id) → φA φ A id = some v → has w ((unpack c (d1 ++ es)).h id) v b → ∃ old, asgOf A (id / 2) = some (some old) ∧ id = 2 * (id / 2) ∧ live (coolA (settleA s.h a1) a1 0 c.objs old) ∧ φ old = some v ∧ has w (coolA (settleA s.h a1) a1 0 c.objs old) v b := by
        intro id v b hl hv hb
        rcases htab id with ⟨h0, _⟩ | ⟨j, rfl, h0 | ⟨_, h0⟩⟩
        · rw [h0] at hl; exact hl.elim
        · rw [h0] at hl; exact hl.elim
        · have hj2 : 2 * j / 2 = j := by omega
          rw [hj2]
          rcases h0 hl with ⟨h0, e0, l0, f0, hE0⟩ | ⟨old, h0, h1, h2⟩
          · rw [φA_nil h0] at hv
            obtain rfl := Option.some.inj hv
            rw [hE0] at hb
            have hb := has_row.1 hb
            simp [blk] at hb
          · exact ⟨old, h0, rfl, h1, by rw [← φA_even (φ := φ) h0]; exact hv, h2 v b hb⟩
      refine ⟨fun id => ?_, fun id v b hl hv hb => ?_, fun id id' v v' b hl hl' hv hv' hb hb' => ?_, hs.mem.lt, hs.mem.up⟩
      · rcases htab id with ⟨h0, h1⟩ | ⟨j, rfl, h0 | ⟨h0, _⟩⟩
        · rw [h0]
          show φA φ A id = none
          unfold φA; rw [if_pos h1]
        · rw [h0]; trivial
        · exact h0
      · obtain ⟨old, _, _, h2, h3, h4⟩ := hlive id v b hl hv hb
        exact hs.mem.own old v b h2 h3 h4
      · obtain ⟨old, h1, h2, h3, h4, h5⟩ := hlive id v b hl hv hb
        obtain ⟨old', h1', h2', h3', h4', h5'⟩ := hlive id' v' b hl' hv' hb'
        have := hs.mem.disj old old' v v' b h3 h3' h4 h4' h5 h5'
        subst this
        have := hinj _ _ _ h1 h1'
        omega
  · cases h
end
end Go.Sx
