/- A function: its code's outcome is what a call of it comes to. -/
import Derived.Test.YtlhbonpdlghlbaaDoorSxExec
set_option linter.unusedVariables false
set_option linter.unusedSimpArgs false
namespace Go.Sx
open Go.RowKit
section
variable {P : Program} {T : Nat → TyI} {U : Nat → Prop} {w : World} {φ : Nat → Option Value}
/-- Blocks that were handed back already. -/
def InvX (w : World) (U : Nat → Prop) (X I : Nat → Prop) (φ : Nat → Option Value) (h : Tab) : Prop := ∀ b, X b → U b ∧ ¬ I b ∧ ∀ id v, live (h id) → φ id = some v → ¬ has w (h id) v b
/-- New rows lie in blocks that are handed back now. -/
def NewX (X X' : Nat → Prop) (l : List (AV × Value)) : Prop := ∀ p ∈ l, ∀ e x, p.1 = .own e x → ∀ b, blk p.2 = some b → X' b ∧ ¬ X b
theorem NewX.dis {X X' X'' : Nat → Prop} {l m : List (AV × Value)} (h1 : NewX X X' l) (h2 : NewX X' X'' m) (d1 : Dis l) (d2 : Dis m) : Dis (l ++ m) := by
  induction l with
  | nil => exact d2
  | cons p l ih =>
    refine ⟨fun e x hp q hq e' x' hq' b hb hb' => ?_, ih (fun q hq => h1 q (by simp [hq])) d1.2⟩
    rcases List.mem_append.1 hq with hq | hq
    · exact d1.1 e x hp q hq e' x' hq' b hb hb'
    · exact (h2 q hq e' x' hq' b hb').2 (h1 p (by simp) e x hp b hb).1
theorem NewX.append {X X' X'' : Nat → Prop} {l m : List (AV × Value)} (h1 : NewX X X' l) (h2 : NewX X' X'' m) (hs : ∀ b, X b → X' b) (hs' : ∀ b, X' b → X'' b) : NewX X X'' (l ++ m) := by
  intro p hp e x he b hb
  rcases List.mem_append.1 hp with hp | hp
  · exact ⟨hs' b (h1 p hp e x he b hb).1, (h1 p hp e x he b hb).2⟩
  · exact ⟨(h2 p hp e x he b hb).1, fun hx => (h2 p hp e x he b hb).2 (hs b hx)⟩
theorem ResC.ext {I I' : Nat → Prop} (x : Ext U w I φ w I' φ) {a : AV} {v : Value} (h : ResC T w I a v) : ResC T w I' a v := by
  have mono : ∀ {c d u}, RepC T w I c d u → RepC T w I' c d u := fun hh => hh.mono x.imm (fun _ _ => rfl)
  cases a <;> simp only [ResC] at h ⊢
  case own e l =>
    obtain ⟨⟨xs, h1, h2⟩, hT⟩ := h
    exact ⟨⟨xs, h1, fun i j hi hj => by obtain ⟨z, hz, hr⟩ := h2 i j hi hj; exact ⟨z, hz, mono hr⟩⟩, hT⟩
  all_goals exact RelC.ext (U := fun _ => True) ⟨rfl, rfl, rfl, Nat.le_refl _, fun _ _ _ => rfl, x.imm, fun _ _ => rfl, fun _ _ => .inr trivial, fun _ _ h => h⟩ h

theorem ResA.ext {I I' : Nat → Prop} (x : Ext U w I φ w I' φ) {a : AV} {v : Value} (h : ResA T w I a v) : ResA T w I' a v := by
  unfold ResA at h ⊢
  split at h
  · obtain ⟨cs, h1, h2⟩ := h; exact ⟨cs, h1, h2.imp (fun _ _ => ResC.ext x)⟩
  · exact ResC.ext x h

/-- One cell that is handed back. -/
theorem pkR_C {R : Type} {K : List D → Tab → List Nat → List Nat → Option R} {y : R} {r ws : List Nat} {I X : Nat → Prop} {h : Tab} (hm : Mem T U w I φ h) (hX : InvX w U X I φ h) {s : RSh} {a : AV} {v : Value} (hv : RelC T w I φ a v) (hr : (pkR T s a).run K h r ws = some y) :
    ∃ ds h' r' ws' I' X', K ds h' r' ws' = some y ∧ Mem T U w I' φ h' ∧ Ext U w I φ w I' φ ∧ InvX w U X' I' φ h' ∧ (∀ b, X b → X' b) ∧ ∀ pre post,
      ResC T w I' (unR s (pre ++ ds ++ post) pre.length).1 v ∧ (unR s (pre ++ ds ++ post) pre.length).2 = pre.length + ds.length ∧ NewX X X' [((unR s (pre ++ ds ++ post) pre.length).1, v)] ∧ v.oneCell' = true ∧ (unR s (pre ++ ds ++ post) pre.length).1 ≠ .undef ∧ ∀ l, (unR s (pre ++ ds ++ post) pre.length).1 ≠ .agg l := by
  have flat : ∀ {r : List Nat} (d : D) (av : D → AV), (∀ d e x, av d ≠ .own e x) → (∀ d, av d ≠ .undef) → (∀ d l, av d ≠ .agg l) → (∀ ds n, unR s ds n = (av (gt ds n), n + 1)) → RelC T w I noφ (av d) v → K [d] h r ws = some y → v.oneCell' = true →
      ∃ ds h' r' ws' I' X', K ds h' r' ws' = some y ∧ Mem T U w I' φ h' ∧ Ext U w I φ w I' φ ∧ InvX w U X' I' φ h' ∧ (∀ b, X b → X' b) ∧ ∀ pre post,
      ResC T w I' (unR s (pre ++ ds ++ post) pre.length).1 v ∧ (unR s (pre ++ ds ++ post) pre.length).2 = pre.length + ds.length ∧ NewX X X' [((unR s (pre ++ ds ++ post) pre.length).1, v)] ∧ v.oneCell' = true ∧ (unR s (pre ++ ds ++ post) pre.length).1 ≠ .undef ∧ ∀ l, (unR s (pre ++ ds ++ post) pre.length).1 ≠ .agg l := by
    intro r d av hno hun hag hu hrel hK hone
    refine ⟨[d], h, r, ws, I, X, hK, hm, .refl, hX, fun _ h => h, fun pre post => ?_⟩
    have hg : gt (pre ++ [d] ++ post) pre.length = d := by simp only [List.append_assoc, List.singleton_append, gt_at]
    rw [hu, hg]
    refine ⟨?_, rfl, fun p hp e x he => ?_, hone, hun d, hag d⟩
    · cases hav : av d <;> rw [hav] at hrel <;> first | exact hrel | exact absurd hav (hno d _ _) | (exact absurd (hrel ▸ hone) (by decide))
    · simp at hp; subst hp; exact absurd he (hno d e x)
  have toNo : ∀ {e l}, RepC T w I (.sl e) (.row l) v → RelC T w I noφ (.srow e l) v := fun hh => hh
  unfold pkR at hr
  split at hr
  · rename_i k k' n
    rw [run_chk] at hr
    have := of_decide_eq_true hr.1
    subst this
    obtain rfl : v = .int k n := hv
    exact flat (.int n) (fun d => .int k d.i) (fun _ _ _ h => by cases h) (fun _ h => by cases h) (fun _ _ h => by cases h) (fun _ _ => rfl) rfl hr.2 rfl
  · rename_i b
    obtain rfl : v = .bool b := hv
    exact flat (.bool b) (fun d => .bool d.b) (fun _ _ _ h => by cases h) (fun _ h => by cases h) (fun _ _ h => by cases h) (fun _ _ => rfl) rfl hr rfl
  · rename_i b
    obtain rfl : v = .string b := hv
    exact flat (.str b) (fun d => .str d.s) (fun _ _ _ h => by cases h) (fun _ h => by cases h) (fun _ _ h => by cases h) (fun _ _ => rfl) rfl hr rfl
  · rename_i e
    rw [run_chk] at hr
    obtain rfl : v = .slice none 0 0 := hv
    refine ⟨[.row []], h, r, ws, I, X, hr.2, hm, .refl, hX, fun _ h => h, fun pre post => ?_⟩
    have hg : gt (pre ++ [D.row []] ++ post) pre.length = D.row [] := by simp only [List.append_assoc, List.singleton_append, gt_at]
    simp only [unR, hg]
    refine ⟨⟨⟨[], .inl ⟨rfl, rfl, none, rfl⟩, fun i j hi => by simp [D.r] at hi⟩, kn_iff.1 hr.1⟩, rfl, fun p hp e' x' _ b hb => ?_, rfl, (fun h => by cases h), (fun _ h => by cases h)⟩
    simp at hp; subst hp; simp [blk] at hb
  · rename_i e id
    rw [run_get] at hr
    obtain ⟨hφ, hsl⟩ := hv
    have he := hm.ent id
    cases hE : h id <;> rw [hE] at hr he <;> simp only [run_fail] at hr <;> try cases hr
    rename_i e' l f
    rw [run_chk] at hr
    obtain ⟨hee, hr⟩ := hr
    have hee := Nat.eq_of_beq_eq_true hee
    subst hee
    rw [run_put] at hr
    obtain ⟨v', hv', hown, _, hT⟩ := he
    obtain rfl := Option.some.inj (hφ.symm.trans hv')
    have hlive : live (h id) := by rw [hE]; trivial
    have hsub : ∀ j, live ((h.upd id .dead) j) → j ≠ id ∧ live (h j) := fun j hj => by
      by_cases hji : j = id
      · subst hji; rw [Tab.upd_same] at hj; exact hj.elim
      · rw [Tab.upd_other _ _ hji] at hj; exact ⟨hji, hj⟩
    refine ⟨[.row l], h.upd id .dead, _, _, I, fun b => X b ∨ blk v = some b, hr, hm.kill (by rw [hφ]; simp), .refl, fun b hb => ?_, fun _ h => .inl h, fun pre post => ?_⟩
    · rcases hb with hb | hb
      · obtain ⟨h1, h2, h3⟩ := hX b hb
        exact ⟨h1, h2, fun j u hj hu hub => h3 j u (hsub j hj).2 hu (by rw [Tab.upd_other _ _ (hsub j hj).1] at hub; exact hub)⟩
      · obtain ⟨h1, h2⟩ := hm.own id v b hlive hφ (.inl hb)
        exact ⟨h2, h1, fun j u hj hu hub => (hsub j hj).1 (hm.disj j id u v b (hsub j hj).2 hlive hu hφ (by rw [Tab.upd_other _ _ (hsub j hj).1] at hub; exact hub) (.inl hb))⟩
    · have hg : gt (pre ++ [D.row l] ++ post) pre.length = D.row l := by simp only [List.append_assoc, List.singleton_append, gt_at]
      simp only [unR, hg]
      refine ⟨⟨hown, hT⟩, rfl, fun p hp e' x' _ b hb => ?_, by obtain ⟨_, _, _, rfl⟩ := hsl; rfl, (fun h => by cases h), (fun _ h => by cases h)⟩
      simp at hp; subst hp
      exact ⟨.inr hb, fun hx => (hX b hx).2.2 id v hlive hφ (.inl hb)⟩
  · obtain rfl : v = .slice none 0 0 := hv
    rename_i e
    exact flat (.row []) (fun d => .srow e d.r) (fun _ _ _ h => by cases h) (fun _ h => by cases h) (fun _ _ h => by cases h) (fun _ _ => rfl) (.nil _ _ _ _ rfl) hr rfl
  · obtain ⟨ad, rfl⟩ := hv
    rename_i e
    exact flat (.row []) (fun d => .srow e d.r) (fun _ _ _ h => by cases h) (fun _ h => by cases h) (fun _ _ h => by cases h) (fun _ _ => rfl) (.nil _ _ _ _ rfl) hr rfl
  · rename_i e e' l
    rw [run_chk] at hr
    have hee := Nat.eq_of_beq_eq_true hr.1
    subst hee
    exact flat (.row l) (fun d => .srow e d.r) (fun _ _ _ h => by cases h) (fun _ h => by cases h) (fun _ _ h => by cases h) (fun _ _ => rfl) hv hr.2 (RepC.one hv)
  · rename_i e e' l
    rw [run_chk] at hr
    have hee := Nat.eq_of_beq_eq_true hr.1
    subst hee
    exact flat (.row l) (fun d => .srow e d.r) (fun _ _ _ h => by cases h) (fun _ h => by cases h) (fun _ _ h => by cases h) (fun _ _ => rfl) hv.1 hr.2 (RepC.one hv.1)
  · rename_i e id
    rw [run_get] at hr
    obtain ⟨hφ, hsl⟩ := hv
    have he := hm.ent id
    cases hE : h id <;> rw [hE] at hr he <;> simp only [run_fail] at hr <;> try cases hr
    · rename_i e' l f
      rw [run_chk] at hr
      obtain ⟨hee, hr⟩ := hr
      have hee := Nat.eq_of_beq_eq_true hee
      subst hee
      rw [run_put] at hr
      obtain ⟨v', hv', hown, _, hT⟩ := he
      obtain rfl := Option.some.inj (hφ.symm.trans hv')
      have hlive : live (h id) := by rw [hE]; trivial
      obtain ⟨m1, x1⟩ := hm.freeze' hE hφ
      refine ⟨[.row l], _, _, _, _, X, hr, m1, x1, fun b hb => ?_, fun _ h => h, fun pre post => ?_⟩
      · obtain ⟨h1, h2, h3⟩ := hX b hb
        refine ⟨h1, fun hI => hI.elim h2 (fun hb' => h3 id v hlive hφ (.inl hb')), fun j u hj hu hub => ?_⟩
        by_cases hji : j = id
        · subst hji; rw [Tab.upd_same] at hj; exact hj.elim
        · rw [Tab.upd_other _ _ hji] at hj hub; exact h3 j u hj hu hub
      · have hg : gt (pre ++ [D.row l] ++ post) pre.length = D.row l := by simp only [List.append_assoc, List.singleton_append, gt_at]
        simp only [unR, hg]
        refine ⟨hown.rep (fun _ h => .inl h) (fun _ h => .inr h), rfl, fun p hp e' x' he' => ?_, by obtain ⟨_, _, _, rfl⟩ := hsl; rfl, (fun h => by cases h), (fun _ h => by cases h)⟩
        simp at hp; subst hp; cases he'
    · rename_i e' l
      rw [run_chk] at hr
      have hee := Nat.eq_of_beq_eq_true hr.1
      subst hee
      obtain ⟨v', hv', hrep, hT⟩ := he
      obtain rfl := Option.some.inj (hφ.symm.trans hv')
      exact flat (.row l) (fun d => .srow e d.r) (fun _ _ _ h => by cases h) (fun _ h => by cases h) (fun _ _ h => by cases h) (fun _ _ => rfl) hrep hr.2 (RepC.one hrep)
  · exact hv.elim
  · simp [run_fail] at hr

/-- What is told of what was handed back, wherever the data stand. -/
structure Back (T : Nat → TyI) (w : World) (I X X' : Nat → Prop) (un : List D → Nat → List AV × Nat) (ds : List D) (vs : List Value) (fl : List AV → List Value → List (AV × Value)) (R : List AV → List Value → Prop) (pre post : List D) : Prop where
  rel : R (un (pre ++ ds ++ post) pre.length).1 vs
  nx : (un (pre ++ ds ++ post) pre.length).2 = pre.length + ds.length
  new : NewX X X' (fl (un (pre ++ ds ++ post) pre.length).1 vs)
  dis : Dis (fl (un (pre ++ ds ++ post) pre.length).1 vs)
  nun : ∀ a ∈ (un (pre ++ ds ++ post) pre.length).1, a ≠ .undef
theorem back_at (pre ds es post : List D) : pre ++ (ds ++ es) ++ post = pre ++ ds ++ (es ++ post) := by simp
theorem back_at' (pre ds es post : List D) : pre ++ (ds ++ es) ++ post = (pre ++ ds) ++ es ++ post := by simp

theorem pkRL_C {R : Type} {y : R} : ∀ {ss : List RSh} {as : List AV} {vs : List Value} {K : List D → Tab → List Nat → List Nat → Option R} {r ws : List Nat} {I X : Nat → Prop} {h : Tab} (_ : Mem T U w I φ h) (_ : InvX w U X I φ h) (_ : All2 (RelC T w I φ) as vs) (_ : (pkRL T ss as).run K h r ws = some y),
    ∃ ds h' r' ws' I' X', K ds h' r' ws' = some y ∧ Mem T U w I' φ h' ∧ Ext U w I φ w I' φ ∧ InvX w U X' I' φ h' ∧ (∀ b, X b → X' b) ∧ (∀ v ∈ vs, v.oneCell' = true) ∧ ∀ pre post, Back T w I' X X' (unRL ss) ds vs List.zip (All2 (ResC T w I')) pre post
  | [], [], vs, K, r, ws, I, X, h, hm, hX, hv, hr => by
    cases hv
    simp only [pkRL] at hr
    exact ⟨[], h, r, ws, I, X, hr, hm, .refl, hX, fun _ h => h, fun v hv => by simp at hv, fun pre post => ⟨.nil, rfl, fun p hp => by simp [unRL] at hp, trivial, fun a ha => by simp [unRL] at ha⟩⟩
  | s :: ss, a :: as, vs, K, r, ws, I, X, h, hm, hX, hv, hr => by
    cases hv with
    | @cons _ v _ vs hv1 hv2 =>
      simp only [pkRL] at hr
      rw [run_bind] at hr
      obtain ⟨ds, h1, r1, ws1, I1, X1, hr, m1, x1, hX1, hs1, b1⟩ := pkR_C hm hX hv1 hr
      rw [run_bind] at hr
      obtain ⟨es, h2, r2, ws2, I2, X2, hr, m2, x2, hX2, hs2, ho2, b2⟩ := pkRL_C m1 hX1 (hv2.imp fun _ _ h => h.ext x1) hr
      refine ⟨ds ++ es, h2, r2, ws2, I2, X2, hr, m2, x1.trans x2, hX2, fun b hb => hs2 b (hs1 b hb), fun u hu => ?_, fun pre post => ?_⟩
      · rcases List.mem_cons.1 hu with rfl | hu
        · exact (b1 [] []).2.2.2.1
        · exact ho2 u hu
      obtain ⟨c1, c2, c3, c4, c5, c6⟩ := b1 pre (es ++ post)
      obtain ⟨e1, e2, e3, e4, e5⟩ := b2 (pre ++ ds) post
      rw [← back_at] at c1 c2 c3 c5 c6
      rw [← back_at', List.length_append] at e1 e2 e3 e4 e5
      refine ⟨?_, ?_, ?_, ?_, ?_⟩
      all_goals simp only [unRL, c2]
      · exact .cons (c1.ext x2) e1
      · rw [e2, List.length_append]; omega
      · exact NewX.append (m := List.zip _ vs) c3 e3 hs1 hs2
      · exact NewX.dis (m := List.zip _ vs) c3 e3 ⟨fun _ _ _ q hq => by simp at hq, trivial⟩ e4
      · intro a ha
        rcases List.mem_cons.1 ha with rfl | ha
        · exact c5
        · exact e5 a ha
  | [], _ :: _, _, K, r, ws, I, X, h, _, _, _, hr => by simp [pkRL, run_fail] at hr
  | _ :: _, [], _, K, r, ws, I, X, h, _, _, _, hr => by simp [pkRL, run_fail] at hr

theorem one_cells {v : Value} (h : v.oneCell' = true) : v.cells.toList = [v] := by cases v <;> first | rfl | (cases h)
/-- One result. -/
theorem pkR_A {R : Type} {K : List D → Tab → List Nat → List Nat → Option R} {y : R} {r ws : List Nat} {I X : Nat → Prop} {h : Tab} (hm : Mem T U w I φ h) (hX : InvX w U X I φ h) {s : RSh} {a : AV} {v : Value} (hv : RelV T w I φ a v) (hr : (pkR T s a).run K h r ws = some y) :
    ∃ ds h' r' ws' I' X', K ds h' r' ws' = some y ∧ Mem T U w I' φ h' ∧ Ext U w I φ w I' φ ∧ InvX w U X' I' φ h' ∧ (∀ b, X b → X' b) ∧ ∀ pre post, Back T w I' X X' (fun ds n => ([(unR s ds n).1], (unR s ds n).2)) ds [v] flatR (All2 (ResA T w I')) pre post := by
  have cell : RelC T w I φ a v → ∃ ds h' r' ws' I' X', K ds h' r' ws' = some y ∧ Mem T U w I' φ h' ∧ Ext U w I φ w I' φ ∧ InvX w U X' I' φ h' ∧ (∀ b, X b → X' b) ∧ ∀ pre post, Back T w I' X X' (fun ds n => ([(unR s ds n).1], (unR s ds n).2)) ds [v] flatR (All2 (ResA T w I')) pre post := by
    intro hc
    obtain ⟨ds, h1, r1, ws1, I1, X1, hr, m1, x1, hX1, hs1, b1⟩ := pkR_C hm hX hc hr
    refine ⟨ds, h1, r1, ws1, I1, X1, hr, m1, x1, hX1, hs1, fun pre post => ?_⟩
    obtain ⟨c1, c2, c3, c4, c5, c6⟩ := b1 pre post
    have hfl : flatR [(unR s (pre ++ ds ++ post) pre.length).1] [v] = [((unR s (pre ++ ds ++ post) pre.length).1, v)] := by
      have : cellsV (unR s (pre ++ ds ++ post) pre.length).1 = [(unR s (pre ++ ds ++ post) pre.length).1] := by
        generalize (unR s (pre ++ ds ++ post) pre.length).1 = A at c6
        cases A <;> first | rfl | (rename_i l; exact absurd rfl (c6 l))
      simp only [flatR, this, one_cells c4, List.zip_cons_cons, List.zip_nil_right, List.append_nil]
    refine ⟨.cons ?_ .nil, c2, ?_, ?_, fun a ha => ?_⟩
    · generalize (unR s (pre ++ ds ++ post) pre.length).1 = A at c1 c6
      unfold ResA
      split
      · exact absurd rfl (c6 _)
      · exact c1
    · simp only [hfl]; exact c3
    · simp only [hfl]; exact ⟨fun _ _ _ q hq => by simp at hq, trivial⟩
    · rw [List.mem_singleton.1 ha]; exact c5
  cases a
  case agg l =>
    obtain ⟨cs, rfl, hcs⟩ := hv
    cases s <;> simp only [pkR] at hr <;> try (simp [run_fail] at hr; done)
    rename_i ss
    obtain ⟨ds, h1, r1, ws1, I1, X1, hr, m1, x1, hX1, hs1, ho, b1⟩ := pkRL_C hm hX hcs hr
    refine ⟨ds, h1, r1, ws1, I1, X1, hr, m1, x1, hX1, hs1, fun pre post => ?_⟩
    obtain ⟨e1, e2, e3, e4, e5⟩ := b1 pre post
    have hfl : flatR [AV.agg (unRL ss (pre ++ ds ++ post) pre.length).1] [Value.agg cs] = List.zip (unRL ss (pre ++ ds ++ post) pre.length).1 cs.toList := by
      simp only [flatR, List.append_nil]; rfl
    refine ⟨.cons ⟨cs, rfl, e1⟩ .nil, e2, ?_, ?_, fun a ha => ?_⟩
    · simp only [unR, hfl]; exact e3
    · simp only [unR, hfl]; exact e4
    · simp [unR] at ha; subst ha; exact fun h => by cases h
  case tup => cases s <;> simp [pkR, run_fail] at hr
  all_goals exact cell hv

theorem flatR_cons (a : AV) (as : List AV) (v : Value) (vs : List Value) : flatR (a :: as) (v :: vs) = flatR [a] [v] ++ flatR as vs := by simp [flatR]
/-- All results. -/
theorem pkRL_A {R : Type} {y : R} : ∀ {ss : List RSh} {as : List AV} {vs : List Value} {K : List D → Tab → List Nat → List Nat → Option R} {r ws : List Nat} {I X : Nat → Prop} {h : Tab} (_ : Mem T U w I φ h) (_ : InvX w U X I φ h) (_ : All2 (RelV T w I φ) as vs) (_ : (pkRL T ss as).run K h r ws = some y),
    ∃ ds h' r' ws' I' X', K ds h' r' ws' = some y ∧ Mem T U w I' φ h' ∧ Ext U w I φ w I' φ ∧ InvX w U X' I' φ h' ∧ (∀ b, X b → X' b) ∧ ∀ pre post, Back T w I' X X' (unRL ss) ds vs flatR (All2 (ResA T w I')) pre post
  | [], [], vs, K, r, ws, I, X, h, hm, hX, hv, hr => by
    cases hv
    simp only [pkRL] at hr
    exact ⟨[], h, r, ws, I, X, hr, hm, .refl, hX, fun _ h => h, fun pre post => ⟨.nil, rfl, fun p hp => by simp [unRL, flatR] at hp, trivial, fun a ha => by simp [unRL] at ha⟩⟩
  | s :: ss, a :: as, vs, K, r, ws, I, X, h, hm, hX, hv, hr => by
    cases hv with
    | @cons _ v _ vs hv1 hv2 =>
      simp only [pkRL] at hr
      rw [run_bind] at hr
      obtain ⟨ds, h1, r1, ws1, I1, X1, hr, m1, x1, hX1, hs1, b1⟩ := pkR_A hm hX hv1 hr
      rw [run_bind] at hr
      obtain ⟨es, h2, r2, ws2, I2, X2, hr, m2, x2, hX2, hs2, b2⟩ := pkRL_A m1 hX1 (hv2.imp fun _ _ h => h.ext x1) hr
      refine ⟨ds ++ es, h2, r2, ws2, I2, X2, hr, m2, x1.trans x2, hX2, fun b hb => hs2 b (hs1 b hb), fun pre post => ?_⟩
      obtain ⟨c1, c2, c3, c4, c5⟩ := b1 pre (es ++ post)
      obtain ⟨e1, e2, e3, e4, e5⟩ := b2 (pre ++ ds) post
      rw [← back_at] at c1 c2 c3 c4 c5
      rw [← back_at', List.length_append] at e1 e2 e3 e4 e5
      dsimp only at c1 c2 c3 c4 c5
      refine ⟨?_, ?_, ?_, ?_, ?_⟩
      all_goals simp only [unRL, c2]
      · cases c1 with
        | cons c1 _ => exact .cons (c1.ext x2) e1
      · rw [e2, List.length_append]; omega
      · rw [flatR_cons]; exact NewX.append c3 e3 hs1 hs2
      · rw [flatR_cons]; exact NewX.dis c3 e3 c4 e4
      · intro a ha
        rcases List.mem_cons.1 ha with rfl | ha
        · exact c5 _ (by simp)
        · exact e5 a ha
  | [], _ :: _, _, K, r, ws, I, X, h, _, _, _, hr => by simp [pkRL, run_fail] at hr
  | _ :: _, [], _, K, r, ws, I, X, h, _, _, _, hr => by simp [pkRL, run_fail] at hr

theorem row_r0 (l : List D) : (D.row l).r = l := rfl
/-- The cells of a struct that was handed back. -/
theorem sp_cells {I : Nat → Prop} : ∀ {l : List RSh} {cts : List CT} (_ : shCs l cts = true) (ds : List D) (n : Nat) {vs : List Value} (_ : All2 (ResC T w I) (unRL l ds n).1 vs) (j : Nat) (_ : j < cts.length), ∃ u, vs[j]? = some u ∧ RepC T w I (cts.getD j .other) (gt ds (n + j)) u
  | [], [], _, ds, n, vs, _, j, hj => by simp at hj
  | s :: l, c :: m, h, ds, n, vs, hv, j, hj => by
    simp only [shCs, Bool.and_eq_true] at h
    simp only [unRL] at hv
    have hn : (unR s ds n).2 = n + 1 := by
      cases s <;> cases c <;> simp only [shC, reduceCtorEq, Bool.false_eq_true] at h <;> first | rfl | exact h.1.elim
    rw [hn] at hv
    cases hv with
    | @cons _ v _ vs h1 h2 =>
      cases j with
      | zero =>
        refine ⟨v, rfl, ?_⟩
        show RepC T w I c (gt ds n) v
        cases s <;> cases c <;> simp only [shC, reduceCtorEq, Bool.false_eq_true] at h <;> first | exact h.1.elim | skip
        · have := of_decide_eq_true h.1
          subst this
          obtain rfl : v = _ := h1
          exact .int _ _
        · obtain rfl : v = _ := h1
          exact .bool _
        · obtain rfl : v = _ := h1
          exact .str _
        · have := Nat.eq_of_beq_eq_true h.1
          subst this
          have h3 : RepC T w I (.sl _) (.row (gt ds n).r) v := h1
          exact RepC.row_of (d := .row (gt ds n).r) (d' := gt ds n) (row_r0 _) h3
      | succ j =>
        obtain ⟨u, hu, hr⟩ := sp_cells h.2 ds (n + 1) h2 j (by simpa using hj)
        exact ⟨u, hu, by rw [show n + (j + 1) = n + 1 + j by omega]; exact hr⟩
  | [], _ :: _, h, _, _, _, _, _, _ => by simp [shCs] at h
  | _ :: _, [], h, _, _, _, _, _, _ => by simp [shCs] at h
/-- One result, a pointer maybe. -/
theorem pkT_A {R : Type} {K : List D → Tab → List Nat → List Nat → Option R} {y : R} {r ws : List Nat} {I X : Nat → Prop} {h : Tab} (hm : Mem T U w I φ h) (hX : InvX w U X I φ h) {s : RSh} {a : AV} {v : Value} (hv : RelV T w I φ a v) (hr : (pkT T s a).run K h r ws = some y) :
    ∃ ds h' r' ws' I' X', K ds h' r' ws' = some y ∧ Mem T U w I' φ h' ∧ Ext U w I φ w I' φ ∧ InvX w U X' I' φ h' ∧ (∀ b, X b → X' b) ∧ ∀ pre post, Back T w I' X X' (fun ds n => ([(unR s ds n).1], (unR s ds n).2)) ds [v] flatR (All2 (ResA T w I')) pre post := by
  have one : ∀ {r ws : List Nat} {I1 X1 : Nat → Prop} {h1 : Tab} (e : Nat) (l : List RSh) (d : D), K [d] h1 r ws = some y → Mem T U w I1 φ h1 → Ext U w I φ w I1 φ → InvX w U X1 I1 φ h1 → (∀ b, X b → X1 b) → s = .sp e l → RelC T w I1 noφ (.nptr e d) v →
      ∃ ds h' r' ws' I' X', K ds h' r' ws' = some y ∧ Mem T U w I' φ h' ∧ Ext U w I φ w I' φ ∧ InvX w U X' I' φ h' ∧ (∀ b, X b → X' b) ∧ ∀ pre post, Back T w I' X X' (fun ds n => ([(unR s ds n).1], (unR s ds n).2)) ds [v] flatR (All2 (ResA T w I')) pre post := by
    intro r ws I1 X1 h1 e l d hK m1 x1 hX1 hs hse hrel
    subst hse
    refine ⟨[d], h1, r, ws, I1, X1, hK, m1, x1, hX1, hs, fun pre post => ?_⟩
    have hg : gt (pre ++ [d] ++ post) pre.length = d := by simp only [List.append_assoc, List.singleton_append, gt_at]
    have hu : unR (.sp e l) (pre ++ [d] ++ post) pre.length = (.nptr e d, pre.length + 1) := by simp only [unR, hg]
    have hone : v.oneCell' = true := resC_one (a := .nptr e d) (T := T) (w := w) (I := I1) hrel (fun h => by cases h)
    have hfl : flatR [AV.nptr e d] [v] = [(.nptr e d, v)] := by simp only [flatR, cellsV, one_cells hone, List.zip_cons_cons, List.zip_nil_right, List.append_nil]
    refine ⟨?_, ?_, ?_, ?_, ?_⟩
    all_goals simp only [hu]
    · exact .cons hrel .nil
    · rfl
    · rw [hfl]; intro p hp e' x' he'; simp at hp; subst hp; cases he'
    · rw [hfl]; exact ⟨fun _ _ he => (by cases he), trivial⟩
    · intro a ha; rw [List.mem_singleton.1 ha]; exact fun h => by cases h
  unfold pkT at hr
  split at hr
  · rename_i e l
    obtain rfl : v = .pointer none := hv
    exact one e l _ hr hm .refl hX (fun _ h => h) rfl (.inl ⟨rfl, rfl⟩)
  · rename_i e l e' d
    rw [run_chk] at hr
    have hee := Nat.eq_of_beq_eq_true hr.1
    subst hee
    exact one e l _ hr.2 hm .refl hX (fun _ h => h) rfl hv
  · rename_i e l id off
    rw [run_chk] at hr
    simp only [Bool.and_eq_true] at hr
    obtain ⟨⟨⟨hoff, hagg⟩, hsh⟩, hr⟩ := hr
    have hoff := Nat.eq_of_beq_eq_true hoff
    subst hoff
    obtain ⟨b, hφ, rfl⟩ := hv
    rw [run_get] at hr
    have he := hm.ent id
    cases hE : h id <;> rw [hE] at hr he <;> simp only [run_fail] at hr <;> try cases hr
    rename_i t cs
    rw [run_chk] at hr
    obtain ⟨het, hr⟩ := hr
    have het := Nat.eq_of_beq_eq_true het
    subst het
    obtain ⟨b', vs, hφ', hw, hcs, hone⟩ := he
    have hbb : b' = b := by
      have := Option.some.inj (hφ'.symm.trans hφ)
      simpa using this
    subst hbb
    rw [run_bind] at hr
    obtain ⟨ds, h1, r1, ws1, I1, X1, hr, m1, x1, hX1, hs1, _, bk⟩ := pkRL_C hm hX hcs hr
    rw [run_get] at hr
    have he1 := m1.ent id
    cases hE1 : h1 id <;> rw [hE1] at hr he1 <;> simp only [run_fail] at hr <;> try cases hr
    rename_i t1 cs1
    rw [run_put] at hr
    have hlive : live (h1 id) := by rw [hE1]; trivial
    have hown := m1.own id _ b' hlive hφ (.inl rfl)
    let I2 : Nat → Prop := fun k => I1 k ∨ k = b'
    have m0 := m1.kill (id := id) (by rw [hφ]; simp)
    have x2 : Ext U w I1 φ w I2 φ := ⟨rfl, rfl, rfl, Nat.le_refl _, fun _ _ _ => rfl, fun _ h => .inl h, fun _ _ => rfl, fun k h => h.imp (fun h => h) (fun hb => by rw [hb]; exact hown.2), fun _ _ h => h⟩
    have hsub : ∀ j, live ((h1.upd id .dead) j) → j ≠ id ∧ live (h1 j) := fun j hj => by
      by_cases hji : j = id
      · subst hji; rw [Tab.upd_same] at hj; exact hj.elim
      · rw [Tab.upd_other _ _ hji] at hj; exact ⟨hji, hj⟩
    have m2 : Mem T U w I2 φ (h1.upd id .dead) := by
      refine ⟨fun j => (m0.ent j).imm x2, fun j u k hl hj hb => ⟨fun hI => hI.elim (m0.own j u k hl hj hb).1 (fun e => ?_), (m0.own j u k hl hj hb).2⟩, m0.disj, fun k hb => hb.elim (m0.lt k) (fun e => ?_), m0.up⟩
      · have hne := hsub j hl
        rw [Tab.upd_other _ _ hne.1] at hb
        subst e
        exact hne.1 (m1.disj j id u _ _ hne.2 hlive hj hφ hb (.inl rfl))
      · rw [e]; exact (Array.getElem?_eq_some_iff.1 hw).1
    have hX2 : InvX w U X1 I2 φ (h1.upd id .dead) := fun k hk => by
      obtain ⟨g1, g2, g3⟩ := hX1 k hk
      refine ⟨g1, fun hI => hI.elim g2 (fun e => g3 id _ hlive hφ (.inl (by rw [e]; rfl))), fun j u hj hu hub => ?_⟩
      have hne := hsub j hj
      rw [Tab.upd_other _ _ hne.1] at hub
      exact g3 j u hne.2 hu hub
    refine one e l _ hr m2 (x1.trans x2) hX2 hs1 rfl (.inr ⟨rfl, b', .inr rfl, rfl, fun j hj => ?_⟩)
    have hb0 := (bk [] []).rel
    simp only [List.nil_append, List.append_nil, List.length_nil] at hb0
    obtain ⟨u, hu, hrep⟩ := sp_cells hsh ds 0 hb0 j hj
    refine ⟨u, ?_, ?_⟩
    · simp only [World.cell?, hw]
      simpa using hu
    · have hc : cellD T e ((D.agg [.bool false, .agg ds]).c 1) j = gt ds j := by
        simp only [cellD, hagg, cond_true]
        rfl
      rw [hc]
      rw [Nat.zero_add] at hrep
      exact hrep.mono (fun _ h => .inl h) (fun _ _ => rfl)
  · exact pkR_A hm hX hv hr
theorem pkTL_A {R : Type} {y : R} : ∀ {ss : List RSh} {as : List AV} {vs : List Value} {K : List D → Tab → List Nat → List Nat → Option R} {r ws : List Nat} {I X : Nat → Prop} {h : Tab} (_ : Mem T U w I φ h) (_ : InvX w U X I φ h) (_ : All2 (RelV T w I φ) as vs) (_ : (pkTL T ss as).run K h r ws = some y),
    ∃ ds h' r' ws' I' X', K ds h' r' ws' = some y ∧ Mem T U w I' φ h' ∧ Ext U w I φ w I' φ ∧ InvX w U X' I' φ h' ∧ (∀ b, X b → X' b) ∧ ∀ pre post, Back T w I' X X' (unRL ss) ds vs flatR (All2 (ResA T w I')) pre post
  | [], [], vs, K, r, ws, I, X, h, hm, hX, hv, hr => by
    cases hv
    simp only [pkTL] at hr
    exact ⟨[], h, r, ws, I, X, hr, hm, .refl, hX, fun _ h => h, fun pre post => ⟨.nil, rfl, fun p hp => by simp [unRL, flatR] at hp, trivial, fun a ha => by simp [unRL] at ha⟩⟩
  | s :: ss, a :: as, vs, K, r, ws, I, X, h, hm, hX, hv, hr => by
    cases hv with
    | @cons _ v _ vs hv1 hv2 =>
      simp only [pkTL] at hr
      rw [run_bind] at hr
      obtain ⟨ds, h1, r1, ws1, I1, X1, hr, m1, x1, hX1, hs1, b1⟩ := pkT_A hm hX hv1 hr
      rw [run_bind] at hr
      obtain ⟨es, h2, r2, ws2, I2, X2, hr, m2, x2, hX2, hs2, b2⟩ := pkTL_A m1 hX1 (hv2.imp fun _ _ h => h.ext x1) hr
      refine ⟨ds ++ es, h2, r2, ws2, I2, X2, hr, m2, x1.trans x2, hX2, fun b hb => hs2 b (hs1 b hb), fun pre post => ?_⟩
      obtain ⟨c1, c2, c3, c4, c5⟩ := b1 pre (es ++ post)
      obtain ⟨e1, e2, e3, e4, e5⟩ := b2 (pre ++ ds) post
      rw [← back_at] at c1 c2 c3 c4 c5
      rw [← back_at', List.length_append] at e1 e2 e3 e4 e5
      dsimp only at c1 c2 c3 c4 c5
      refine ⟨?_, ?_, ?_, ?_, ?_⟩
      all_goals simp only [unRL, c2]
      · cases c1 with
        | cons c1 _ => exact .cons (c1.ext x2) e1
      · rw [e2, List.length_append]; omega
      · rw [flatR_cons]; exact NewX.append c3 e3 hs1 hs2
      · rw [flatR_cons]; exact NewX.dis c3 e3 c4 e4
      · intro a ha
        rcases List.mem_cons.1 ha with rfl | ha
        · exact c5 _ (by simp)
        · exact e5 a ha
  | [], _ :: _, _, K, r, ws, I, X, h, _, _, _, hr => by simp [pkTL, run_fail] at hr
  | _ :: _, [], _, K, r, ws, I, X, h, _, _, _, hr => by simp [pkTL, run_fail] at hr

mutual
theorem unR_nun (ds : List D) : ∀ (s : RSh) (n : Nat), (unR s ds n).1 ≠ .undef
  | .int _, _ => fun h => by cases h
  | .bool, _ => fun h => by cases h
  | .str, _ => fun h => by cases h
  | .own _, _ => fun h => by cases h
  | .seen _, _ => fun h => by cases h
  | .agg _, _ => fun h => by cases h
  | .sp _ _, _ => fun h => by cases h
theorem unRL_nun (ds : List D) : ∀ (ss : List RSh) (n : Nat), ∀ a ∈ (unRL ss ds n).1, a ≠ .undef
  | [], _, a, h => by simp [unRL] at h
  | s :: ss, n, a, h => by
    simp only [unRL] at h
    rcases List.mem_cons.1 h with rfl | h
    · exact unR_nun ds s n
    · exact unRL_nun ds ss _ a h
end
def rvGet (tmps : Array Value) (r : ResultVar) : Sem Value :=
  match r with
  | .tmp t => pure (tmps.getD t undef)
  | .cell a t => do loadVar t (← asAddr (tmps.getD a undef))
theorem resV1_sound {N : Nat} {γ : Nat → Value} {I : Nat → Prop} {s : St} {a : Act} (hT : TOK P T) (hs : RelS T U N γ w I φ s a) {r : RV} {av : AV} (h : resV1 T s r = some av) :
    ∃ v, (rvGet a.tmps r.rv).run P w = .ok v w ∧ RelV T w I φ av v := by
  cases r with
  | tmp i =>
    simp only [resV1] at h
    cases hlo : low i <;> rw [hlo] at h <;> simp only [cond_true, cond_false] at h
    · cases h
    obtain rfl := Option.some.inj h
    have := hs.tm i
    rw [tv_low (low_iff.1 hlo)] at this
    exact ⟨_, by simp [RV.rv, rvGet], plain_rel this⟩
  | cell x t =>
    simp only [resV1] at h
    split at h
    · rename_i id off hp
      split at h
      · rename_i bt cs hE
        cases hb : (kn T t && Nat.ble (off + (T t).cells.length) cs.length) <;> rw [hb] at h <;> simp only [cond_true, cond_false] at h
        · cases h
        obtain rfl := Option.some.inj h
        simp only [Bool.and_eq_true] at hb
        have hle := Nat.le_of_ble_eq_true hb.2
        have he := hs.mem.ent id
        rw [hE] at he
        obtain ⟨b, vs, h1, h2, h3, _⟩ := he
        have hlo : low x = true := by
          cases hl : low x
          · rw [hl] at hp; cases hp
          · rfl
        rw [hlo, cond_true] at hp
        have hx := plain_rel (hs.tm x)
        rw [tv_low (low_iff.1 hlo)] at hx
        rw [hp] at hx
        obtain ⟨b', h4, h5⟩ := hx
        obtain rfl : b = b' := by simpa using h1.symm.trans h4
        have hc := kn_iff.1 hb.1
        have hpos : 0 < (T t).cells.length := List.length_pos_iff.2 hc
        obtain ⟨v, hv, hr⟩ := load_run (w := w) (I := I) (φ := φ) hT hb.1 (b := b) (o := off) (cs := (cs.drop off).take (T t).cells.length) (vs := (vs.toList.drop off).take (T t).cells.length)
          (by simp; omega) ((h3.drop off).take _) (fun j u hu => by
            rw [cell_of_row w b (off + j) vs bt (0, 0) h2]
            rw [List.getElem?_take] at hu
            split at hu
            · simpa using hu
            · cases hu)
        rw [(valOf_drop (T := T) (t := t) (cs := cs) (off := off) (by omega)).resolve_right hc]
        refine ⟨v, ?_, .of_A hr⟩
        simp only [RV.rv, rvGet, h5]
        simp [asAddr, hv, Result.andThen]
      · cases h
    · cases h
theorem resL_sound {N : Nat} {γ : Nat → Value} {I : Nat → Prop} {s : St} {a : Act} (hT : TOK P T) (hs : RelS T U N γ w I φ s a) : ∀ {res : List RV} {as : List AV} (_ : resL T s res = some as),
    ∃ vs, ((res.map RV.rv).mapM (rvGet a.tmps)).run P w = .ok vs w ∧ All2 (RelV T w I φ) as vs
  | [], as, h => by
    obtain rfl := Option.some.inj h
    exact ⟨[], by simp, .nil⟩
  | r :: l, as, h => by
    simp only [resL] at h
    split at h
    · rename_i av hav
      split at h
      · rename_i as' has
        obtain rfl := Option.some.inj h
        obtain ⟨v, h1, h2⟩ := resV1_sound hT hs hav
        obtain ⟨vs, h3, h4⟩ := resL_sound hT hs has
        refine ⟨v :: vs, ?_, .cons h2 h4⟩
        rw [List.map_cons, List.mapM_cons]
        simp only [Sem.run_bind, h1, Result.andThen_ok, h3, Sem.run_pure]
      · cases h
    · cases h
theorem run_results {N : Nat} {γ : Nat → Value} {I : Nat → Prop} {s : St} {a : Act} (hT : TOK P T) (hs : RelS T U N γ w I φ s a) {fn : Func} {res : List RV} (hres : fn.results = (res.map RV.rv).toArray) {as : List AV} (h : resL T s res = some as) :
    ∃ vs, (results fn a.tmps).run P w = .ok (packV vs) w ∧ All2 (RelV T w I φ) as vs := by
  obtain ⟨vs, h1, h2⟩ := resL_sound hT hs h
  refine ⟨vs, ?_, h2⟩
  rw [show results fn a.tmps = (do let vs ← fn.results.mapM (rvGet a.tmps); pure (if h : vs.size = 1 then vs[0] else .tuple vs)) from rfl]
  rw [hres, List.mapM_toArray]
  simp only [map_eq_pure_bind, bind_assoc, pure_bind, Sem.run_bind, h1, Result.andThen_ok, Sem.run_pure]
  cases vs with
  | nil => rfl
  | cons a l => cases l with
    | nil => rfl
    | cons b l => simp [packV]

theorem callF_sound (hT : TOK P T) (hE : EOK P T) (hmx : P.follows .mixedOrders = true) {c : Cx} {F : Nat → Nat → List AV → Option (List AV)} (hF : EnvOK P T c.env F) (hIn : ∀ id i g F, c.inl id i = some (g, F) → InlOK P T g F) (hit : c.it = itr) {g : Nat} {fn : Func} {code : Code} {rs : List RSh} {res : List RV}
    (hfn : P.funcs[g]? = some fn) (hb : fn.body = some code) (hres : fn.results = (res.map RV.rv).toArray) (hname : fn.name ≠ "runtime.NumGoroutine") (hd : ∀ d ∈ dstsC code, d < fn.ntmps) (hN : fn.ntmps ≤ 1000000) {k : Nat} {args : List AV} {ds : List D} (hA : args.length ≤ 1000000) (hr0 : callF T c rs res code k args = some ds) :
    CallOK P T g args (unRL rs ds 0).1 := by
  refine ⟨unRL_nun ds rs 0, ⟨fn, hfn, hname, by rw [hb]; simp⟩, fun w I vs hfx hI hv => ?_⟩
  refine calls_of_wp hfn hb ?_
  have hvl := hv.len
  refine exec_sound (U := fun b => w.heap.size ≤ b) (γ := fun _ => undef) (N := vs.toArray.size + (fn.ntmps - vs.toArray.size)) hT hE hmx hF hIn hit code (List D) k ⟨fun i => args.getD i .undef, fun _ => .unborn, 0⟩ _ ds _ w I noφ _ (fun d hd' => by have := hd d hd'; omega) ⟨fun i => ?_, ⟨fun _ => rfl, fun _ _ _ h => h.elim, fun _ _ _ _ _ h => h.elim, hI, fun _ h => h⟩, by simp, rfl, by simp; omega, hfx⟩ hr0 ?_
  · by_cases hi : i < args.length
    · obtain ⟨a, ha⟩ : ∃ a, args[i]? = some a := ⟨_, List.getElem?_eq_getElem hi⟩
      obtain ⟨b, hb, hab⟩ := hv.get ha
      have e1 : args.getD i .undef = a := by rw [List.getD_eq_getElem?_getD, ha]; rfl
      have hiv : i < vs.length := hv.len ▸ hi
      have e2 : (vs.toArray ++ Array.replicate (fn.ntmps - vs.toArray.size) undef).getD i undef = b := by
        have h1 : vs[i] = b := by rw [List.getElem?_eq_getElem hiv] at hb; exact Option.some.inj hb
        simp [Array.getD_eq_getD_getElem?, Array.getElem?_append, hiv, hb, h1]
      show RelV T w I noφ (args.getD i .undef) _
      rw [tv_low (by omega)]
      show RelV T w I noφ (args.getD i .undef) _
      rw [e1, e2]
      exact .of_A hab
    · have e1 : args.getD i .undef = .undef := by rw [List.getD_eq_getElem?_getD, List.getElem?_eq_none (by omega)]; rfl
      show RelV T w I noφ (args.getD i .undef) _
      rw [e1]
      exact .of_C trivial
  · intro k' o s' a' w' I' φ' hK hs x _
    have main : (match resL T s' res with | some vs => (pkTL T rs vs).run (fun ds _ _ _ => some ds) s'.h [] [] | none => none) = some ds → a'.defers = [] ∧ ∃ v, (results fn a'.tmps).run P w' = .ok v w' ∧ ∃ (rs' : List Value) (I'' : Nat → Prop), Ending.returned v = .returned (packV rs') ∧ Below w.heap.size w w' ∧ (∀ b, I b → I'' b) ∧ (∀ b, I'' b → I b ∨ (w.heap.size ≤ b ∧ b < w'.heap.size)) ∧
      All2 (ResA T w' I'') (unRL rs ds 0).1 rs' ∧ Dis (flatR (unRL rs ds 0).1 rs') ∧ ∀ p ∈ flatR (unRL rs ds 0).1 rs', ∀ e x, p.1 = .own e x → ∀ b, blk p.2 = some b → w.heap.size ≤ b ∧ ¬ I'' b := by
      intro hr
      split at hr
      case h_2 => cases hr
      rename_i avs havs
      obtain ⟨rvs, hrun, hv'⟩ := run_results hT hs hres havs
      refine ⟨hs.df, _, hrun, rvs, ?_⟩
      obtain ⟨ds', h', r', ws', I2, X', hr, m2, x2, hX, _, bk⟩ := pkTL_A (X := fun _ => False) hs.mem (fun b h => h.elim) hv' hr
      obtain rfl := Option.some.inj hr
      obtain ⟨b1, b2, b3, b4, b5⟩ := bk [] []
      simp only [List.nil_append, List.append_nil, List.length_nil] at b1 b2 b3 b4 b5
      refine ⟨I2, rfl, ⟨x.os, x.tape, x.output, x.size, fun b hb => by
        by_cases hbw : b < w.heap.size
        · exact x.keep b hbw (by omega)
        · omega⟩, fun b hb => x2.imm b (x.imm b hb), fun b hb => ?_, b1, b4, fun p hp e y he b hb => ?_⟩
      · have hlt := m2.lt b hb
        rcases x2.new b hb with h | h
        · rcases x.new b h with h | h
          · exact .inl h
          · exact .inr ⟨h, hlt⟩
        · exact .inr ⟨h, hlt⟩
      · have := hX b (b3 p hp e y he b hb).1
        exact ⟨this.1, this.2.1⟩
    cases o with
    | nrm => exact main hK
    | ret => exact main hK
    | exit id => cases hK
end
end Go.Sx
