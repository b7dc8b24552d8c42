/- Calls: what is handed over, what comes back. -/
import Derived.Test.YtlhbonpdlghlbaaDoorSxAll
set_option linter.unusedVariables false
set_option linter.unusedSimpArgs false
namespace Go.Sx
open Go.RowKit
def noφ : Nat → Option Value := fun _ => none
section
variable {P : Program} {T : Nat → TyI} {U : Nat → Prop} {w w' : World} {I I' : Nat → Prop} {φ : Nat → Option Value} {h : Tab} {ρ : Operand → AV} {ρ' : Operand → Value} {o : Oper}

/-- A cell that came back: a new row of one's own, or what nobody changes. -/
def ResC (T : Nat → TyI) (w : World) (I : Nat → Prop) : AV → Value → Prop
  | .own e l, v => OwnR T w I e l v ∧ (T e).cells ≠ []
  | .skip, _ => False
  | a, v => RelC T w I noφ a v
def ResA (T : Nat → TyI) (w : World) (I : Nat → Prop) : AV → Value → Prop
  | .agg l, v => ∃ cs, v = .agg cs ∧ All2 (ResC T w I) l cs.toList
  | a, v => ResC T w I a v
/-- Everything that came back, cell by cell. -/
def flatR : List AV → List Value → List (AV × Value)
  | a :: as, v :: vs => (cellsV a).zip v.cells.toList ++ flatR as vs
  | _, _ => []
/-- No two new rows lie in one block. -/
def Dis : List (AV × Value) → Prop
  | [] => True
  | p :: l => (∀ e x, p.1 = .own e x → ∀ q ∈ l, ∀ e' x', q.1 = .own e' x' → ∀ b, blk p.2 = some b → blk q.2 ≠ some b) ∧ Dis l
theorem Dis.tail : ∀ {l m : List (AV × Value)}, Dis (l ++ m) → Dis m
  | [], m, h => h
  | p :: l, m, h => Dis.tail (l := l) h.2
/-- The blocks of what came back are nobody's. -/
def FreshL (w : World) (U : Nat → Prop) (I : Nat → Prop) (φ : Nat → Option Value) (h : Tab) (l : List (AV × Value)) : Prop :=
  ∀ p ∈ l, ∀ e x, p.1 = .own e x → ∀ b, blk p.2 = some b → ¬ I b ∧ U b ∧ ∀ id v, live (h id) → φ id = some v → ¬ has w (h id) v b

def packV : List Value → Value
  | [v] => v
  | rs => .tuple rs.toArray
/-- A call of g at these arguments comes to these results. -/
def CallOK (P : Program) (T : Nat → TyI) (g : Nat) (args res : List AV) : Prop :=
  (∀ a ∈ res, a ≠ .undef) ∧ (∃ fn, P.funcs[g]? = some fn ∧ fn.name ≠ "runtime.NumGoroutine" ∧ fn.body ≠ none) ∧
  ∀ (w : World) (I : Nat → Prop) (vs : List Value), Facts T w I → (∀ b, I b → b < w.heap.size) → All2 (RelA T w I noφ) args vs →
    Calls P g vs.toArray w fun e w' => ∃ (rs : List Value) (I' : Nat → Prop), e = .returned (packV rs) ∧ Below w.heap.size w w' ∧ (∀ b, I b → I' b) ∧ (∀ b, I' b → I b ∨ (w.heap.size ≤ b ∧ b < w'.heap.size)) ∧
      All2 (ResA T w' I') res rs ∧ Dis (flatR res rs) ∧ ∀ p ∈ flatR res rs, ∀ e x, p.1 = .own e x → ∀ b, blk p.2 = some b → w.heap.size ≤ b ∧ ¬ I' b

/-! ### What is handed over -/
theorem argV_sound {R : Type} {K : AV → Tab → List Nat → List Nat → Option R} {x : R} {r ws : List Nat} (hm : Mem T U w I φ h) (hI : ∀ b, I b → I' b) {c : CT} {a : AV} {v : Value} (hv : RelC T w I φ a v)
    (hl : ∀ id, id ∈ lentC a → ∀ e l f, h id = .row e l f → ∀ u b, φ id = some u → blk u = some b → I' b) (hr : (argV c a).run K h r ws = some x) : ∃ a' r', K a' h r' ws = some x ∧ RelC T w I' noφ a' v := by
  have mono : ∀ {c d u}, RepC T w I c d u → RepC T w I' c d u := fun hh => hh.mono hI (fun _ _ => rfl)
  unfold argV at hr
  split at hr
  · rename_i id
    rw [run_get] at hr
    obtain ⟨hφ, _⟩ := hv
    have he := hm.ent id
    cases hE : h id <;> rw [hE] at hr he <;> simp only [run_fail] at hr <;> try cases hr
    · rename_i e l f
      obtain ⟨u, hu, hown, _⟩ := he
      obtain rfl := Option.some.inj (hφ.symm.trans hu)
      exact ⟨_, _, hr, hown.rep hI (fun b hb => hl id (by simp [lentC]) e l f hE _ b hφ hb)⟩
    · obtain ⟨u, hu, hrep, _⟩ := he
      obtain rfl := Option.some.inj (hφ.symm.trans hu)
      exact ⟨_, _, hr, mono hrep⟩
  · exact ⟨_, _, hr, mono hv.1⟩
  · obtain rfl : v = .slice none 0 0 := hv
    split at hr
    · exact ⟨_, _, hr, .nil _ _ _ _ rfl⟩
    · simp [run_fail] at hr
  · obtain ⟨ad, rfl⟩ := hv
    split at hr
    · exact ⟨_, _, hr, .nil _ _ _ _ rfl⟩
    · simp [run_fail] at hr
  · exact ⟨_, _, hr, hv⟩
  · exact ⟨_, _, hr, hv⟩
  · exact ⟨_, _, hr, hv⟩
  · exact ⟨_, _, hr, mono hv⟩
  · exact ⟨_, _, hr, hv⟩
  · simp [run_fail] at hr
theorem argVs_sound {R : Type} {x : R} (hm : Mem T U w I φ h) (hI : ∀ b, I b → I' b) : ∀ {cs : List CT} {as : List AV} {vs : List Value} {K : List AV → Tab → List Nat → List Nat → Option R} {r ws : List Nat} (_ : All2 (RelC T w I φ) as vs)
    (_ : ∀ id, id ∈ lentCs as → ∀ e l f, h id = .row e l f → ∀ u b, φ id = some u → blk u = some b → I' b) (_ : (argVs cs as).run K h r ws = some x), ∃ as' r', K as' h r' ws = some x ∧ All2 (RelC T w I' noφ) as' vs
  | [], [], vs, K, r, ws, hv, _, hr => by cases hv; exact ⟨_, _, hr, .nil⟩
  | c :: cs, a :: as, vs, K, r, ws, hv, hl, hr => by
    cases hv with
    | cons h1 h2 =>
      simp only [argVs] at hr
      rw [run_bind] at hr
      obtain ⟨a', r', hr, h3⟩ := argV_sound hm hI h1 (fun id hid => hl id (by simp [lentCs, hid])) hr
      rw [run_bind] at hr
      obtain ⟨as', r'', hr, h4⟩ := argVs_sound hm hI h2 (fun id hid => hl id (by simp [lentCs, hid])) hr
      exact ⟨_, _, hr, .cons h3 h4⟩
  | [], _ :: _, _, K, r, ws, _, _, hr => by simp [argVs, run_fail] at hr
  | _ :: _, [], _, K, r, ws, _, _, hr => by simp [argVs, run_fail] at hr
theorem argT_sound {R : Type} {K : AV → Tab → List Nat → List Nat → Option R} {x : R} {r ws : List Nat} (hm : Mem T U w I φ h) (hI : ∀ b, I b → I' b) {t : Nat} {a : AV} {v : Value} (hv : RelV T w I φ a v)
    (hl : ∀ id, id ∈ lentV a → ∀ e l f, h id = .row e l f → ∀ u b, φ id = some u → blk u = some b → I' b) (hr : (argT T t a).run K h r ws = some x) : ∃ a' r', K a' h r' ws = some x ∧ RelA T w I' noφ a' v := by
  unfold argT at hr
  split at hr
  · obtain ⟨cs, rfl, hcs⟩ := hv
    rw [run_bind] at hr
    obtain ⟨as', r', hr, h4⟩ := argVs_sound hm hI hcs hl hr
    exact ⟨_, _, hr, cs, rfl, h4⟩
  · rename_i hno
    have hlc : lentV a = lentC a := by cases a <;> first | rfl | (rename_i l; exact absurd rfl (hno l))
    have hnt : ∀ l, a ≠ .tup l := fun l e => by rw [e] at hr; simp [argV, run_fail] at hr
    have hA := relA_of_V hv hnt
    have hC : RelC T w I φ a v := by
      unfold RelA at hA
      split at hA
      · exact absurd rfl (hno _)
      · exact hA
    obtain ⟨a', r', hr, h3⟩ := argV_sound hm hI hC (fun id hid => hl id (by rw [hlc]; exact hid)) hr
    exact ⟨_, _, hr, .of_C h3⟩
theorem argTs_sound {R : Type} {x : R} (hm : Mem T U w I φ h) (hI : ∀ b, I b → I' b) : ∀ {ps : List (Nat × AV)} {vs : List Value} {K : List AV → Tab → List Nat → List Nat → Option R} {r ws : List Nat} (_ : All2 (RelV T w I φ) (ps.map (·.2)) vs)
    (_ : ∀ id, id ∈ lentL (ps.map (·.2)) → ∀ e l f, h id = .row e l f → ∀ u b, φ id = some u → blk u = some b → I' b) (_ : (argTs T ps).run K h r ws = some x), ∃ as' r', K as' h r' ws = some x ∧ All2 (RelA T w I' noφ) as' vs
  | [], vs, K, r, ws, hv, _, hr => by cases hv; exact ⟨_, _, hr, .nil⟩
  | p :: ps, vs, K, r, ws, hv, hl, hr => by
    cases hv with
    | cons h1 h2 =>
      simp only [argTs] at hr
      rw [run_bind] at hr
      obtain ⟨a', r', hr, h3⟩ := argT_sound hm hI h1 (fun id hid => hl id (by simp [lentL, hid])) hr
      rw [run_bind] at hr
      obtain ⟨as', r'', hr, h4⟩ := argTs_sound hm hI h2 (fun id hid => hl id (by simp [lentL, hid])) hr
      exact ⟨_, _, hr, .cons h3 h4⟩

/-! ### What comes back -/
theorem resV_sound {R : Type} {K : AV → Tab → List Nat → List Nat → Option R} {x : R} {r ws : List Nat} (hm : Mem T U w I φ h) {n : Nat} {a : AV} {v : Value} {L : List (AV × Value)} (hv : ResC T w I a v) (hf : FreshL w U I φ h ((a, v) :: L)) (hd : Dis ((a, v) :: L))
    (hr : (resV n a).run K h r ws = some x) : ∃ a' h' r' ws' φ', K a' h' r' ws' = some x ∧ Mem T U w I φ' h' ∧ Ext U w I φ w I φ' ∧ RelC T w I φ' a' v ∧ FreshL w U I φ' h' L ∧ Dis L := by
  unfold resV at hr
  split at hr
  · rename_i e l
    obtain ⟨hown, hT⟩ := hv
    rw [run_bind, run_new] at hr
    obtain ⟨hu, hr⟩ := hr
    have hφ : φ n = none := by have := hm.ent n; rw [hu] at this; exact this
    obtain ⟨m2, x2⟩ := hm.add (id := n) (v := v) (E := .row e l false) (.inl hφ) ⟨v, by simp [setφ], hown, (fun h => by cases h), hT⟩ (fun _ b hb => by
      obtain ⟨h1, h2, h3⟩ := hf (.own e l, v) (by simp) e l rfl b (has_row.1 hb)
      exact ⟨h1, h2, fun id' v' _ hl' hv' => h3 id' v' hl' hv'⟩)
    refine ⟨_, _, _, _, _, hr, m2, x2, relC_orow hown.hdr, fun p hp e' l' he b hb => ?_, hd.2⟩
    obtain ⟨h1, h2, h3⟩ := hf p (by simp [hp]) e' l' he b hb
    refine ⟨h1, h2, fun id' v' hl' hv' hbv => ?_⟩
    by_cases hji : id' = n
    · subst hji
      have : v' = v := by simp [setφ] at hv'; exact hv'.symm
      subst this
      rw [Tab.upd_same] at hbv
      exact hd.1 e l rfl p hp e' l' he b (has_row.1 hbv) hb
    · rw [Tab.upd_other _ _ hji] at hl' hbv
      have : φ id' = some v' := by simpa [setφ, hji] using hv'
      exact h3 id' v' hl' this hbv
  · rename_i hno
    have hC : RelC T w I noφ a v := by
      cases a <;> first | exact hv | exact hv.elim | (rename_i e l; exact absurd rfl (hno e l))
    have x0 : Ext U w I noφ w I φ := ⟨rfl, rfl, rfl, Nat.le_refl _, fun _ _ _ => rfl, fun _ h => h, fun _ _ => rfl, fun _ h => .inl h, fun _ _ h => by cases h⟩
    exact ⟨_, _, _, _, _, hr, hm, .refl, hC.ext x0, fun p hp => hf p (by simp [hp]), hd.2⟩
theorem resVs_sound {R : Type} {x : R} : ∀ {as : List AV} {vs : List Value} {n : Nat} {φ : Nat → Option Value} {h : Tab} {L : List (AV × Value)} {K : List AV → Tab → List Nat → List Nat → Option R} {r ws : List Nat} (_ : Mem T U w I φ h) (_ : All2 (ResC T w I) as vs) (_ : FreshL w U I φ h (as.zip vs ++ L)) (_ : Dis (as.zip vs ++ L))
    (_ : (resVs n as).run K h r ws = some x), ∃ as' h' r' ws' φ', K as' h' r' ws' = some x ∧ Mem T U w I φ' h' ∧ Ext U w I φ w I φ' ∧ All2 (RelC T w I φ') as' vs ∧ FreshL w U I φ' h' L ∧ Dis L
  | [], vs, n, φ, h, L, K, r, ws, hm, hv, hf, hd, hr => by cases hv; exact ⟨_, _, _, _, _, hr, hm, .refl, .nil, hf, hd⟩
  | a :: as, vs, n, φ, h, L, K, r, ws, hm, hv, hf, hd, hr => by
    cases hv with
    | cons h1 h2 =>
      simp only [resVs] at hr
      rw [run_bind] at hr
      obtain ⟨a', h', r', ws', φ', hr, m1, x1, h3, hf, hd⟩ := resV_sound hm h1 hf hd hr
      rw [run_bind] at hr
      obtain ⟨as', h'', r'', ws'', φ'', hr, m2, x2, h4, hf, hd⟩ := resVs_sound m1 h2 hf hd hr
      exact ⟨_, _, _, _, _, hr, m2, x1.trans x2, .cons (h3.ext x2) h4, hf, hd⟩
theorem resC_one {a : AV} {v : Value} (h : ResC T w I a v) (hu : a ≠ .undef) : v.oneCell' = true := by
  cases a <;> simp only [ResC, RelC] at h <;> try exact h.elim
  case undef => exact absurd rfl hu
  case srow => exact h.one
  case frow => exact h.1.one
  case krow => exact h.1.one
  case esl => obtain ⟨a, rfl⟩ := h; rfl
  case orow => obtain ⟨_, a, n, c, rfl⟩ := h; rfl
  case mapr => obtain ⟨_, r, rfl⟩ := h; rfl
  case ptr => obtain ⟨b, _, rfl⟩ := h; rfl
  case eptr => obtain ⟨b, n, cap, _, _, _, rfl⟩ := h; rfl
  case sptr => obtain ⟨b, o, _, rfl, _⟩ := h; rfl
  case nptr => rcases h with ⟨_, rfl⟩ | ⟨_, b, _, rfl, _⟩ <;> rfl
  case clo => obtain ⟨cs, rfl, _⟩ := h; rfl
  case own => obtain ⟨a, n, c, rfl⟩ := h.1.hdr; rfl
  all_goals (subst h; rfl)
theorem resT_sound {R : Type} {K : AV → Tab → List Nat → List Nat → Option R} {x : R} {r ws : List Nat} (hm : Mem T U w I φ h) {n : Nat} {a : AV} {v : Value} {L : List (AV × Value)} (hv : ResA T w I a v) (hun : a ≠ .undef) (hf : FreshL w U I φ h ((cellsV a).zip v.cells.toList ++ L)) (hd : Dis ((cellsV a).zip v.cells.toList ++ L))
    (hr : (resT n a).run K h r ws = some x) : ∃ a' h' r' ws' φ', K a' h' r' ws' = some x ∧ Mem T U w I φ' h' ∧ Ext U w I φ w I φ' ∧ RelA T w I φ' a' v ∧ FreshL w U I φ' h' L ∧ Dis L := by
  unfold resT at hr
  split at hr
  · obtain ⟨cs, rfl, hcs⟩ := hv
    rw [run_bind] at hr
    obtain ⟨as', h', r', ws', φ', hr, m, x1, h4, hf, hd⟩ := resVs_sound hm hcs hf hd hr
    exact ⟨_, _, _, _, _, hr, m, x1, ⟨cs, rfl, h4⟩, hf, hd⟩
  · rename_i hno
    have hC : ResC T w I a v := by
      unfold ResA at hv
      split at hv
      · exact absurd rfl (hno _)
      · exact hv
    have hc : cellsV a = [a] := by cases a <;> first | rfl | (rename_i l; exact absurd rfl (hno l))
    have hone := resC_one hC hun
    have hvc : v.cells = #[v] := by cases v <;> first | rfl | (cases hone)
    rw [hc, hvc] at hf hd
    obtain ⟨a', h', r', ws', φ', hr, m, x1, h4, hf, hd⟩ := resV_sound hm hC hf hd hr
    exact ⟨_, _, _, _, _, hr, m, x1, .of_C h4, hf, hd⟩
theorem resTs_sound {R : Type} {x : R} : ∀ {as : List AV} {vs : List Value} {n : Nat} {φ : Nat → Option Value} {h : Tab} {K : List AV → Tab → List Nat → List Nat → Option R} {r ws : List Nat} (_ : Mem T U w I φ h) (_ : All2 (ResA T w I) as vs) (_ : ∀ a ∈ as, a ≠ .undef) (_ : FreshL w U I φ h (flatR as vs)) (_ : Dis (flatR as vs))
    (_ : (resTs n as).run K h r ws = some x), ∃ as' h' r' ws' φ', K as' h' r' ws' = some x ∧ Mem T U w I φ' h' ∧ Ext U w I φ w I φ' ∧ All2 (RelA T w I φ') as' vs
  | [], vs, n, φ, h, K, r, ws, hm, hv, hu, hf, hd, hr => by cases hv; exact ⟨_, _, _, _, _, hr, hm, .refl, .nil⟩
  | a :: as, vs, n, φ, h, K, r, ws, hm, hv, hu, hf, hd, hr => by
    cases hv with
    | cons h1 h2 =>
      simp only [resTs] at hr
      rw [run_bind] at hr
      obtain ⟨a', h', r', ws', φ', hr, m1, x1, h3, hf, hd⟩ := resT_sound hm h1 (hu a (by simp)) hf hd hr
      rw [run_bind] at hr
      obtain ⟨as', h'', r'', ws'', φ'', hr, m2, x2, h4⟩ := resTs_sound m1 h2 (fun b hb => hu b (by simp [hb])) hf hd hr
      exact ⟨_, _, _, _, _, hr, m2, x1.trans x2, .cons (h3.ext x2) h4⟩

theorem Mem.widen (hm : Mem T U w I φ h) (hsub : ∀ b, I b → I' b) (hlt : ∀ b, I' b → b < w.heap.size) (hlive : ∀ id v b, live (h id) → φ id = some v → has w (h id) v b → ¬ I' b) (hU : ∀ b, I' b → I b ∨ U b) :
    Mem T U w I' φ h ∧ Ext U w I φ w I' φ := by
  have x : Ext U w I φ w I' φ := ⟨rfl, rfl, rfl, Nat.le_refl _, fun _ _ _ => rfl, hsub, fun _ _ => rfl, hU, fun _ _ h => h⟩
  exact ⟨⟨fun j => (hm.ent j).imm x, fun j u b hl hj hb => ⟨hlive j u b hl hj hb, (hm.own j u b hl hj hb).2⟩, hm.disj, hlt, hm.up⟩, x⟩
/-- The blocks of rows of one's own that are lent. -/
def LentB (φ : Nat → Option Value) (h : Tab) (ids : List Nat) (b : Nat) : Prop := ∃ id, id ∈ ids ∧ (∃ e l f, h id = .row e l f) ∧ ∃ v, φ id = some v ∧ blk v = some b
theorem Mem.freeze' (hm : Mem T U w I φ h) {id e : Nat} {l : List D} {f : Bool} (hE : h id = .row e l f) {v : Value} (hv : φ id = some v) :
    Mem T U w (fun b => I b ∨ blk v = some b) φ (h.upd id (.frz e l)) ∧ Ext U w I φ w (fun b => I b ∨ blk v = some b) φ := by
  have hlive : live (h id) := by rw [hE]; trivial
  have he := hm.ent id
  rw [hE] at he
  obtain ⟨v', hv', hown, _, hT⟩ := he
  obtain rfl := Option.some.inj (hv.symm.trans hv')
  have m0 := hm.kill (id := id) (by rw [hv]; simp)
  obtain ⟨m1, x1⟩ := m0.widen (I' := fun b => I b ∨ blk v = some b) (fun _ h => .inl h) (fun b hb => hb.elim (hm.lt b) (fun hb => hown.lt hb)) (fun id' v' b hl' hv' hb' hI => by
    by_cases hji : id' = id
    · subst hji; rw [Tab.upd_same] at hl'; exact hl'
    · rw [Tab.upd_other _ _ hji] at hl' hb'
      exact hI.elim (hm.own id' v' b hl' hv' hb').1 (fun hb => hji (hm.disj id' id v' v b hl' hlive hv' hv hb' (.inl hb)))) (fun b hb => hb.imp (fun h => h) (fun hb => (hm.own id v b hlive hv (.inl hb)).2))
  obtain ⟨m2, x2⟩ := m1.add (id := id) (v := v) (E := .frz e l) (.inr hv) (by
    rw [setφ_self hv]
    exact ⟨v, hv, hown.rep (fun _ h => .inl h) (fun _ h => .inr h), hT⟩) (fun hl => hl.elim)
  rw [setφ_self hv] at m2
  have : (h.upd id .dead).upd id (.frz e l) = h.upd id (.frz e l) := by
    funext j; by_cases hj : j = id
    · subst hj; simp [Tab.upd_same]
    · simp [Tab.upd_other _ _ hj]
  rw [this] at m2
  exact ⟨m2, x1⟩
theorem freezeL_sound {R : Type} {x : R} : ∀ {ids : List Nat} {I : Nat → Prop} {h : Tab} {K : Unit → Tab → List Nat → List Nat → Option R} {r ws : List Nat} (_ : Mem T U w I φ h) (_ : (freezeL ids).run K h r ws = some x),
    ∃ h' r' ws' I', K () h' r' ws' = some x ∧ Mem T U w I' φ h' ∧ Ext U w I φ w I' φ ∧ (∀ b, I' b ↔ I b ∨ LentB φ h ids b) ∧ (∀ id, live (h' id) → h' id = h id)
  | [], I, h, K, r, ws, hm, hr => ⟨_, _, _, _, hr, hm, .refl, fun b => ⟨.inl, fun h => h.elim (fun h => h) (fun ⟨id, hid, _⟩ => by simp at hid)⟩, fun _ _ => rfl⟩
  | id :: ids, I, h, K, r, ws, hm, hr => by
    simp only [freezeL] at hr
    rw [run_get] at hr
    cases hE : h id <;> rw [hE] at hr <;> simp only [run_fail] at hr <;> try cases hr
    case row e l f =>
      rw [run_put] at hr
      have he := hm.ent id
      rw [hE] at he
      obtain ⟨v, hv, _⟩ := he
      obtain ⟨m1, x1⟩ := hm.freeze' hE hv
      obtain ⟨h', r', ws', I', hr, m2, x2, h3, h4⟩ := freezeL_sound m1 hr
      refine ⟨h', r', ws', I', hr, m2, x1.trans x2, fun b => (h3 b).trans ⟨fun hb => ?_, fun hb => ?_⟩, fun j hj => ?_⟩
      · rcases hb with (hb | hb) | ⟨j, hj, ⟨e', l', f', hjE⟩, u, hu, hub⟩
        · exact .inl hb
        · exact .inr ⟨id, by simp, ⟨e, l, f, hE⟩, v, hv, hb⟩
        · by_cases hji : j = id
          · subst hji; rw [Tab.upd_same] at hjE; cases hjE
          · rw [Tab.upd_other _ _ hji] at hjE
            exact .inr ⟨j, by simp [hj], ⟨e', l', f', hjE⟩, u, hu, hub⟩
      · rcases hb with hb | ⟨j, hj, ⟨e', l', f', hjE⟩, u, hu, hub⟩
        · exact .inl (.inl hb)
        · by_cases hji : j = id
          · subst hji
            obtain rfl := Option.some.inj (hu.symm.trans hv)
            exact .inl (.inr hub)
          · have hj' : j ∈ ids := by
              rcases List.mem_cons.1 hj with h | h
              · exact absurd h hji
              · exact h
            exact .inr ⟨j, hj', ⟨e', l', f', by rw [Tab.upd_other _ _ hji]; exact hjE⟩, u, hu, hub⟩
      · have h5 := h4 j hj
        by_cases hji : j = id
        · subst hji
          rw [h5, Tab.upd_same] at hj
          exact hj.elim
        · rw [h5, Tab.upd_other _ _ hji]
    case frz e l =>
      obtain ⟨h', r', ws', I', hr, m2, x2, h3, h4⟩ := freezeL_sound hm hr
      refine ⟨h', r', ws', I', hr, m2, x2, fun b => (h3 b).trans ⟨fun hb => hb.imp (fun h => h) (fun ⟨j, hj, hh⟩ => ⟨j, by simp [hj], hh⟩), fun hb => hb.imp (fun h => h) (fun ⟨j, hj, ⟨e', l', f', hjE⟩, hh⟩ => ?_)⟩, h4⟩
      rcases List.mem_cons.1 hj with rfl | hj
      · rw [hE] at hjE; cases hjE
      · exact ⟨j, hj, ⟨e', l', f', hjE⟩, hh⟩

theorem RepC.scalar {c : CT} {d : D} {u : Value} (hc : ∀ e, c ≠ .sl e) (h : RepC T w I c d u) : RepC T w I' c d u := by
  cases h with
  | int k d => exact .int k _
  | bool d => exact .bool _
  | str d => exact .str _
  | nil e' d a cap hd => exact absurd rfl (hc e')
  | sl e' d b off n cap u hn hb hcc hl' hr' => exact absurd rfl (hc e')
theorem noleak_C {a : AV} {v : Value} (hl : leakC T a = false) (h : ResC T w I a v) : ResC T w I' a v := by
  cases a <;> simp only [ResC, RelC] at h ⊢ <;> simp only [leakC] at hl <;> try exact h
  all_goals first | cases hl | skip
  case own e l =>
    obtain ⟨⟨xs, h1, h2⟩, hT⟩ := h
    refine ⟨⟨xs, h1, fun i j hi hj => ?_⟩, hT⟩
    obtain ⟨u, hu, hr⟩ := h2 i j hi hj
    refine ⟨u, hu, ?_⟩
    have hc := List.any_eq_false.1 hl ((T e).cells.getD j .other) (by rw [List.getD_eq_getElem?_getD, List.getElem?_eq_getElem hj]; exact List.getElem_mem hj)
    refine RepC.scalar (fun e' he => ?_) hr
    rw [he] at hc
    simp at hc
theorem noleak_Cs : ∀ {as : List AV} {vs : List Value}, leakCs T as = false → All2 (ResC T w I) as vs → All2 (ResC T w I') as vs
  | [], vs, _, h => by cases h; exact .nil
  | a :: as, vs, hl, h => by
    cases h with
    | cons h1 h2 =>
      simp only [leakCs, Bool.or_eq_false_iff] at hl
      exact .cons (noleak_C hl.1 h1) (noleak_Cs hl.2 h2)
theorem noleak_A {a : AV} {v : Value} (hl : leakV T a = false) (h : ResA T w I a v) : ResA T w I' a v := by
  unfold ResA at h ⊢
  unfold leakV at hl
  split at h
  · obtain ⟨cs, rfl, hcs⟩ := h
    exact ⟨cs, rfl, noleak_Cs hl hcs⟩
  · rename_i hno
    split at hl
    · exact absurd rfl (hno _)
    · exact noleak_C hl h
theorem noleak_L : ∀ {as : List AV} {vs : List Value}, leakL T as = false → All2 (ResA T w I) as vs → All2 (ResA T w I') as vs
  | [], vs, _, h => by cases h; exact .nil
  | a :: as, vs, hl, h => by
    cases h with
    | cons h1 h2 =>
      simp only [leakL, Bool.or_eq_false_iff] at hl
      exact .cons (noleak_A hl.1 h1) (noleak_L hl.2 h2)

theorem all2_mem {α β : Type} {R : α → β → Prop} {l : List α} {m : List β} (h : All2 R l m) {i : Nat} {a : α} {b : β} (ha : l[i]? = some a) (hb : m[i]? = some b) : R a b := by
  obtain ⟨b', hb', hr⟩ := h.get ha
  obtain rfl := Option.some.inj (hb.symm.trans hb')
  exact hr
theorem all2_zip_snd {α β γ : Type} {R : β → γ → Prop} : ∀ {l : List α} {m : List β} {n : List γ}, l.length = m.length → All2 R m n → All2 R ((l.zip m).map (·.2)) n
  | [], [], _, _, h => by cases h; exact .nil
  | a :: l, b :: m, n, hl, h => by
    cases h with
    | cons h1 h2 => exact .cons h1 (all2_zip_snd (by simpa using hl) h2)
  | [], _ :: _, _, hl, _ => by simp at hl
  | _ :: _, [], _, hl, _ => by simp at hl
theorem lent_sub : ∀ {l : List Nat} {m : List AV}, l.length = m.length → lentL ((l.zip m).map (·.2)) = lentL m
  | [], [], _ => rfl
  | a :: l, b :: m, hl => by simp only [List.zip_cons_cons, List.map_cons, lentL]; rw [lent_sub (by simpa using hl)]
  | [], _ :: _, hl => by simp at hl
  | _ :: _, [], hl => by simp at hl

/-- A call: what it hands over, and how it goes on with what comes back. -/
theorem aop_call {R : Type} {K : Step → Tab → List Nat → List Nat → Option R} {x : R} {r ws : List Nat} (hfx : Facts T w I) (hm : Mem T U w I φ h) (hρ : ∀ y, RelV T w I φ (ρ y) (ρ' y)) {u md : Nat} {f : Operand} {as : Array Operand} {ts : Array TypeId} (hρf : ∀ g, ρ' (.func g) = .func (.func g) #[] #[])
    (ho : o.op = .call { callee := .value f, args := as, argTypes := ts }) (hr : (aop T u md ρ (.call { callee := .value f, args := as, argTypes := ts })).run K h r ws = some x) :
    ∃ g args k r', K (.call g args k) h r' ws = some x ∧ ∀ res, CallOK P T g args res → ∃ vs, (execOp ρ' o).run P w = .ok (.enter g vs) w ∧ Calls P g vs w fun e w1 => ∃ v, e = .returned v ∧
      ∀ (R' : Type) (K2 : AV → Tab → List Nat → List Nat → Option R') (y : R') (r2 ws2 : List Nat), (k res).run K2 h r2 ws2 = some y → ∃ av h' r' ws' I' φ', K2 av h' r' ws' = some y ∧ Mem T U w1 I' φ' h' ∧ Ext U w I φ w1 I' φ' ∧ RelV T w1 I' φ' av v := by
  simp only [aop] at hr
  split at hr
  case h_2 => simp [run_fail] at hr
  rename_i g
  rw [run_chk, run_bind] at hr
  obtain ⟨hbq, hr⟩ := hr
  have hsz : ts.toList.length = (as.toList.map ρ).length := by simp [Nat.eq_of_beq_eq_true hbq]
  let Ic : Nat → Prop := fun b => I b ∨ LentB φ h (lentL (as.toList.map ρ)) b
  have hvals : All2 (RelV T w I φ) ((ts.toList.zip (as.toList.map ρ)).map (·.2)) (as.toList.map ρ') := all2_zip_snd hsz (all2_map ρ ρ' as.toList fun y _ => hρ y)
  obtain ⟨args, r', hr, hargs⟩ := argTs_sound (I' := Ic) hm (fun _ h => .inl h) hvals (fun id hid e l f hE u' b hu hb => .inr ⟨id, by rwa [lent_sub hsz] at hid, ⟨e, l, f, hE⟩, u', hu, hb⟩) hr
  refine ⟨g, args, _, _, hr, fun res hok => ?_⟩
  obtain ⟨hnu, ⟨fn, hfn, hname, hbody⟩, hcall⟩ := hok
  refine ⟨(as.map ρ'), ?_, ?_⟩
  · simp [execOp, ho, resolve, hρf, Deferred.ofValue, invoke, callFunc, hfn, hname, hbody]
  · have hIc : ∀ b, Ic b → b < w.heap.size := fun b hb => hb.elim (hm.lt b) (fun ⟨id, _, ⟨e, l, f, hE⟩, v, hv, hvb⟩ => hm.lt_own (by rw [hE]; trivial) hv hvb)
    have := hcall w Ic (as.toList.map ρ') (fun p hp => ⟨.inl (hfx p hp).1, (hfx p hp).2⟩) hIc hargs
    have harr : (as.toList.map ρ').toArray = as.map ρ' := by apply Array.ext'; simp
    rw [harr] at this
    refine this.mono fun e w1 ⟨rs, I', he, hbel, hsub, hnew, hres, hdis, hfresh⟩ => ⟨_, he, fun R' K2 y r2 ws2 hk => ?_⟩
    have hg : w.grownBy w1 none := ⟨hbel.os, hbel.tape, hbel.output, hbel.size, fun b hb _ => hbel.block b hb⟩
    obtain ⟨m1, x1⟩ := hm.grow hg (fun b hb => by cases hb)
    have hold : ∀ id v b, live (h id) → φ id = some v → has w1 (h id) v b → b < w.heap.size := fun id v b hl hv hb => hm.lt_has hl hv (has_back (fun r e => hg.block r (live_slice hl (hm.ent id) hv e) (fun e => by cases e)) hb)
    unfold backOf at hk
    rw [run_bind] at hk
    have hpost : ∀ {I2 h2 r3 ws3}, Mem T U w1 I2 φ h2 → Ext U w I φ w1 I2 φ → (∀ b, I2 b → I b ∨ LentB φ h (lentL (as.toList.map ρ)) b ∨ I' b) → (∀ id, live (h2 id) → h2 id = h id) → All2 (ResA T w1 I2) res rs →
        ((resTs u res).bind fun vs => M.ret (packAV vs)).run K2 h2 r3 ws3 = some y →
        ∃ av h' r' ws' I' φ', K2 av h' r' ws' = some y ∧ Mem T U w1 I' φ' h' ∧ Ext U w I φ w1 I' φ' ∧ RelV T w1 I' φ' av (packV rs) := by
      intro I2 h2 r3 ws3 m2 x2 hI2 hlive2 hres2 hk
      rw [run_bind] at hk
      have hf2 : FreshL w1 U I2 φ h2 (flatR res rs) := fun p hp e' l' he' b hb => by
        obtain ⟨h1, h2'⟩ := hfresh p hp e' l' he' b hb
        refine ⟨fun hI => ?_, hm.up b h1, fun id v hl hv hvb => ?_⟩
        · rcases hI2 b hI with hI | ⟨id, _, ⟨e, l, f, hE⟩, v, hv, hvb⟩ | hI
          · have := hm.lt b hI; omega
          · have := hold id v b (by rw [hE]; trivial) hv (.inl hvb); omega
          · exact h2' hI
        · have heq := hlive2 id hl
          rw [heq] at hl hvb
          have := hold id v b hl hv hvb
          omega
      obtain ⟨as', h', r', ws', φ', hk, m3, x3, h4⟩ := resTs_sound m2 hres2 hnu hf2 hdis hk
      refine ⟨_, h', r', ws', I2, φ', hk, m3, x2.trans x3, ?_⟩
      cases h4 with
      | nil => exact ⟨_, rfl, .nil⟩
      | cons ha ht =>
        cases ht with
        | nil => exact .of_A ha
        | cons hb ht => exact ⟨_, rfl, .cons ha (.cons hb ht)⟩
    cases hlk : leakL T res
    · rw [hlk] at hk
      exact hpost m1 x1 (fun b hb => .inl hb) (fun _ _ => rfl) (noleak_L hlk hres) hk
    · rw [hlk] at hk
      obtain ⟨h2, r3, ws3, I1, hk, m2, x2, hI1, hl2⟩ := freezeL_sound m1 hk
      obtain ⟨m3, x3⟩ := m2.widen (I' := fun b => I1 b ∨ I' b) (fun _ h => .inl h) (fun b hb => hb.elim (m2.lt b) (fun hb => (hnew b hb).elim (fun hb => Nat.lt_of_lt_of_le (hIc b hb) hbel.size) (fun hb => hb.2)))
        (fun id v b hl hv hvb hI => by
          have heq := hl2 id hl
          have hl' : live (h id) := by rw [← heq]; exact hl
          have hlt := hold id v b hl' hv (by rw [← heq]; exact hvb)
          rcases hI with hI | hI
          · exact (m2.own id v b hl hv hvb).1 hI
          · rcases hnew b hI with hI | hI
            · exact (m2.own id v b hl hv hvb).1 ((hI1 b).2 (show I b ∨ _ from hI))
            · omega)
        (fun b hb => hb.elim .inl (fun hb => (hnew b hb).elim (fun hb => .inl ((hI1 b).2 (show I b ∨ _ from hb))) (fun hb => .inr (hm.up b hb.1))))
      refine hpost m3 ((x1.trans x2).trans x3) (fun b hb => ?_) hl2 ?_ hk
      · rcases hb with hb | hb
        · rcases (hI1 b).1 hb with hb | hb
          · exact .inl hb
          · exact .inr (.inl hb)
        · exact .inr (.inr hb)
      · have mono : ∀ {a v}, ResC T w1 I' a v → ResC T w1 (fun b => I1 b ∨ I' b) a v := fun {a v} hh => by
          have x9 : Ext U w1 I' noφ w1 (fun b => I1 b ∨ I' b) noφ ∨ True := .inr trivial
          cases a <;> simp only [ResC] at hh ⊢
          case own e l =>
            obtain ⟨⟨xs, h1, h2⟩, hT⟩ := hh
            exact ⟨⟨xs, h1, fun i j hi hj => by obtain ⟨z, hz, hr⟩ := h2 i j hi hj; exact ⟨z, hz, hr.mono (fun _ h => .inr h) (fun _ _ => rfl)⟩⟩, hT⟩
          all_goals exact RelC.ext (U := fun _ => True) ⟨rfl, rfl, rfl, Nat.le_refl _, fun _ _ _ => rfl, fun _ h => .inr h, fun _ _ => rfl, fun _ _ => .inr trivial, fun _ _ h => h⟩ hh
        refine hres.imp fun a v hh => ?_
        unfold ResA at hh ⊢
        split at hh
        · obtain ⟨cs, rfl, hcs⟩ := hh
          exact ⟨cs, rfl, hcs.imp fun _ _ => mono⟩
        · exact mono hh
end
end Go.Sx
