/- A region: whatever order is drawn, the outcome is that of the text's order. -/
import Derived.Test.YtlhbonpdlghlbaaDoorSxCall
import Derived.Orders
set_option linter.unusedVariables false
set_option linter.unusedSimpArgs false
namespace Go.Sx
open Go.RowKit

/-- What the runs' ends do can be put behind them. -/
theorem run_K {α R : Type} (K : α → Tab → List Nat → List Nat → Option R) (m : M α) : ∀ (h : Tab) (r w : List Nat), m.run K h r w = (m.run (fun a h r w => some (a, h, r, w)) h r w).bind fun p => K p.1 p.2.1 p.2.2.1 p.2.2.2 := by
  induction m with
  | ret a => intro h r w; rfl
  | fail => intro h r w; rfl
  | br b x y ihx ihy => intro h r w; cases b; exact ihy h r w; exact ihx h r w
  | chk b k ih => intro h r w; cases b; rfl; exact ih h r w
  | get id k ih => intro h r w; exact ih _ h _ w
  | put id e k ih => intro h r w; exact ih _ r _
abbrev Got (α : Type) := α × Tab × List Nat × List Nat
def M.ev {α : Type} (m : M α) (h : Tab) (r w : List Nat) : Option (Got α) := m.run (fun a h r w => some (a, h, r, w)) h r w
theorem ev_bind {α β : Type} (m : M β) (f : β → M α) (h : Tab) (r w : List Nat) : (m.bind f).ev h r w = (m.ev h r w).bind fun p => (f p.1).ev p.2.1 p.2.2.1 p.2.2.2 := by
  unfold M.ev
  rw [run_bind, run_K]
/-- Only what was looked at counts; only what was put is changed. -/
theorem ev_local {α : Type} (m : M α) : ∀ {h : Tab} {r w : List Nat} {a : α} {h' : Tab} {r' w' : List Nat}, m.ev h r w = some (a, h', r', w') → ∃ r1 w1, r' = r1 ++ r ∧ w' = w1 ++ w ∧ (∀ id, id ∉ w1 → h' id = h id) ∧
    ∀ (h2 : Tab) (r2 w2 : List Nat), (∀ id, id ∈ r1 → h2 id = h id) → ∃ h2', m.ev h2 r2 w2 = some (a, h2', r1 ++ r2, w1 ++ w2) ∧ (∀ id, id ∈ w1 → h2' id = h' id) ∧ (∀ id, id ∉ w1 → h2' id = h2 id) := by
  induction m with
  | ret b =>
    intro h r w a h' r' w' he
    simp only [M.ev, M.run, Option.some.injEq, Prod.mk.injEq] at he
    obtain ⟨rfl, rfl, rfl, rfl⟩ := he
    exact ⟨[], [], rfl, rfl, fun _ _ => rfl, fun h2 r2 w2 _ => ⟨h2, rfl, fun id hid => by simp at hid, fun _ _ => rfl⟩⟩
  | fail => intro h r w a h' r' w' he; cases he
  | br b x y ihx ihy => intro h r w a h' r' w' he; cases b; exact ihy he; exact ihx he
  | chk b k ih => intro h r w a h' r' w' he; cases b; cases he; exact ih he
  | get id k ih =>
    intro h r w a h' r' w' he
    obtain ⟨r1, w1, hr, hw, h1, h2⟩ := ih (h id) (show (k (h id)).ev h (id :: r) w = _ from he)
    refine ⟨r1 ++ [id], w1, by rw [hr]; simp, hw, h1, fun g r2 w2 hg => ?_⟩
    obtain ⟨g', h3, h4⟩ := h2 g (id :: r2) w2 (fun j hj => hg j (by simp [hj]))
    refine ⟨g', ?_, h4⟩
    show (k (g id)).ev g (id :: r2) w2 = _
    rw [hg id (by simp), h3]
    simp
  | put id e k ih =>
    intro h r w a h' r' w' he
    obtain ⟨r1, w1, hr, hw, h1, h2⟩ := ih (show k.ev (h.upd id e) r (id :: w) = _ from he)
    refine ⟨r1, w1 ++ [id], hr, by rw [hw]; simp, fun j hj => ?_, fun g r2 w2 hg => ?_⟩
    · have hj1 : j ∉ w1 := fun h => hj (by simp [h])
      have hj2 : j ≠ id := fun h => hj (by simp [h])
      rw [h1 j hj1, Tab.upd_other _ _ hj2]
    · obtain ⟨g', h3, h4, h5⟩ := h2 (g.upd id e) r2 (id :: w2) (fun j hj => by
        by_cases hji : j = id
        · subst hji; rw [Tab.upd_same, Tab.upd_same]
        · rw [Tab.upd_other _ _ hji, Tab.upd_other _ _ hji]; exact hg j hj)
      refine ⟨g', by show k.ev (g.upd id e) r2 (id :: w2) = _; rw [h3]; simp, fun j hj => ?_, fun j hj => ?_⟩
      · by_cases hj1 : j ∈ w1
        · exact h4 j hj1
        · have : j = id := by simpa [hj1] using hj
          subst this
          rw [h5 j hj1, h1 j hj1, Tab.upd_same, Tab.upd_same]
      · have hj1 : j ∉ w1 := fun h => hj (by simp [h])
        have hj2 : j ≠ id := fun h => hj (by simp [h])
        rw [h5 j hj1, Tab.upd_other _ _ hj2]

section
variable (T : Nat → TyI) (F : Nat → Nat → List AV → Option (List AV))
/-- An operation, calls and all. -/
def opM (k : Nat) : Step → M AV
  | .val v => .ret v
  | .call g args f => match F g k args with
    | some res => f res
    | none => .fail
def opEv (k u md : Nat) (ρ : Operand → AV) (op : Op) (h : Tab) : Option (Got AV) := ((aop T u md ρ op).bind (opM F k)).ev h [] []
/-- One operation of a region, of bools without marks. -/
def pstep (k id : Nat) (md : Nat → Nat) (all : List Oper) (i : Nat) (s : St) : Option (St × List Nat × List Nat) :=
  match all[i]? with
  | none => some (s, [], [])
  | some o =>
    let go := (opEv T F k (2 * (2048 * (128 * id + i)) + 1) (md i) (ev (only (opTmps o) s.t)) o.op s.h).map fun p => ((St.put ⟨s.t, p.2.1, s.w + p.2.2.2.length⟩ o.dst (plainV p.1)), p.2.2.1, p.2.2.2)
    match o.guard with
    | none => go
    | some (j, b) => match ((all[j]?).bind (·.dst)).map s.t with
      | some (.bool x) => if x = b then go else some (s.put o.dst .skip, [], [])
      | some .skip => some (s.put o.dst .skip, [], [])
      | _ => none
def prun (k id : Nat) (md : Nat → Nat) (all : List Oper) : List Nat → St → Option (St × Tr)
  | [], s => some (s, [])
  | i :: l, s => (pstep T F k id md all i s).bind fun p => (prun k id md all l p.1).map fun q => (q.1, (i, p.2.1, p.2.2) :: q.2)
end
theorem plain_plain (v : AV) : plainV (plainV v) = plainV v := by cases v <;> rfl
theorem erase_put (s : St) (d : Option Nat) (v : AV) : erase (s.put d v) = (erase s).put d (plainV v) := by
  cases d with
  | none => rfl
  | some n =>
    simp only [St.put, erase]
    congr 1
    funext j
    cases Nat.beq j n <;> rfl
theorem erase_know (s : St) (u : Nat) (p : Bool) (h : ∀ i b, s.t i = .tb u b → b = p) : erase (s.know u p) = erase s := by
  have : ∀ j, plainV ((s.know u p).t j) = plainV (s.t j) := by
    intro j
    show plainV (match s.t j with
      | .tb u' b => bif Nat.beq u' u then .bool p else .tb u' b
      | v => v) = plainV (s.t j)
    cases hj : s.t j <;> simp only [plainV]
    rename_i u' b
    cases hb : Nat.beq u' u
    · rfl
    · have := Nat.eq_of_beq_eq_true hb
      subst this
      rw [h j b hj]; rfl
  simp only [erase, this]
  rfl
theorem know_t {s : St} {u : Nat} {p : Bool} {j u' : Nat} {b : Bool} (h : (s.know u p).t j = .tb u' b) : s.t j = .tb u' b := by
  have h' : (match s.t j with
      | .tb u' b => bif Nat.beq u' u then AV.bool p else .tb u' b
      | v => v) = .tb u' b := h
  cases hj : s.t j <;> rw [hj] at h' <;> simp only at h' <;> try cases h'
  rename_i u2 b2
  cases hb : Nat.beq u2 u <;> rw [hb] at h' <;> simp only [cond_true, cond_false] at h'
  · exact h'
  · cases h'
theorem ev_erase (l : List Nat) (s : St) : ev (only l (erase s).t) = ev (only l s.t) := by
  funext y
  cases y with
  | tmp i =>
    simp only [ev, only, erase]
    cases low i
    · rfl
    · cases hasNat l i
      · rfl
      · exact plain_plain _
  | _ => rfl

/-- The number of an operation. -/
def un (id i : Nat) : Nat := 2 * (2048 * (128 * id + i)) + 1
theorem un_lt {id i : Nat} : un id i < un id (i + 1) := by unfold un; omega
/-- Marks stand for what they say, and are those of operations that ran already. -/
def Marks (id i : Nat) (β : Nat → Bool) (s : St) : Prop := ∀ j u b, s.t j = .tb u b → u < un id i ∧ b = β u
theorem Marks.up {id i : Nat} {β : Nat → Bool} {s : St} (h : Marks id i β s) : Marks id (i + 1) β s := fun j u b hj => ⟨Nat.lt_trans (h j u b hj).1 un_lt, (h j u b hj).2⟩
theorem Marks.know {id i u : Nat} {p : Bool} {β : Nat → Bool} {s : St} (h : Marks id i β s) : Marks id i β (s.know u p) := fun j u' b hj => h j u' b (know_t hj)
theorem Marks.undef {id i : Nat} {β : Nat → Bool} {s : St} (h : Marks id i β s) (d : Option Nat) : Marks id i β (s.put d .skip) := fun j u b hj => by
  cases d with
  | none => exact h j u b hj
  | some n =>
    simp only [St.put] at hj
    cases hb : Nat.beq j n <;> rw [hb] at hj <;> simp only [cond_true, cond_false] at hj
    · exact h j u b hj
    · cases hj
/-- A result is put; a bool gets its mark. -/
theorem Marks.put {id i : Nat} {β : Nat → Bool} {s : St} (h : Marks id i β s) (hh : Tab) (wc : Nat) (d : Option Nat) (op : Op) (v : AV) (hv : ∀ u b, v ≠ .tb u b) : ∃ β', Marks id (i + 1) β' (St.put ⟨s.t, hh, wc⟩ d (marked s.t (un id i) op v)) := by
  have hm : (∃ j, marked s.t (un id i) op v = s.t j) ∨ (∃ b, marked s.t (un id i) op v = .tb (un id i) b) ∨ marked s.t (un id i) op v = v := by
    unfold marked
    split
    · rename_i i
      cases low i
      · exact .inr (.inr rfl)
      · exact .inl ⟨_, rfl⟩
    · rename_i i
      cases low i
      · exact .inr (.inr rfl)
      · exact .inl ⟨_, rfl⟩
    · split
      · exact .inr (.inl ⟨_, rfl⟩)
      · exact .inr (.inr rfl)
  cases d with
  | none => exact ⟨β, h.up⟩
  | some n =>
    have key : ∀ j u b, (St.put ⟨s.t, hh, wc⟩ (some n) (marked s.t (un id i) op v)).t j = .tb u b → s.t j = .tb u b ∨ marked s.t (un id i) op v = .tb u b := by
      intro j u b hj
      simp only [St.put] at hj
      cases hb : Nat.beq j n <;> rw [hb] at hj <;> simp only [cond_true, cond_false] at hj
      · exact .inl hj
      · exact .inr hj
    rcases hm with ⟨j0, hm⟩ | ⟨b0, hm⟩ | hm
    · refine ⟨β, fun j u b hj => ?_⟩
      rcases key j u b hj with hj | hj
      · exact h.up j u b hj
      · rw [hm] at hj; exact h.up j0 u b hj
    · refine ⟨fun u => if u = un id i then b0 else β u, fun j u b hj => ?_⟩
      rcases key j u b hj with hj | hj
      · obtain ⟨h1, h2⟩ := h j u b hj
        exact ⟨Nat.lt_trans h1 un_lt, by show b = if u = un id i then b0 else β u; rw [if_neg (Nat.ne_of_lt h1)]; exact h2⟩
      · rw [hm] at hj
        simp only [AV.tb.injEq] at hj
        obtain ⟨rfl, rfl⟩ := hj
        exact ⟨un_lt, by simp⟩
    · refine ⟨β, fun j u b hj => ?_⟩
      rcases key j u b hj with hj | hj
      · exact h.up j u b hj
      · rw [hm] at hj; exact absurd hj (hv u b)
/-- The environment tells of calls. -/
structure EnvOK (P : Program) (T : Nat → TyI) (E : Env) (F : Nat → Nat → List AV → Option (List AV)) : Prop where
  nat : ∀ g k args (R : Type) (K : List AV → Option R), E g k args R K = (F g k args).bind K
  ok : ∀ g k args res, F g k args = some res → CallOK P T g args res

section
variable {P : Program} {T : Nat → TyI} {F : Nat → Nat → List AV → Option (List AV)}
theorem plain_ne (v : AV) : ∀ u b, plainV v ≠ .tb u b := by intro u b; cases v <;> simp [plainV]
theorem marked_plain {t : Nat → AV} {u md k : Nat} {o : Oper} {h h' : Tab} {v : AV} {r w : List Nat} (he : opEv T F k u md (ev (only (opTmps o) t)) o.op h = some (v, h', r, w)) : plainV (marked t u o.op (plainV v)) = plainV v := by
  unfold marked
  split
  · rename_i i hop
    have ht : only (opTmps o) t i = t i := by simp [only, opTmps, hop, Op.operands, hasNat]
    rw [hop] at he
    simp only [opEv, aop, M.bind, opM, M.ev, M.run, Option.some.injEq, Prod.mk.injEq] at he
    rw [← he.1]
    cases hlo : low i <;> simp [ev, plain_plain, ht, hlo]
  · rename_i i hop
    have ht : only (opTmps o) t i = t i := by simp [only, opTmps, hop, Op.operands, hasNat]
    rw [hop] at he
    simp only [opEv, aop, M.bind, opM, M.ev, M.run, Option.some.injEq, Prod.mk.injEq] at he
    rw [← he.1]
    cases hlo : low i <;> simp [ev, plain_plain, ht, hlo]
  · split
    · rename_i b hb
      rw [hb]; rfl
    · exact plain_plain v
/-- The run of an operation, and what is done behind it. -/
theorem op_run {E : Env} (hE : EnvOK P T E F) {R : Type} (k u md : Nat) (ρ : Operand → AV) (op : Op) (h : Tab) (K : AV → Tab → List Nat → List Nat → Option R) :
    (aop T u md ρ op).run (fun st h r w => runStep E k K st h r w) h [] [] = (opEv T F k u md ρ op h).bind fun p => K p.1 p.2.1 p.2.2.1 p.2.2.2 := by
  unfold opEv M.ev
  rw [← run_K, run_bind]
  congr 1
  funext st h r w
  cases st with
  | val v => rfl
  | call g args f =>
    simp only [runStep, hE.nat, opM]
    cases F g k args with
    | none => rfl
    | some res => rfl

/-- From one operation on: the reckoner's run is the plain run. -/
theorem exOps_plain {c : Cx} (hE : EnvOK P T c.env F) {R : Type} {x : R} (k id : Nat) (all : List Oper) (K : St → Tr → Option R) : ∀ (l : List Oper) (i : Nat) (s : St) (tr : Tr) (β : Nat → Bool), all.drop i = l → Marks id i β s → exOps T c k id all K i l s tr = some x →
    ∃ (s' : St) (tr' : Tr), K s' (tr'.reverse ++ tr) = some x ∧ prun T F k id (c.md id) all (List.range' i l.length) (erase s) = some (erase s', tr')
  | [], i, s, tr, β, _, hm, hr => ⟨s, [], hr, rfl⟩
  | o :: l, i, s, tr, β, hl, hm, hr => by
    have hoi : all[i]? = some o := by
      have := congrArg (fun l => l[0]?) hl
      simpa using this
    have hl' : all.drop (i + 1) = l := by
      have := congrArg (List.drop 1) hl
      simpa [Nat.add_comm] using this
    have hstep : ∀ (s0 : St) (β0 : Nat → Bool), Marks id i β0 s0 → erase s0 = erase s → (aop T (un id i) (c.md id i) (ev (only (opTmps o) s0.t)) o.op).run (fun st h r w => runStep c.env k (fun v h r w => exOps T c k id all K (i + 1) l (St.put ⟨s0.t, h, s0.w + w.length⟩ o.dst (marked s0.t (un id i) o.op (plainV v))) ((i, r, w) :: tr)) st h r w) s0.h [] [] = some x →
        ∃ (p : St × List Nat × List Nat) (s' : St) (tr' : Tr), (opEv T F k (un id i) (c.md id i) (ev (only (opTmps o) (erase s).t)) o.op (erase s).h).map (fun (p : Got AV) => ((St.put ⟨(erase s).t, p.2.1, (erase s).w + p.2.2.2.length⟩ o.dst (plainV p.1)), p.2.2.1, p.2.2.2)) = some p ∧
          K s' (((i, p.2.1, p.2.2) :: tr').reverse ++ tr) = some x ∧ prun T F k id (c.md id) all (List.range' (i + 1) l.length) p.1 = some (erase s', tr') := by
      intro s0 β0 hm0 he0 hgo
      rw [op_run hE] at hgo
      obtain ⟨⟨v, h', r, w⟩, hev, hgo⟩ := Option.bind_eq_some_iff.1 hgo
      obtain ⟨β1, hm1⟩ := hm0.put h' (s0.w + w.length) o.dst o.op (plainV v) (plain_ne v)
      obtain ⟨s', tr', hK, hp⟩ := exOps_plain hE k id all K l (i + 1) _ _ β1 hl' hm1 hgo
      have h1 : ev (only (opTmps o) (erase s).t) = ev (only (opTmps o) s0.t) := by rw [← he0, ev_erase]
      have h2 : (erase s).h = s0.h := by rw [← he0]; rfl
      have h3 : (erase s).w = s0.w := by rw [← he0]; rfl
      refine ⟨(St.put ⟨(erase s).t, h', (erase s).w + w.length⟩ o.dst (plainV v), r, w), s', tr', by rw [h1, h2, hev]; rfl, by simpa using hK, ?_⟩
      rw [← hp, erase_put, marked_plain hev]
      congr 1
      rw [h3, ← he0]
      rfl
    have hpass : ∀ (s0 : St) (β0 : Nat → Bool), Marks id i β0 s0 → erase s0 = erase s → exOps T c k id all K (i + 1) l (s0.put o.dst .skip) ((i, [], []) :: tr) = some x →
        ∃ (s' : St) (tr' : Tr), K s' (((i, [], []) :: tr').reverse ++ tr) = some x ∧ prun T F k id (c.md id) all (List.range' (i + 1) l.length) ((erase s).put o.dst .skip) = some (erase s', tr') := by
      intro s0 β0 hm0 he0 hgo
      obtain ⟨s', tr', hK, hp⟩ := exOps_plain hE k id all K l (i + 1) _ _ β0 hl' (hm0.undef o.dst).up hgo
      exact ⟨s', tr', by simpa using hK, by rw [← hp, erase_put, he0]; rfl⟩
    simp only [List.length_cons, List.range'_succ, prun]
    simp only [exOps] at hr
    unfold pstep
    rw [hoi]
    simp only
    split at hr
    · -- no guard
      rename_i hg
      rw [hg]
      simp only
      obtain ⟨p, s', tr', h1, h2, h3⟩ := hstep s β hm rfl hr
      refine ⟨s', (i, p.2.1, p.2.2) :: tr', h2, ?_⟩
      rw [show (opEv T F k (2 * (2048 * (128 * id + i)) + 1) (c.md id i) (ev (only (opTmps o) (erase s).t)) o.op (erase s).h).map (fun (p : Got AV) => ((St.put ⟨(erase s).t, p.2.1, (erase s).w + p.2.2.2.length⟩ o.dst (plainV p.1)), p.2.2.1, p.2.2.2)) = some p from h1]
      simp [h3]
    · rename_i j b hg
      rw [hg]
      simp only
      have hgt : ∀ v, ((all[j]?).bind (·.dst)).map s.t = some v → ((all[j]?).bind (·.dst)).map (erase s).t = some (plainV v) := by
        intro v hv
        obtain ⟨d, hd, hdv⟩ := Option.map_eq_some_iff.1 hv
        rw [hd]; simp [erase, hdv]
      have fin : ∀ (q : Bool) (s0 : St), Marks id i β s0 → erase s0 = erase s → ((all[j]?).bind (·.dst)).map (erase s).t = some (.bool q) →
          (if q = b then (aop T (un id i) (c.md id i) (ev (only (opTmps o) s0.t)) o.op).run (fun st h r w => runStep c.env k (fun v h r w => exOps T c k id all K (i + 1) l (St.put ⟨s0.t, h, s0.w + w.length⟩ o.dst (marked s0.t (un id i) o.op (plainV v))) ((i, r, w) :: tr)) st h r w) s0.h [] [] else exOps T c k id all K (i + 1) l (s0.put o.dst .skip) ((i, [], []) :: tr)) = some x →
          ∃ (s' : St) (tr' : Tr), K s' (tr'.reverse ++ tr) = some x ∧ ((match ((all[j]?).bind (·.dst)).map (erase s).t with
            | some (.bool x) => if x = b then (opEv T F k (2 * (2048 * (128 * id + i)) + 1) (c.md id i) (ev (only (opTmps o) (erase s).t)) o.op (erase s).h).map (fun (p : Got AV) => ((St.put ⟨(erase s).t, p.2.1, (erase s).w + p.2.2.2.length⟩ o.dst (plainV p.1)), p.2.2.1, p.2.2.2)) else some ((erase s).put o.dst .skip, [], [])
            | some .skip => some ((erase s).put o.dst .skip, [], [])
            | _ => none).bind fun (p : St × List Nat × List Nat) => (prun T F k id (c.md id) all (List.range' (i + 1) l.length) p.1).map fun (q : St × Tr) => (q.1, (i, p.2.1, p.2.2) :: q.2)) = some (erase s', tr') := by
        intro q s0 hm0 he0 hq hgo
        rw [hq]
        simp only
        split at hgo
        · rename_i hqb
          rw [if_pos hqb]
          obtain ⟨p, s', tr', h1, h2, h3⟩ := hstep s0 β hm0 he0 hgo
          refine ⟨s', (i, p.2.1, p.2.2) :: tr', h2, ?_⟩
          rw [show (opEv T F k (2 * (2048 * (128 * id + i)) + 1) (c.md id i) (ev (only (opTmps o) (erase s).t)) o.op (erase s).h).map (fun (p : Got AV) => ((St.put ⟨(erase s).t, p.2.1, (erase s).w + p.2.2.2.length⟩ o.dst (plainV p.1)), p.2.2.1, p.2.2.2)) = some p from h1]
          simp [h3]
        · rename_i hqb
          rw [if_neg hqb]
          obtain ⟨s', tr', h2, h3⟩ := hpass s0 β hm0 he0 hgo
          exact ⟨s', (i, [], []) :: tr', h2, by simp [h3]⟩
      split at hr
      · rename_i q hq
        have hq' := hgt _ hq
        refine fin q s hm rfl hq' ?_
        cases q <;> cases b <;> exact hr
      · rename_i u q hq
        have hq' := hgt _ hq
        have hkn : ∀ p, q = p → erase (s.know u p) = erase s := fun p hp => erase_know s u p (fun i' b' hb' => by
          obtain ⟨d, hd, hdv⟩ := Option.map_eq_some_iff.1 hq
          rw [(hm i' u b' hb').2, ← (hm d u q hdv).2, hp])
        cases q
        · refine fin false (s.know u false) hm.know (hkn false rfl) hq' ?_
          cases b <;> exact hr
        · refine fin true (s.know u true) hm.know (hkn true rfl) hq' ?_
          cases b <;> exact hr
      · rename_i hq
        have hq' := hgt _ hq
        obtain ⟨s', tr', h2, h3⟩ := hpass s β hm rfl hr
        refine ⟨s', (i, [], []) :: tr', h2, ?_⟩
        rw [hq']
        simp only [plainV]
        simp [h3]
      · cases hr
end

/-- A temporary's value: the frame's own, or one of those who called. -/
def tv (γ : Nat → Value) (a : Act) (i : Nat) : Value := if i < 1000000 then a.tmps.getD i undef else γ (i - 1000000)
theorem low_iff {i : Nat} : low i = true ↔ i < 1000000 := by
  unfold low
  constructor
  · intro h; exact Nat.le_of_ble_eq_true h
  · intro h; exact Nat.ble_eq_true_of_le h
theorem tv_low {γ : Nat → Value} {a : Act} {i : Nat} (h : i < 1000000) : tv γ a i = a.tmps.getD i undef := if_pos h
/-- The frame and the memory. N: how many temporaries. -/
structure RelS (T : Nat → TyI) (U : Nat → Prop) (N : Nat) (γ : Nat → Value) (w : World) (I : Nat → Prop) (φ : Nat → Option Value) (s : St) (a : Act) : Prop where
  tm : ∀ i, RelV T w I φ (s.t i) (tv γ a i)
  mem : Mem T U w I φ s.h
  sz : a.tmps.size = N
  df : a.defers = []
  le : N ≤ 1000000
  fx : Facts T w I
section
variable {P : Program} {T : Nat → TyI} {U : Nat → Prop} {N : Nat} {γ : Nat → Value} {w : World} {I : Nat → Prop} {φ : Nat → Option Value} {s : St} {a : Act} {F : Nat → Nat → List AV → Option (List AV)}
theorem plain_rel {v : AV} {x : Value} (h : RelV T w I φ v x) : RelV T w I φ (plainV v) x := by
  cases v <;> exact h
theorem RelS.erase (h : RelS T U N γ w I φ s a) : RelS T U N γ w I φ (erase s) a := ⟨fun i => plain_rel (h.tm i), h.mem, h.sz, h.df, h.le, h.fx⟩
theorem RelS.ev (h : RelS T U N γ w I φ s a) (l : List Nat) : ∀ y, RelV T w I φ (Go.Sx.ev (only l s.t) y) (a.eval y)
  | .tmp i => by
    simp only [Go.Sx.ev, only]
    cases hlo : low i
    · exact .of_C trivial
    · cases hasNat l i
      · exact .of_C trivial
      · have := h.tm i
        rw [tv_low (low_iff.1 hlo)] at this
        exact plain_rel this
  | .const v => constV_rel v
  | .global g => .of_C trivial
  | .func f => .of_C ⟨#[], rfl, .nil⟩
theorem put_getD {a : Act} {d : Option Nat} {v : Value} {j : Nat} (hd : ∀ n, d = some n → n < a.tmps.size) : (a.put d v).tmps.getD j undef = if d = some j then v else a.tmps.getD j undef := by
  cases d with
  | none => simp [Act.put]
  | some n =>
    have := hd n rfl
    simp only [Act.put, Array.getD_eq_getD_getElem?, Array.getElem?_setIfInBounds, Option.some.injEq]
    by_cases hj : n = j
    · subst hj; simp [this]
    · simp [hj]
theorem RelS.put {w' : World} {I' : Nat → Prop} {φ' : Nat → Option Value} {h' : Tab} {wc : Nat} (h : RelS T U N γ w I φ s a) (x : Ext U w I φ w' I' φ') (m : Mem T U w' I' φ' h') {d : Option Nat} (hd : ∀ n, d = some n → n < N) {av : AV} {v : Value} (hv : RelV T w' I' φ' av v) :
    RelS T U N γ w' I' φ' (St.put ⟨s.t, h', wc⟩ d av) (a.put d v) := by
  refine ⟨fun j => ?_, ?_, ?_, ?_, h.le, h.fx.ext x⟩
  · have hjt := h.tm j
    by_cases hj : j < 1000000
    case neg =>
      have e1 : tv γ (a.put d v) j = tv γ a j := by unfold tv; rw [if_neg hj, if_neg hj]
      rw [e1]
      cases d with
      | none => exact hjt.ext x
      | some n =>
        have := hd n rfl
        have := h.le
        have hb : Nat.beq j n = false := by
          cases hb : Nat.beq j n
          · rfl
          · have := Nat.eq_of_beq_eq_true hb; omega
        simp only [St.put, hb, cond_false]
        exact hjt.ext x
    rw [tv_low hj] at hjt ⊢
    rw [put_getD (fun n hn => by rw [h.sz]; exact hd n hn)]
    cases d with
    | none => simp only [St.put]; rw [if_neg (by simp)]; exact hjt.ext x
    | some n =>
      simp only [St.put, Option.some.injEq]
      cases hb : Nat.beq j n
      · have : ¬ n = j := fun e => by subst e; simp at hb
        rw [if_neg this]; exact hjt.ext x
      · have := Nat.eq_of_beq_eq_true hb
        subst this
        rw [if_pos rfl]; exact hv
  · cases d <;> exact m
  · cases d <;> simp [Act.put, h.sz]
  · cases d <;> exact h.df

theorem opEv_wp (hT : TOK P T) (hE : EOK P T) (hF : ∀ g k args res, F g k args = some res → CallOK P T g args res) (hs : RelS T U N γ w I φ s a) {o : Oper} {k u md : Nat} {p : Got AV} (hev : opEv T F k u md (ev (only (opTmps o) s.t)) o.op s.h = some p) {next : Act → World → Prop} {Q : Exit → Act → World → Prop}
    (hnext : ∀ v w' I' φ', Mem T U w' I' φ' p.2.1 → Ext U w I φ w' I' φ' → RelV T w' I' φ' p.1 v → next (a.put o.dst v) w') : o.wp P a w next Q := by
  unfold opEv M.ev at hev
  rw [run_bind] at hev
  by_cases hc : isCall o.op = true
  · obtain ⟨f, as, ts, ho⟩ : ∃ f as ts, o.op = .call { callee := .value f, args := as, argTypes := ts } := by
      cases hop : o.op <;> rw [hop] at hc <;> simp only [isCall, Bool.false_eq_true] at hc
      rename_i cl
      obtain ⟨ce, as, ts⟩ := cl
      cases ce <;> simp only [isCall, Bool.false_eq_true] at hc
      exact ⟨_, _, _, rfl⟩
    rw [ho] at hev
    obtain ⟨g, args, kk, r', hk, hcall⟩ := aop_call (P := P) (ρ' := a.eval) (o := o) hs.fx hs.mem (hs.ev _) (fun _ => rfl) ho hev
    simp only [opM] at hk
    cases hres : F g k args with
    | none => rw [hres] at hk; simp [run_fail] at hk
    | some res =>
      rw [hres] at hk
      obtain ⟨vs, hrun, hcs⟩ := hcall res (hF g k args res hres)
      unfold Oper.wp
      rw [hrun, Oper.upon_enter]
      refine hcs.mono fun e w1 ⟨v, he, hfin⟩ => ?_
      subst he
      obtain ⟨av, h', r2, ws2, I', φ', hkk, m, x, hv⟩ := hfin _ _ _ _ _ hk
      simp only [Option.some.injEq] at hkk
      subst hkk
      exact hnext v w1 I' φ' m x hv
  · obtain ⟨st, h', r', ws', hk, av, rfl, nx, w', I', φ', hrun, m, x, hv⟩ := aop_val (P := P) (ρ' := a.eval) (o := o) hT hE hs.mem (hs.ev _) rfl (by simpa using hc) hev
    simp only [opM, run_ret, Option.some.injEq] at hk
    subst hk
    unfold Oper.wp
    rw [hrun]
    rcases hv with ⟨v, rfl, hv⟩ | ⟨rfl, rfl⟩
    · rw [Oper.upon_value]; exact hnext v w' I' φ' m x hv
    · rw [Oper.upon_skip]; exact hnext undef w' I' φ' m x (.of_C trivial)

theorem pstep_wp (hT : TOK P T) (hE : EOK P T) (hF : ∀ g k args res, F g k args = some res → CallOK P T g args res) {ops : Array Oper} {k id : Nat} {md : Nat → Nat} (hs : RelS T U N γ w I φ s a) (hd : ∀ (i : Nat) (o : Oper) n, ops[i]? = some o → o.dst = some n → n < N) {i : Nat} {p : St × List Nat × List Nat}
    (hp : pstep T F k id md ops.toList i s = some p) {K : Act → World → Prop} {Q : Exit → Act → World → Prop} (hK : ∀ a' w' I' φ', RelS T U N γ w' I' φ' p.1 a' → Ext U w I φ w' I' φ' → K a' w') : wpOp P ops Q i K a w := by
  unfold pstep at hp
  unfold wpOp
  cases ho : ops[i]? with
  | none =>
    have : ops.toList[i]? = none := by rw [Array.getElem?_toList]; exact ho
    rw [this] at hp
    simp only [Option.some.injEq] at hp
    subst hp
    exact hK a w I φ hs .refl
  | some o =>
    have hol : ops.toList[i]? = some o := by rw [Array.getElem?_toList]; exact ho
    rw [hol] at hp
    simp only at hp ⊢
    have hgo : ∀ q, (opEv T F k (2 * (2048 * (128 * id + i)) + 1) (md i) (Go.Sx.ev (only (opTmps o) s.t)) o.op s.h).map (fun (p : Got AV) => ((St.put ⟨s.t, p.2.1, s.w + p.2.2.2.length⟩ o.dst (plainV p.1)), p.2.2.1, p.2.2.2)) = some q →
        (∀ a' w' I' φ', RelS T U N γ w' I' φ' q.1 a' → Ext U w I φ w' I' φ' → K a' w') → o.wp P a w K Q := by
      intro q hq hK
      obtain ⟨g, hg, rfl⟩ := Option.map_eq_some_iff.1 hq
      exact opEv_wp hT hE hF hs hg (fun v w' I' φ' m x hv => hK _ _ _ _ (hs.put x m (fun n hn => hd i o n ho hn) (plain_rel hv)) x)
    split at hp
    · rename_i hg
      rw [if_pos (by simp [Region.wanted, hg])]
      exact .inl (hgo _ hp hK)
    · rename_i j b hg
      split at hp
      · rename_i q hq
        obtain ⟨d, hdj, hdv⟩ := Option.map_eq_some_iff.1 hq
        have hval : a.tmps.getD d undef = .bool q := by
          have := hs.tm d
          have hdlt : d < 1000000 := by
            obtain ⟨o', ho', hod⟩ := Option.bind_eq_some_iff.1 hdj
            rw [Array.getElem?_toList] at ho'
            exact Nat.lt_of_lt_of_le (hd j o' d ho' hod) hs.le
          rw [tv_low hdlt, hdv] at this
          exact relV_bool this
        have hy : yielded ops a.tmps j = some q := by
          have hdj' : (ops[j]?).bind (·.dst) = some d := by rw [← Array.getElem?_toList]; exact hdj
          unfold yielded
          rw [hdj']
          simp only [Option.bind_some]
          rw [Array.getD_eq_getD_getElem?] at hval
          cases ht : a.tmps[d]? with
          | none => rw [ht] at hval; simp [undef] at hval
          | some v => rw [ht] at hval; simp at hval; subst hval; rfl
        by_cases hqb : q = b
        · rw [if_pos hqb] at hp
          rw [if_pos (by simp [Region.wanted, hg, hy, hqb])]
          exact .inl (hgo _ hp hK)
        · rw [if_neg hqb] at hp
          rw [if_neg (by simp [Region.wanted, hg, hy, hqb])]
          simp only [Option.some.injEq] at hp
          subst hp
          have := hs.put (wc := s.w) .refl hs.mem (d := o.dst) (fun n hn => hd i o n ho hn) (av := .skip) (v := undef) (.of_C rfl)
          exact hK _ _ _ _ this .refl
      · rename_i hsk
        obtain ⟨d, hdj, hdv⟩ := Option.map_eq_some_iff.1 hsk
        have hval : a.tmps.getD d undef = undef := by
          have := hs.tm d
          have hdlt : d < 1000000 := by
            obtain ⟨o', ho', hod⟩ := Option.bind_eq_some_iff.1 hdj
            rw [Array.getElem?_toList] at ho'
            exact Nat.lt_of_lt_of_le (hd j o' d ho' hod) hs.le
          rw [tv_low hdlt, hdv] at this
          exact this
        have hy : yielded ops a.tmps j = none := by
          have hdj' : (ops[j]?).bind (·.dst) = some d := by rw [← Array.getElem?_toList]; exact hdj
          unfold yielded
          rw [hdj']
          simp only [Option.bind_some]
          rw [Array.getD_eq_getD_getElem?] at hval
          cases ht : a.tmps[d]? with
          | none => rfl
          | some v => rw [ht] at hval; simp at hval; subst hval; rfl
        rw [if_neg (by simp [Region.wanted, hg, hy])]
        simp only [Option.some.injEq] at hp
        subst hp
        have := hs.put (wc := s.w) .refl hs.mem (d := o.dst) (fun n hn => hd i o n ho hn) (av := .skip) (v := undef) (.of_C rfl)
        exact hK _ _ _ _ this .refl
      · cases hp
/-- Along any list of operations. -/
theorem prun_wp (hT : TOK P T) (hE : EOK P T) (hF : ∀ g k args res, F g k args = some res → CallOK P T g args res) {ops : Array Oper} {k id : Nat} {md : Nat → Nat} (hd : ∀ (i : Nat) (o : Oper) n, ops[i]? = some o → o.dst = some n → n < N) {Q : Exit → Act → World → Prop} :
    ∀ (l : List Nat) {s : St} {a : Act} {w : World} {I : Nat → Prop} {φ : Nat → Option Value} (_ : RelS T U N γ w I φ s a) {q : St × Tr} (_ : prun T F k id md ops.toList l s = some q) (_ : ∀ a' w' I' φ', RelS T U N γ w' I' φ' q.1 a' → Ext U w I φ w' I' φ' → Q .normal a' w'), wpOps P ops Q l a w
  | [], s, a, w, I, φ, hs, q, hq, hQ => by
    simp only [prun, Option.some.injEq] at hq
    subst hq
    exact hQ a w I φ hs .refl
  | i :: l, s, a, w, I, φ, hs, q, hq, hQ => by
    simp only [prun] at hq
    obtain ⟨p, hp, hq⟩ := Option.bind_eq_some_iff.1 hq
    obtain ⟨q2, hq2, rfl⟩ := Option.map_eq_some_iff.1 hq
    rw [wpOps_cons]
    exact pstep_wp hT hE hF hs hd hp (fun a' w' I' φ' hs' x => prun_wp hT hE hF hd l hs' hq2 (fun a2 w2 I2 φ2 h2 x2 => hQ a2 w2 I2 φ2 h2 (x.trans x2)))
end
end Go.Sx
