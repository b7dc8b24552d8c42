/- Each operation of the reckoner, whatever it is, tells what the machine does. -/
import Derived.Test.YtlhbonpdlghlbaaDoorSxMap
set_option linter.unusedVariables false
set_option linter.unusedSimpArgs false
namespace Go.Sx
section
variable {P : Program} {T : Nat → TyI} {U : Nat → Prop} {w : World} {I : Nat → Prop} {φ : Nat → Option Value} {h : Tab} {ρ : Operand → AV} {ρ' : Operand → Value} {o : Oper}

theorem bnd_sound {R : Type} {K : Step → Tab → List Nat → List Nat → Option R} {x : R} {r ws : List Nat} {lo hi : Option Operand} {n : Nat} {k : Nat → Nat → M Step} (hρ : ∀ y, RelV T w I φ (ρ y) (ρ' y)) (hr : (bnd ρ lo hi n k).run K h r ws = some x) :
    ∃ a b, (k a b).run K h r ws = some x ∧ ((lo.map ρ' = none ∧ a = 0) ∨ ∃ k, lo.map ρ' = some (.int k (a : Int))) ∧ ((hi.map ρ' = none ∧ b = n) ∨ ∃ k, hi.map ρ' = some (.int k (b : Int))) ∧ a ≤ b ∧ b ≤ n := by
  have val : ∀ (z : Option Operand) (kk : IntKind) (m : Int), z.map ρ = some (.int kk m) → 0 ≤ m → ∃ k, z.map ρ' = some (.int k (m.toNat : Int)) := by
    intro z kk m hz h0
    cases z with
    | none => cases hz
    | some y =>
      have h1 : ρ y = .int kk m := Option.some.inj hz
      have h2 := hρ y
      rw [h1] at h2
      exact ⟨kk, by simp only [Option.map_some]; rw [relV_int h2, Int.toNat_of_nonneg h0]⟩
  have non : ∀ (z : Option Operand), z.map ρ = none → z.map ρ' = none := by
    intro z hz; cases z with
    | none => rfl
    | some y => cases hz
  unfold bnd at hr
  split at hr
  · rename_i h1 h2
    exact ⟨0, n, hr, .inl ⟨non _ h1, rfl⟩, .inl ⟨non _ h2, rfl⟩, Nat.zero_le _, Nat.le_refl _⟩
  · rename_i kk a h1 h2
    rw [run_chk] at hr
    simp only [Bool.and_eq_true, decide_eq_true_eq] at hr
    exact ⟨a.toNat, n, hr.2, .inr (val _ _ _ h1 hr.1.1), .inl ⟨non _ h2, rfl⟩, by omega, Nat.le_refl _⟩
  · rename_i kk b h1 h2
    rw [run_chk] at hr
    simp only [Bool.and_eq_true, decide_eq_true_eq] at hr
    exact ⟨0, b.toNat, hr.2, .inl ⟨non _ h1, rfl⟩, .inr (val _ _ _ h2 hr.1.1), Nat.zero_le _, by omega⟩
  · rename_i kk a kk' b h1 h2
    rw [run_chk, run_chk] at hr
    simp only [Bool.and_eq_true, decide_eq_true_eq] at hr
    exact ⟨a.toNat, b.toNat, hr.2.2, .inr (val _ _ _ h1 hr.2.1.1), .inr (val _ _ _ h2 hr.1.1), by omega, by omega⟩
  · simp [run_fail] at hr

theorem cells_toDs {R : Type} {K : List D → Tab → List Nat → List Nat → Option R} {x : R} (hm : Mem T U w I φ h) {cs : List CT} {v : AV} {u : Value} (hv : RelV T w I φ v u) (hcs : cs ≠ []) {r ws : List Nat}
    (hr : (toDs cs (cellsV v)).run K h r ws = some x) : All2 (RelC T w I φ) (cellsV v) u.cells.toList := by
  have hnt : ∀ l, v ≠ .tup l := fun l e' => by
    subst e'
    cases hc : cs with
    | nil => exact hcs hc
    | cons c cs => rw [hc] at hr; simp [cellsV, toDs, toD, M.bind, run_fail] at hr
  have hA := relA_of_V hv hnt
  unfold RelA at hA
  split at hA
  · obtain ⟨cs, rfl, h⟩ := hA; exact h
  · rename_i hno
    have hc : cellsV v = [v] := by
      cases v <;> first | rfl | (rename_i l; exact absurd rfl (hno l))
    rw [hc] at hr
    have hone : u.oneCell' = true := by
      cases hcc : cs with
      | nil => exact absurd hcc hcs
      | cons c cs =>
        rw [hcc] at hr
        simp only [toDs] at hr
        rw [run_bind] at hr
        exact relC_one hA (toD_sound hm hA hr).1
    rw [hc]
    have : u.cells = #[u] := by cases u <;> first | rfl | (cases hone)
    rw [this]
    exact .cons hA .nil

/-- What a step came to. -/
def StepS (P : Program) (T : Nat → TyI) (U : Nat → Prop) (ρ' : Operand → Value) (o : Oper) (w : World) (I : Nat → Prop) (φ : Nat → Option Value) (st : Step) (h' : Tab) : Prop :=
  ∃ av, st = .val av ∧ StepOK P T U ρ' o w I φ av h'
def isCall : Op → Bool
  | .call { callee := .value _, .. } => true
  | _ => false

theorem newsOf_sound {R : Type} {K : List D → Tab → List Nat → List Nat → Option R} {x : R} {r ws : List Nat} (hT : TOK P T) (hm : Mem T U w I φ h) {e t t' : Nat} (htu : P.underlying t = some (.slice e)) {y : AV} {v : Value} (hy : RelV T w I φ y v)
    (hr : (newsOf T e t t' y).run K h r ws = some x) : ∃ l2 r', Srce P T w I e t' v l2 ∧ K l2 h r' ws = some x := by
  unfold newsOf at hr
  split at hr
  · rw [run_chk] at hr
    simp only [Bool.and_eq_true, Bool.not_eq_true', decide_eq_true_eq] at hr
    obtain ⟨⟨⟨hu8, hta⟩, htc⟩, hr⟩ := hr
    obtain ⟨d, hu, hd⟩ := desc_of hT htc hta
    have hdd : d = .string := by cases d <;> simp [descOK, hta, htc] at hd <;> rfl
    subst hdd
    rw [relV_str hy]
    exact ⟨_, _, string_src hT hu8 hu, hr⟩
  · rw [run_bind] at hr
    obtain ⟨p, r', hr2, hreads⟩ := rowOf_sound hm hy hr
    clear hr
    rw [run_chk] at hr2
    simp only [Bool.and_eq_true] at hr2
    obtain ⟨⟨hpe, htt⟩, hr3⟩ := hr2
    have hpe := Nat.eq_of_beq_eq_true hpe
    have htt := Nat.eq_of_beq_eq_true htt
    subst htt
    rw [hpe] at hreads
    exact ⟨_, _, hreads.src htu, hr3⟩
theorem need_max {n b : Nat} (hb : 0 < b) (h : needOk n b = true) : n ≤ maxLen := by
  have h1 := needOk_iff.1 h
  have h2 : n ≤ n * b := Nat.le_mul_of_pos_right _ hb
  simp only [maxLen]
  omega
theorem appOn_sound {R : Type} {K : Step → Tab → List Nat → List Nat → Option R} {x : R} {r ws : List Nat} (hT : TOK P T) (hm : Mem T U w I φ h) {u md t tx e : Nat} {s y : Operand} (ho : o.op = .call { callee := .builtin .append, args := #[s, y], argTypes := #[t, tx] })
    (htu : P.underlying t = some (.slice e)) (hk : kn T e = true) (hb : 0 < (T e).bytes) {a : AV} (hs : RelV T w I φ a (ρ' s)) {l2 : List D} (hsrc : Srce P T w I e tx (ρ' y) l2) (hr : (appOn T e u md l2 a).run K h r ws = some x) :
    ∃ st h' r' ws', K st h' r' ws' = some x ∧ StepS P T U ρ' o w I φ st h' := by
  have hnil : ∀ base, ρ' s = .slice base 0 0 → needOk l2.length (T e).bytes = true → h u = .unborn → StepOK P T U ρ' o w I φ (.orow u) (h.upd u (.row e l2 false)) := by
    intro base hbs hneed hu
    by_cases hl2 : l2 = []
    · subst hl2
      exact append_nothing hT hm hu ho htu hk hbs hsrc
    · have := append_full (l := []) hT hm hu ho htu hk (base := base) hbs ⟨base, 0, [], hbs, Nat.le_refl _, .nil, fun h => absurd rfl h⟩ hsrc hl2 (by simpa using hneed) (by simpa using need_max hb hneed)
      simpa using this
  unfold appOn at hr
  split at hr
  · rw [run_chk] at hr
    obtain ⟨hneed, hr⟩ := hr
    rw [run_bind, run_new] at hr
    exact ⟨_, _, _, _, hr.2, _, rfl, hnil none hs hneed hr.1⟩
  · obtain ⟨a, hs⟩ := hs
    rw [run_chk] at hr
    obtain ⟨hneed, hr⟩ := hr
    rw [run_bind, run_new] at hr
    exact ⟨_, _, _, _, hr.2, _, rfl, hnil a hs hneed hr.1⟩
  · obtain ⟨hrep, a, hs⟩ := hs
    rw [run_chk] at hr
    simp only [Bool.and_eq_true] at hr
    obtain ⟨⟨⟨hee, hneed⟩, hpos⟩, hr⟩ := hr
    have hee := Nat.eq_of_beq_eq_true hee
    subst hee
    rw [run_bind, run_new] at hr
    exact ⟨_, _, _, _, hr.2, _, rfl, append_full hT hm hr.1 ho htu hk hs hrep.reads hsrc (List.length_pos_iff.1 (Nat.le_of_ble_eq_true hpos)) hneed (need_max hb hneed)⟩
  · rename_i id
    obtain ⟨hφ, _⟩ := hs
    rw [run_get] at hr
    cases hE : h id <;> rw [hE] at hr <;> simp only [run_fail] at hr <;> try cases hr
    rename_i e' l f
    rw [run_chk] at hr
    simp only [Bool.and_eq_true] at hr
    obtain ⟨⟨hee, hneed⟩, hr⟩ := hr
    have hee := Nat.eq_of_beq_eq_true hee
    subst hee
    split at hr
    · rw [run_chk] at hr
      simp only [Bool.and_eq_true] at hr
      obtain ⟨⟨hf, hpos⟩, hr⟩ := hr
      rw [run_bind, run_new] at hr
      have he := hm.ent id
      rw [hE] at he
      obtain ⟨v, hv', hown, hfull, _⟩ := he
      obtain rfl := Option.some.inj (hφ.symm.trans hv')
      obtain ⟨a, hfv⟩ := hfull hf
      exact ⟨_, _, _, _, hr.2, _, rfl, append_full hT hm hr.1 ho htu hk hfv hown.reads hsrc (List.length_pos_iff.1 (Nat.le_of_ble_eq_true hpos)) hneed (need_max hb hneed)⟩
    · rw [run_put, run_bind, run_new] at hr
      obtain ⟨hu, hr⟩ := hr
      have hne : u ≠ id := fun e => by rw [e, Tab.upd_same] at hu; cases hu
      rw [Tab.upd_other _ _ hne] at hu
      exact ⟨_, _, _, _, hr, _, rfl, append_own hT hm hu ho htu hk hE hφ hsrc hneed (need_max hb hneed)⟩
  · simp [run_fail] at hr

theorem aop_val {R : Type} {K : Step → Tab → List Nat → List Nat → Option R} {x : R} {r ws : List Nat} (hT : TOK P T) (hE : EOK P T) (hm : Mem T U w I φ h) (hρ : ∀ y, RelV T w I φ (ρ y) (ρ' y)) {u md : Nat} {op : Op} (ho : o.op = op) (hnc : isCall op = false)
    (hr : (aop T u md ρ op).run K h r ws = some x) : ∃ st h' r' ws', K st h' r' ws' = some x ∧ StepS P T U ρ' o w I φ st h' := by
  unfold aop at hr
  split at hr
  · -- move
    rename_i y
    refine ⟨_, _, _, _, hr, _, rfl, .same hm (v := ρ' y) (by simp [execOp, ho]) (hρ y)⟩
  · rename_i y
    refine ⟨_, _, _, _, hr, _, rfl, .same hm (v := ρ' y) (by simp [execOp, ho]) (hρ y)⟩
  · -- pick
    rename_i c a b
    split at hr
    · rename_i p hp
      have hc := hρ c
      rw [hp] at hc
      have hc' := relV_bool hc
      have hrun : (execOp ρ' o).run P w = .ok (.value (if p then ρ' a else ρ' b)) w := by simp [execOp, ho, hc', asBool]
      split at hr
      · rename_i pa pb ha hb
        refine ⟨_, _, _, _, hr, _, rfl, .same hm hrun ?_⟩
        have h1 := hρ a; have h2 := hρ b
        rw [ha] at h1; rw [hb] at h2
        cases p
        · exact h2
        · exact h1
      · rw [run_br] at hr
        split at hr
        · rename_i hpt
          subst hpt
          exact ⟨_, _, _, _, hr, _, rfl, .same hm (by simpa using hrun) (hρ a)⟩
        · rename_i hpf
          have : p = false := by simpa using hpf
          subst this
          exact ⟨_, _, _, _, hr, _, rfl, .same hm (by simpa using hrun) (hρ b)⟩
    · simp [run_fail] at hr
  · -- alloc
    rw [run_chk, run_bind, run_new] at hr
    obtain ⟨hk, hu, hr⟩ := hr
    exact ⟨_, _, _, _, hr, _, rfl, alloc_sound hT hm ho hk hu⟩
  · -- box
    rw [run_chk, run_bind, run_new] at hr
    simp only [Bool.and_eq_true] at hr
    obtain ⟨⟨⟨hk, hl⟩, hf⟩, hu, hr⟩ := hr
    exact ⟨_, _, _, _, hr, _, rfl, box_sound hm ho hu (hρ _) hf⟩
  · -- build
    rename_i t
    split at hr
    · rename_i e har
      rw [run_chk] at hr
      simp only [Bool.and_eq_true] at hr
      obtain ⟨⟨⟨hag, hk⟩, hke⟩, hr⟩ := hr
      exact ⟨_, _, _, _, hr, _, rfl, buildArr_sound hT hm ho hag har hk hke⟩
    · rw [run_bind] at hr
      obtain ⟨av, hK, hs⟩ := build_sound (parts := #[]) (K := fun a h r w => (M.ret (Step.val a)).run K h r w) hT hm hρ ho hr
      exact ⟨_, _, _, _, hK, _, rfl, hs⟩
  · rw [run_bind] at hr
    obtain ⟨av, hK, hs⟩ := build_sound (K := fun a h r w => (M.ret (Step.val a)).run K h r w) hT hm hρ ho hr
    exact ⟨_, _, _, _, hK, _, rfl, hs⟩
  · -- buildSlice
    rename_i t len parts
    split at hr
    · rename_i e hte
      rw [run_chk] at hr
      simp only [Bool.and_eq_true, decide_eq_true_eq] at hr
      obtain ⟨⟨⟨⟨hk, hl⟩, hs⟩, hmax⟩, hr⟩ := hr
      rw [run_bind, run_bind] at hr
      obtain ⟨ds, h', r', ws', I', hr, m, x1, hdl, hds⟩ := toEls_sound hT hk hm (all2_map (fun p : Nat × Operand => ρ p.2) (fun p => ρ' p.2) parts.toList fun p _ => hρ p.2) hr
      rw [run_bind, run_new] at hr
      obtain ⟨hu, hr⟩ := hr
      refine ⟨_, _, _, _, hr, _, rfl, ?_⟩
      have hlen := Nat.eq_of_beq_eq_true hl
      obtain ⟨nx, w', I2, φ2, h1, h2, h3, h4⟩ := buildSlice_sound (ρ' := ρ') hT m hu ho hte hk hlen hs hmax (by rw [hdl]; simp [hlen]) (fun j p hp => hds j (ρ' p.2) (by rw [List.getElem?_map, hp]; rfl))
      exact ⟨nx, w', I2, φ2, h1, h2, x1.trans h3, h4⟩
    · simp [run_fail] at hr
  · -- load
    rename_i t a
    split at hr
    · rename_i id off ha
      rw [run_get] at hr
      cases hE : h id <;> rw [hE] at hr <;> simp only [run_fail] at hr <;> try cases hr
      rw [run_chk] at hr
      simp only [Bool.and_eq_true] at hr
      obtain ⟨⟨hk, hle⟩, hr⟩ := hr
      exact ⟨_, _, _, _, hr, _, rfl, load_box hT hm ho hk hE (Nat.le_of_ble_eq_true hle) ha (hρ a)⟩
    · rename_i e id i off ha
      rw [run_get] at hr
      cases hE : h id <;> rw [hE] at hr <;> simp only [run_fail] at hr <;> try cases hr
      · rw [run_chk] at hr
        simp only [Bool.and_eq_true] at hr
        obtain ⟨⟨⟨he, hk⟩, hle⟩, hr⟩ := hr
        have := Nat.eq_of_beq_eq_true he
        subst this
        exact ⟨_, _, _, _, hr, _, rfl, load_eptr hT hm ho hk (Nat.le_of_ble_eq_true hle) ha (hρ a) (.inl ⟨_, hE⟩)⟩
      · rw [run_chk] at hr
        simp only [Bool.and_eq_true] at hr
        obtain ⟨⟨⟨he, hk⟩, hle⟩, hr⟩ := hr
        have := Nat.eq_of_beq_eq_true he
        subst this
        exact ⟨_, _, _, _, hr, _, rfl, load_eptr hT hm ho hk (Nat.le_of_ble_eq_true hle) ha (hρ a) (.inr hE)⟩
    · rename_i e d off ha
      rw [run_chk] at hr
      simp only [Bool.and_eq_true] at hr
      obtain ⟨⟨hk, hle⟩, hr⟩ := hr
      exact ⟨_, _, _, _, hr, _, rfl, load_sptr hT hm ho hk (Nat.le_of_ble_eq_true hle) ha (hρ a)⟩
    · simp [run_fail] at hr
  · -- store
    rename_i t a b
    split at hr
    · rename_i id off ha
      rw [run_get] at hr
      cases hE : h id <;> rw [hE] at hr <;> simp only [run_fail] at hr <;> try cases hr
      rw [run_chk] at hr
      simp only [Bool.and_eq_true] at hr
      obtain ⟨⟨⟨⟨hk, hle⟩, hlen⟩, hf⟩, hr⟩ := hr
      rw [run_put] at hr
      exact ⟨_, _, _, _, hr, _, rfl, store_box hT hm ho hk hE (Nat.le_of_ble_eq_true hle) (Nat.eq_of_beq_eq_true hlen) hf ha (hρ a) (hρ b)⟩
    · rename_i e id i off ha
      rw [run_bind] at hr
      by_cases hk : kn T t = true
      · have hcells := cells_toDs hm (hρ b) (kn_iff.1 hk) hr
        obtain ⟨hf, ds, h', r', ws', I', hr, m, x1, hl, hl', hds⟩ := toDs_sound hm hcells hr
        rw [run_get] at hr
        cases hE : h' id <;> rw [hE] at hr <;> simp only [run_fail] at hr <;> try cases hr
        rw [run_chk] at hr
        simp only [Bool.and_eq_true, decide_eq_true_eq] at hr
        obtain ⟨⟨⟨he, _⟩, hsub⟩, hr⟩ := hr
        have := Nat.eq_of_beq_eq_true he
        subst this
        rw [run_put] at hr
        refine ⟨_, _, _, _, hr, _, rfl, ?_⟩
        obtain ⟨nx, w', I2, φ2, h1, h2, h3, h4⟩ := store_eptr (ρ := ρ) (ρ' := ρ') hT m ho hk hE hsub ha ((hρ a).ext x1) hl (by simpa using hl') (fun y hy => all2_one hcells hf y (by simpa using hy)) hds
        exact ⟨nx, w', I2, φ2, h1, h2, x1.trans h3, h4⟩
      · have hk' : (T t).cells = [] := by
          cases hc : (T t).cells with
          | nil => rfl
          | cons c cs => exact absurd (kn_iff.2 (by rw [hc]; simp)) hk
        exfalso
        rw [hk'] at hr
        cases hcv : cellsV (ρ b) with
        | nil =>
          rw [hcv] at hr
          simp only [toDs, run_ret, run_get] at hr
          cases hE : h id <;> rw [hE] at hr <;> simp only [run_fail] at hr <;> try cases hr
          rw [run_chk] at hr
          simp only [Bool.and_eq_true] at hr
          exact hk hr.1.1.2
        | cons c cs => rw [hcv] at hr; simp [toDs, run_fail] at hr
    · simp [run_fail] at hr
  · -- nilCheck
    rename_i y
    have hy := hρ y
    split at hr <;> first | (simp [run_fail] at hr; done) | skip
    · rename_i e d hv
      rw [hv] at hy
      rw [run_chk] at hr
      obtain ⟨hnn, hr⟩ := hr
      simp only [Bool.not_eq_true'] at hnn
      rcases hy with ⟨hy, _⟩ | ⟨_, b, h1, h2, h3⟩
      · rw [hnn] at hy; cases hy
      exact ⟨_, _, _, _, hr, _, rfl, .same hm (v := ρ' y) (by rw [h2]; simp [execOp, ho, h2]) (.of_C ⟨b, 0, h1, h2, fun j _ hj => by simpa using h3 j hj⟩)⟩
    · rename_i id off hv
      rw [hv] at hy
      obtain ⟨b, h1, h2⟩ := hy
      exact ⟨_, _, _, _, hr, _, rfl, .same hm (v := .pointer (some ⟨b, off, none⟩)) (by simp [execOp, ho, h2]) (.of_C ⟨b, h1, rfl⟩)⟩
    · rename_i e id i off hv
      rw [hv] at hy
      have hy' := hy
      obtain ⟨b, n, cap, h1, h2, h3, h4⟩ := hy
      exact ⟨_, _, _, _, hr, _, rfl, .same hm (v := ρ' y) (by rw [h4]; simp [execOp, ho, h4]) hy'⟩
    · rename_i e d off hv
      rw [hv] at hy
      have hy' := hy
      obtain ⟨b, o2, h1, h2, h3⟩ := hy
      exact ⟨_, _, _, _, hr, _, rfl, .same hm (v := ρ' y) (by rw [h2]; simp [execOp, ho, h2]) hy'⟩
    · rename_i f c hv
      rw [hv] at hy
      have hy' := hy
      obtain ⟨cs, h1, h2⟩ := hy
      exact ⟨_, _, _, _, hr, _, rfl, .same hm (v := ρ' y) (by rw [h1]; simp [execOp, ho, h1]) hy'⟩
  · -- binOp
    rename_i op t a b _
    rw [run_bind] at hr
    obtain ⟨av, v, hK, hrun, hrel⟩ := bop_sound (P := P) (o1 := a) (o2 := b) hT hE (hρ a) (hρ b) hr
    exact ⟨_, _, _, _, hK, _, rfl, .same hm (v := v) (by simp only [execOp, ho]; rw [Sem.run_bind, hrun]; rfl) (.of_C hrel)⟩
  · -- unOp
    rename_i op _ a
    rw [run_bind] at hr
    obtain ⟨av, v, hK, hrun, hrel⟩ := uop_sound (P := P) (hρ a) hr
    exact ⟨_, _, _, _, hK, _, rfl, .same hm (v := v) (by simp [execOp, ho, hrun, Result.andThen]) (.of_C hrel)⟩
  · -- convert
    rename_i src dst y
    have hy := hρ y
    split at hr
    · rename_i kk n k hv hc
      rw [run_chk] at hr
      simp only [Bool.and_eq_true, Bool.not_eq_true'] at hr
      rw [hv] at hy
      exact ⟨_, _, _, _, hr.2, _, rfl, convert_int hT hm ho hr.1.2 hc hr.1.1 (relV_int hy)⟩
    · rename_i kk n hv hc
      rw [run_chk] at hr
      simp only [Bool.and_eq_true, Bool.not_eq_true'] at hr
      rw [hv] at hy
      exact ⟨_, _, _, _, hr.2, _, rfl, convert_int_str hT hm ho hr.1.2 hc hr.1.1 (relV_int hy)⟩
    · rename_i s hv hc
      rw [run_chk] at hr
      simp only [Bool.and_eq_true, Bool.not_eq_true'] at hr
      rw [hv] at hy
      exact ⟨_, _, _, _, hr.2, _, rfl, convert_str hT hm ho hr.1.2 hc hr.1.1 (relV_str hy)⟩
    · rename_i s hv hno
      split at hr
      · rename_i e he
        rw [run_chk] at hr
        simp only [Bool.and_eq_true, Bool.not_eq_true'] at hr
        rw [hv] at hy
        exact ⟨_, _, _, _, hr.2, _, rfl, convert_to_bytes hT hm ho hr.1.1.2 hr.1.2 he hr.1.1.1 (relV_str hy)⟩
      · simp [run_fail] at hr
    · rename_i hc _ _
      split at hr
      · rename_i e he
        rw [run_chk] at hr
        simp only [Bool.and_eq_true, Bool.not_eq_true'] at hr
        obtain ⟨⟨hag, hu8⟩, hr⟩ := hr
        rw [run_bind] at hr
        obtain ⟨p, r', hr, hreads⟩ := rowOf_sound hm (hρ y) hr
        rw [run_chk] at hr
        have := Nat.eq_of_beq_eq_true hr.1
        rw [this] at hreads
        exact ⟨_, _, _, _, hr.2, _, rfl, convert_bytes hT hm ho he hu8 hc hag hreads⟩
      · simp [run_fail] at hr
    · rename_i id hv _
      split at hr
      · rename_i e he
        rw [run_chk] at hr
        simp only [Bool.and_eq_true] at hr
        obtain ⟨⟨hsd, hu8⟩, hr⟩ := hr
        have hsd := Nat.eq_of_beq_eq_true hsd
        subst hsd
        rw [run_get] at hr
        split at hr
        · rename_i e' l f hid
          rw [run_chk] at hr
          simp only [Bool.and_eq_true, Bool.not_eq_true'] at hr
          obtain ⟨⟨hee, hne⟩, hr⟩ := hr
          have hee := Nat.eq_of_beq_eq_true hee
          subst hee
          rw [run_put] at hr
          rw [hv] at hy
          have hl : l ≠ [] := fun e => by rw [e] at hne; simp at hne
          exact ⟨_, _, _, _, hr, _, rfl, convert_const hT hm ho he hu8 hid hl hy.1⟩
        · simp [run_fail] at hr
      · simp [run_fail] at hr
    · simp [run_fail] at hr
  · -- makeFunc
    rename_i f caps
    rw [run_chk] at hr
    have hp : ∀ (l : List Operand), ptrs (l.map ρ) = true → All2 (RelP φ) (l.map ρ) (l.map ρ') := by
      intro l
      induction l with
      | nil => intro _; exact .nil
      | cons y l ih =>
        intro hl
        have hy := hρ y
        simp only [List.map_cons] at hl ⊢
        cases hv : ρ y <;> rw [hv] at hl hy <;> simp only [ptrs, Bool.false_eq_true] at hl
        exact .cons hy (ih hl)
    exact ⟨_, _, _, _, hr.2, _, rfl, .same hm (v := .func (.func f) #[] (caps.map ρ')) (by simp [execOp, ho, Instr.makeFunc, Result.andThen]) (.of_C ⟨_, rfl, by simpa using hp caps.toList hr.1⟩)⟩
  · -- makeSlice
    rename_i t a b
    have hy := hρ a
    have hz := hρ b
    split at hr
    · rename_i e k n k' m hte ha hb
      rw [run_chk] at hr
      simp only [Bool.and_eq_true, decide_eq_true_eq] at hr
      obtain ⟨⟨⟨⟨⟨⟨hk, h0⟩, hnm⟩, hneed⟩, hok⟩, hmax⟩, hr⟩ := hr
      rw [run_bind, run_new] at hr
      obtain ⟨hu, hr⟩ := hr
      rw [ha] at hy; rw [hb] at hz
      exact ⟨_, _, _, _, hr, _, rfl, makeSlice_sound hT hm hu ho hte hk (relV_int hy) (relV_int hz) h0 hnm hneed hok hmax⟩
    · simp [run_fail] at hr
  · -- slice
    rename_i t y lo hi mx
    have hy := hρ y
    split at hr
    · rename_i b hv
      rw [run_chk] at hr
      simp only [Bool.and_eq_true, Bool.not_eq_true'] at hr
      obtain ⟨⟨hts, hta⟩, hr⟩ := hr
      obtain ⟨p, q, hr, hlo, hhi, hab, hb⟩ := bnd_sound hρ hr
      rw [hv] at hy
      exact ⟨_, _, _, _, hr, _, rfl, slice_str hT hm ho hts hta (relV_str hy) hlo hhi hab hb⟩
    · rename_i hno
      split at hr
      · rename_i e hte
        rw [run_chk] at hr
        obtain ⟨hk, hr⟩ := hr
        rw [run_bind] at hr
        obtain ⟨p, r', hr, hreads⟩ := rowOf_sound hm (hρ y) hr
        rw [run_chk] at hr
        obtain ⟨hpe, hr⟩ := hr
        have hpe := Nat.eq_of_beq_eq_true hpe
        obtain ⟨a, b, hr, hlo, hhi, hab, hb⟩ := bnd_sound hρ hr
        rw [hpe] at hreads
        obtain ⟨ad, cap, hval, hcap⟩ := hreads.val
        split at hr
        · rename_i id hv
          rw [hv] at hy
          obtain ⟨hφ, _⟩ := hy
          have he := hm.ent id
          have hlen : ∀ l f, (h id = .row e l f ∨ h id = .frz e l) → l.length = p.2.length := by
            intro l f hh
            rcases hh with hh | hh <;> rw [hh] at he <;> obtain ⟨v, hv', hrr, _⟩ := he <;> obtain rfl := Option.some.inj (hφ.symm.trans hv')
            · obtain ⟨a', c', h1, _⟩ := hrr.slice
              rw [hval] at h1; simp only [Value.slice.injEq] at h1; exact h1.2.1.symm
            · obtain ⟨a', c', h1, _⟩ := hrr.row_len
              rw [hval] at h1; simp only [Value.slice.injEq, D.r] at h1; exact h1.2.1.symm
          split at hr
          · rename_i hmd hlo0
            rw [run_get] at hr
            cases hE : h id <;> rw [hE] at hr <;> simp only [run_fail] at hr <;> try cases hr
            rename_i e' l f
            rw [run_chk] at hr
            obtain ⟨hee, hr⟩ := hr
            have hee := Nat.eq_of_beq_eq_true hee
            subst hee
            rw [run_put, run_bind, run_new] at hr
            obtain ⟨hu, hr⟩ := hr
            have hne : u ≠ id := fun e => by rw [e, Tab.upd_same] at hu; cases hu
            rw [Tab.upd_other _ _ hne] at hu
            have hl := hlen l f (.inl hE)
            refine ⟨_, _, _, _, hr, _, rfl, slice_move hT hm hu ho hte hk hE hφ (by rw [hl]; exact hhi) (by omega)⟩
          · rw [run_get] at hr
            cases hE : h id <;> rw [hE] at hr <;> simp only [run_fail] at hr <;> try cases hr
            · rename_i e' l f
              rw [run_chk] at hr
              obtain ⟨hee, hr⟩ := hr
              have hee := Nat.eq_of_beq_eq_true hee
              subst hee
              rw [run_put] at hr
              have hl := hlen l f (.inl hE)
              obtain ⟨I', m, x1, hrep⟩ := freezeAt hm (.inl ⟨f, hE⟩) hφ
              exact ⟨_, _, _, _, hr, _, rfl, slice_seen hT m x1 ho hte hk hrep hlo (by rw [hl]; exact hhi) hab (by omega)⟩
            · rename_i e' l
              rw [run_chk] at hr
              obtain ⟨hee, hr⟩ := hr
              have hee := Nat.eq_of_beq_eq_true hee
              subst hee
              have hl := hlen l false (.inr hE)
              rw [hE] at he
              obtain ⟨v, hv', hrep, _⟩ := he
              obtain rfl := Option.some.inj (hφ.symm.trans hv')
              exact ⟨_, _, _, _, hr, _, rfl, slice_seen hT hm .refl ho hte hk hrep hlo (by rw [hl]; exact hhi) hab (by omega)⟩
        · rename_i hv
          rw [hv] at hy
          have hy' : ρ' y = .slice none 0 0 := hy
          have hl0 : p.2.length = 0 := by rw [hy'] at hval; simp only [Value.slice.injEq] at hval; exact hval.2.1.symm
          exact ⟨_, _, _, _, hr, _, rfl, slice_empty hT hm ho hte hk hy' hlo (by rw [← hl0]; exact hhi) hab (by omega) rfl⟩
        · rename_i hv
          rw [hv] at hy
          obtain ⟨a0, hy'⟩ := hy
          have hl0 : p.2.length = 0 := by rw [hy'] at hval; simp only [Value.slice.injEq] at hval; exact hval.2.1.symm
          exact ⟨_, _, _, _, hr, _, rfl, slice_empty hT hm ho hte hk hy' hlo (by rw [← hl0]; exact hhi) hab (by omega) ⟨a0, rfl⟩⟩
        · rename_i l hv
          rw [hv] at hy
          rw [run_chk] at hr
          obtain ⟨hee, hr⟩ := hr
          have hee := Nat.eq_of_beq_eq_true hee
          subst hee
          have hl : l.length = p.2.length := by
            obtain ⟨a', c', h1, _⟩ := RepC.row_len (show RepC T w I (.sl _) (.row l) (ρ' y) from hy)
            rw [hval] at h1; simp only [Value.slice.injEq, D.r] at h1; exact h1.2.1.symm
          exact ⟨_, _, _, _, hr, _, rfl, slice_seen hT hm .refl ho hte hk hy hlo (by rw [hl]; exact hhi) hab (by omega)⟩
        · rename_i l hv
          rw [hv] at hy
          rw [run_chk] at hr
          obtain ⟨hee, hr⟩ := hr
          have hee := Nat.eq_of_beq_eq_true hee
          subst hee
          have hl : l.length = p.2.length := by
            obtain ⟨a', c', h1, _⟩ := RepC.row_len (show RepC T w I (.sl _) (.row l) (ρ' y) from hy.1)
            rw [hval] at h1; simp only [Value.slice.injEq, D.r] at h1; exact h1.2.1.symm
          exact ⟨_, _, _, _, hr, _, rfl, slice_seen hT hm .refl ho hte hk hy.1 hlo (by rw [hl]; exact hhi) hab (by omega)⟩
        · simp [run_fail] at hr
      · simp [run_fail] at hr
    · rename_i mxo
      split at hr
      · rename_i e hoo _ hte hmx
        rw [run_chk] at hr
        obtain ⟨hk, hr⟩ := hr
        have hq := hρ mxo
        rw [hmx] at hq
        split at hr
        · rename_i hz hv
          have hz' := hρ hoo
          rw [hz] at hz'
          rw [hv] at hy
          have hy' : ρ' y = .slice none 0 0 := hy
          exact ⟨_, _, _, _, hr, _, rfl, slice_full (l := []) hT hm ho hte hk ⟨none, 0, [], hy', Nat.le_refl _, .nil, fun h => absurd rfl h⟩ (relV_int hz') (relV_int hq) (.inr ⟨rfl, hy'⟩)⟩
        · rename_i hz _
          have hz' := hρ hoo
          rw [hz] at hz'
          rw [run_bind] at hr
          obtain ⟨p, r', hr, hreads⟩ := rowOf_sound hm (hρ y) hr
          rw [run_chk] at hr
          have hpe := Nat.eq_of_beq_eq_true hr.1
          rw [hpe] at hreads
          exact ⟨_, _, _, _, hr.2, _, rfl, slice_full hT hm ho hte hk hreads (relV_int hz') (relV_int hq) (.inl rfl)⟩
        · simp [run_fail] at hr
      · simp [run_fail] at hr
  · -- fieldAddr
    rename_i t y f
    split at hr
    · rename_i off ft hf
      rw [run_chk] at hr
      simp only [Bool.and_eq_true] at hr
      obtain ⟨⟨hag, hk⟩, hr⟩ := hr
      split at hr
      · rename_i hv
        exact ⟨_, _, _, _, hr, _, rfl, fieldAddr_sound hT hm ho hf hag hk (hρ y) (.inl ⟨_, _, hv, rfl⟩)⟩
      · rename_i hv
        exact ⟨_, _, _, _, hr, _, rfl, fieldAddr_sound hT hm ho hf hag hk (hρ y) (.inr (.inl ⟨_, _, _, _, hv, rfl⟩))⟩
      · rename_i hv
        exact ⟨_, _, _, _, hr, _, rfl, fieldAddr_sound hT hm ho hf hag hk (hρ y) (.inr (.inr ⟨_, _, _, hv, rfl⟩))⟩
      · simp [run_fail] at hr
    · simp [run_fail] at hr
  · -- field
    rename_i t y f
    split at hr
    · rename_i off ft cs hf hv
      rw [run_chk] at hr
      simp only [Bool.and_eq_true] at hr
      obtain ⟨⟨⟨hle, hag⟩, hk⟩, hr⟩ := hr
      exact ⟨_, _, _, _, hr, _, rfl, field_sound hT hm ho hf (Nat.le_of_ble_eq_true hle) hag hk hv (hρ y)⟩
    · simp [run_fail] at hr
  · -- indexAddr
    rename_i t y z
    split at hr
    · rename_i e k i hte hz
      split at hr
      · rename_i id hv
        rw [run_get] at hr
        cases hE : h id <;> rw [hE] at hr <;> simp only [run_fail] at hr <;> try cases hr
        · rw [run_chk] at hr
          simp only [Bool.and_eq_true] at hr
          obtain ⟨⟨⟨hee, hin⟩, hk⟩, hr⟩ := hr
          have := Nat.eq_of_beq_eq_true hee
          subst this
          exact ⟨_, _, _, _, hr, _, rfl, indexAddr_sound hT hm ho hte hk hz (hρ y) (hρ z) (.inl ⟨_, _, _, hv, hE, hin, rfl⟩)⟩
        · rw [run_chk] at hr
          simp only [Bool.and_eq_true] at hr
          obtain ⟨⟨⟨hee, hin⟩, hk⟩, hr⟩ := hr
          have := Nat.eq_of_beq_eq_true hee
          subst this
          exact ⟨_, _, _, _, hr, _, rfl, indexAddr_sound hT hm ho hte hk hz (hρ y) (hρ z) (.inr (.inl ⟨_, _, hv, hE, hin, rfl⟩))⟩
      · rename_i hv
        rw [run_chk] at hr
        simp only [Bool.and_eq_true] at hr
        obtain ⟨⟨⟨hee, hin⟩, hk⟩, hr⟩ := hr
        have := Nat.eq_of_beq_eq_true hee
        subst this
        exact ⟨_, _, _, _, hr, _, rfl, indexAddr_sound hT hm ho hte hk hz (hρ y) (hρ z) (.inr (.inr ⟨_, .inl hv, hin, rfl⟩))⟩
      · rename_i hv
        rw [run_chk] at hr
        simp only [Bool.and_eq_true] at hr
        obtain ⟨⟨⟨hee, hin⟩, hk⟩, hr⟩ := hr
        have := Nat.eq_of_beq_eq_true hee
        subst this
        exact ⟨_, _, _, _, hr, _, rfl, indexAddr_sound hT hm ho hte hk hz (hρ y) (hρ z) (.inr (.inr ⟨_, .inr hv, hin, rfl⟩))⟩
      · simp [run_fail] at hr
    · rename_i k i hte hz
      split at hr
      · rename_i e id off har hv
        rw [run_chk] at hr
        simp only [Bool.and_eq_true] at hr
        obtain ⟨⟨⟨⟨hag, hk⟩, hke⟩, h1⟩, hr⟩ := hr
        obtain ⟨m, _, hm2, him, hr2⟩ := pickI_run hr
        subst him
        have hzz := hρ z
        rw [hz] at hzz
        have hyy := hρ y
        rw [hv] at hyy
        exact ⟨_, _, _, _, hr2, _, rfl, indexArr_sound hT hm ho hag har hk hke (Nat.eq_of_beq_eq_true h1) (by omega) (relV_int hzz) hyy⟩
      · simp [run_fail] at hr
    · simp [run_fail] at hr
  · -- index
    rename_i t y z
    split at hr
    · rename_i hv hz
      rw [run_chk] at hr
      simp only [Bool.and_eq_true, Bool.not_eq_true'] at hr
      obtain ⟨⟨⟨hin, hts⟩, hta⟩, hr⟩ := hr
      exact ⟨_, _, _, _, hr, _, rfl, index_sound hT hm ho hts hta hin hv hz (hρ y) (hρ z)⟩
    · simp [run_fail] at hr
  · -- makeMap
    rename_i t
    split at hr
    · rename_i k e ht
      split at hr
      · rename_i e' hse
        rw [run_chk, run_bind, run_new] at hr
        obtain ⟨hk, hu, hr⟩ := hr
        exact ⟨_, _, _, _, hr, _, rfl, makeMap_sound hm hu ho (fun _ => kn_iff.1 hk)⟩
      · rw [run_chk, run_bind, run_new] at hr
        obtain ⟨_, hu, hr⟩ := hr
        exact ⟨_, _, _, _, hr, _, rfl, makeMap_sound hm hu ho (fun h => by cases h)⟩
    · simp [run_fail] at hr
  · -- lookup
    rename_i t y z ok
    split at hr
    · rename_i k e id s ht hv hz
      rw [run_chk] at hr
      obtain ⟨hs, hr⟩ := hr
      have hs := of_decide_eq_true hs
      have hy := hρ y
      have hz' := hρ z
      rw [hv] at hy
      rw [hz] at hz'
      have hy : RelC T w I φ (.mapr id) (ρ' y) := hy
      have hz' : ρ' z = .string s := hz'
      rw [run_get] at hr
      cases hE : h id <;> rw [hE] at hr <;> try (simp [run_fail] at hr; done)
      rename_i e' own m tk
      cases own
      · simp only [] at hr
        rw [run_chk] at hr
        simp only [Bool.and_eq_true] at hr
        obtain ⟨⟨hee, hsc⟩, hr⟩ := hr
        have hee := Nat.eq_of_beq_eq_true hee
        subst hee
        obtain ⟨c, h1, h2, _, h4⟩ := scalT_ok hsc
        exact ⟨_, _, _, _, hr, _, rfl, lookup_scal hT hm ho ht hs hE hy hz' ⟨c, h1, h2, h4 w I⟩ (by cases ok <;> rfl)⟩
      · cases tk
        · simp only [] at hr
          split at hr
          · rename_i e'' hse
            rw [run_chk] at hr
            obtain ⟨hee, hr⟩ := hr
            have hee := Nat.eq_of_beq_eq_true hee
            subst hee
            rw [run_put, run_bind, run_new] at hr
            obtain ⟨hu, hr⟩ := hr
            have hne : u ≠ id := fun e => by rw [e, Tab.upd_same] at hu; cases hu
            rw [Tab.upd_other _ _ hne] at hu
            exact ⟨_, _, _, _, hr, _, rfl, lookup_own hT hm hu ho ht hs hse hE hy hz'⟩
          · simp [run_fail] at hr
        · simp [run_fail] at hr
    · simp [run_fail] at hr
  · -- mapUpdate
    rename_i t y z q
    split at hr
    · rename_i k e id s ht hv hz
      rw [run_chk] at hr
      obtain ⟨hs, hr⟩ := hr
      have hs := of_decide_eq_true hs
      have hy := hρ y
      have hz' := hρ z
      rw [hv] at hy
      rw [hz] at hz'
      have hy : RelC T w I φ (.mapr id) (ρ' y) := hy
      have hz' : ρ' z = .string s := hz'
      rw [run_get] at hr
      cases hE : h id <;> rw [hE] at hr <;> try (simp [run_fail] at hr; done)
      rename_i e' own m tk
      cases own
      · simp only [] at hr
        rw [run_chk] at hr
        simp only [Bool.and_eq_true] at hr
        obtain ⟨⟨⟨hee, hsc⟩, hlen⟩, hr⟩ := hr
        have hee := Nat.eq_of_beq_eq_true hee
        subst hee
        obtain ⟨c, h1, h2, h3, _⟩ := scalT_ok hsc
        have hc : (T e).cells.getD 0 .other = c := by rw [h1]; rfl
        rw [run_bind, hc] at hr
        have hq := hρ q
        have hqc : RelC T w I φ (ρ q) (ρ' q) := by
          have : ∀ {a : AV} {u : Value}, RelV T w I φ a u → (toD c a).run (fun d h r w => M.run K (M.put id (Ent.map e false (mPut m s d) tk) (M.ret (Step.val AV.undef))) h r w) h (id :: r) ws = some x → RelC T w I φ a u := fun {a u} hh hr => by
            cases a <;> first | exact hh | (simp [toD, run_fail] at hr)
          exact this hq hr
        obtain ⟨d, hr, hd⟩ := toD_scal h3 hqc hr
        rw [run_put] at hr
        exact ⟨_, _, _, _, hr, _, rfl, update_scal hT hm ho ht hs hE hy hz' (Nat.le_of_ble_eq_true hlen) (by rw [hc]; exact hd) (by rw [hc]; exact h3)⟩
      · simp only [] at hr
        split at hr
        · rename_i e'' rq hse hqv
          rw [run_chk] at hr
          simp only [Bool.and_eq_true] at hr
          obtain ⟨⟨⟨hee, hlen⟩, htk⟩, hr⟩ := hr
          rw [run_get] at hr
          cases hE2 : h rq <;> rw [hE2] at hr <;> simp only [run_fail] at hr <;> try cases hr
          rename_i e3 l f
          rw [run_chk] at hr
          obtain ⟨he3, hr⟩ := hr
          have he3 := Nat.eq_of_beq_eq_true he3
          subst he3
          rw [run_put, run_put] at hr
          have hq := hρ q
          rw [hqv] at hq
          have hq : RelC T w I φ (.orow rq) (ρ' q) := hq
          exact ⟨_, _, _, _, hr, _, rfl, update_own hT hm ho ht hs hE (fun s' u' e1 => by subst e1; exact ba_ext (by simpa using htk)) hE2 hq.1 hy hz' (Nat.le_of_ble_eq_true hlen)⟩
        · simp [run_fail] at hr
    · simp [run_fail] at hr
  · -- extract
    rename_i y ix
    split at hr
    · rename_i l hv
      split at hr
      · rename_i a ha
        exact ⟨_, _, _, _, hr, _, rfl, extract_sound hm ho hv ha (hρ y)⟩
      · simp [run_fail] at hr
    · simp [run_fail] at hr
  · -- len
    rename_i y t
    split at hr
    · rename_i s hv
      rw [run_chk] at hr
      simp only [Bool.and_eq_true, Bool.not_eq_true'] at hr
      obtain ⟨⟨hts, hta⟩, hr⟩ := hr
      have hy := hρ y
      rw [hv] at hy
      exact ⟨_, _, _, _, hr, _, rfl, len_sound hT hm ho (.inl ⟨s, relV_str hy, hts, hta, rfl⟩)⟩
    · rename_i e hte _
      rw [run_bind] at hr
      obtain ⟨p, r', hr, hreads⟩ := rowOf_sound hm (hρ y) hr
      exact ⟨_, _, _, _, hr, _, rfl, len_sound hT hm ho (.inr ⟨_, _, _, hreads, hte, rfl⟩)⟩
    · simp [run_fail] at hr
  · -- max
    rename_i y z ts
    split at hr
    · rename_i k a k' b hv hz
      rw [run_chk] at hr
      obtain ⟨hk, hr⟩ := hr
      have := of_decide_eq_true hk
      subst this
      have hy := hρ y; have hz' := hρ z
      rw [hv] at hy; rw [hz] at hz'
      exact ⟨_, _, _, _, hr, _, rfl, max_sound hm ho (relV_int hy) (relV_int hz')⟩
    · simp [run_fail] at hr
  · rename_i y z ts
    split at hr
    · rename_i k a k' b hv hz
      rw [run_chk] at hr
      obtain ⟨hk, hr⟩ := hr
      have := of_decide_eq_true hk
      subst this
      have hy := hρ y; have hz' := hρ z
      rw [hv] at hy; rw [hz] at hz'
      exact ⟨_, _, _, _, hr, _, rfl, min_sound hm ho (relV_int hy) (relV_int hz')⟩
    · simp [run_fail] at hr
  · -- append
    rename_i s y t t'
    split at hr
    · rename_i e hte
      obtain ⟨_, _, htu⟩ := slE_ok hT hte
      rw [run_chk] at hr
      simp only [Bool.and_eq_true] at hr
      obtain ⟨⟨hk, hb⟩, hr⟩ := hr
      rw [run_bind] at hr
      obtain ⟨l2, r', hsrc, hr⟩ := newsOf_sound hT hm htu (hρ y) hr
      exact appOn_sound hT hm ho htu hk (Nat.le_of_ble_eq_true hb) (hρ s) hsrc hr
    · simp [run_fail] at hr
  · -- a call
    simp [isCall] at hnc
  · simp [run_fail] at hr
end
end Go.Sx
