/- Code: what the reckoner comes to, the machine comes to. -/
import Derived.Test.YtlhbonpdlghlbaaDoorSxCut
set_option linter.unusedVariables false
set_option linter.unusedSimpArgs false
namespace Go.Sx
open Go.RowKit
/-- What stays where nothing that is owned was touched. -/
def TrW (ds : List Nat) (s s' : St) : Prop := s.w ≤ s'.w ∧ (s'.w = s.w → s'.h = s.h ∧ ∀ i, i ∉ ds → plainV (s'.t i) = plainV (s.t i))
theorem TrW.refl (ds : List Nat) (s : St) : TrW ds s s := ⟨Nat.le_refl _, fun _ => ⟨rfl, fun _ _ => rfl⟩⟩
theorem TrW.trans {d e f : List Nat} {s s' s'' : St} (h : TrW d s s') (k : TrW e s' s'') (hd : ∀ i, i ∈ d → i ∈ f) (he : ∀ i, i ∈ e → i ∈ f) : TrW f s s'' := by
  refine ⟨Nat.le_trans h.1 k.1, fun hw => ?_⟩
  have h1 := h.1; have h2 := k.1
  obtain ⟨a1, a2⟩ := h.2 (by omega)
  obtain ⟨b1, b2⟩ := k.2 (by omega)
  exact ⟨b1.trans a1, fun i hi => (b2 i (fun hh => hi (he i hh))).trans (a2 i (fun hh => hi (hd i hh)))⟩
theorem TrW.of_lt {d : List Nat} {s s' : St} (h : s.w < s'.w) : TrW d s s' := ⟨Nat.le_of_lt h, fun e => by omega⟩
theorem TrW.mono {d e : List Nat} {s s' : St} (h : TrW d s s') (hd : ∀ i, i ∈ d → i ∈ e) : TrW e s s' := h.trans (TrW.refl [] s') hd (fun i hi => by simp at hi)
theorem mem_dstsR : ∀ {ops : List Oper} {i : Nat} {o : Oper} {n : Nat}, ops[i]? = some o → o.dst = some n → n ∈ dstsR ops
  | [], i, o, n, h, _ => by simp at h
  | o' :: ops, i, o, n, h, hd => by
    simp only [dstsR, List.mem_append]
    cases i with
    | zero => simp at h; subst h; left; simp [hd]
    | succ i => right; exact mem_dstsR (by simpa using h) hd
section
variable {T : Nat → TyI} {F : Nat → Nat → List AV → Option (List AV)} {k id : Nat} {md : Nat → Nat} {all : List Oper}
theorem pstep_tr {i : Nat} {s s1 : St} {r w : List Nat} (h : pstep T F k id md all i s = some (s1, r, w)) : TrW (dstsR all) s s1 := by
  obtain ⟨n, hn, h1, h2, h3, _⟩ := pstep_local h
  refine ⟨by omega, fun hw => ?_⟩
  have hw0 : w = [] := List.eq_nil_of_length_eq_zero (by omega)
  subst hw0
  exact ⟨funext fun z => h3 z (by simp), fun j hj => by rw [h2 j (fun o ho hd => hj (mem_dstsR ho hd))]⟩
theorem prun_tr : ∀ {l : List Nat} {s : St} {q : St × Tr}, prun T F k id md all l s = some q → TrW (dstsR all) s q.1
  | [], s, q, h => by simp only [prun, Option.some.injEq] at h; subst h; exact .refl _ _
  | i :: l, s, q, h => by
    simp only [prun] at h
    obtain ⟨p, hp, h⟩ := Option.bind_eq_some_iff.1 h
    obtain ⟨q', hq', rfl⟩ := Option.map_eq_some_iff.1 h
    have h1 := pstep_tr (r := p.2.1) (w := p.2.2) hp
    have h2 := prun_tr hq'
    exact h1.trans h2 (fun _ h => h) (fun _ h => h)
end
def outE : Out → Exit
  | .nrm => .normal
  | .exit id => .exit id
  | .ret => .ret

theorem wp_loop_fuel {P : Program} {Q : Exit → Act → World → Prop} {c : Code} (I : Nat → Act → World → Prop) (round : ∀ n a w, I n a w → ∃ m, n = m + 1 ∧ c.wp P (Exit.then (I m) Q) a w) {n : Nat} {a : Act} {w : World} (h0 : I n a w) : (Code.loop c).wp P Q a w := by
  intro b k cs
  have key : ∀ n a w, I n a w → ∃ e a' w', Q e a' w' ∧ Arrives P (lone (b.at a (.code c :: .inLoop c :: k)) cs w) b k cs e a' w' := by
    intro n
    induction n with
    | zero => intro a w hI; obtain ⟨m, hm, _⟩ := round 0 a w hI; omega
    | succ n ih =>
      intro a w hI
      obtain ⟨m, hm, hr⟩ := round (n + 1) a w hI
      obtain rfl : n = m := by omega
      obtain ⟨e, a₁, w₁, hq, harr⟩ := hr b (.inLoop c :: k) cs
      cases e with
      | normal =>
        obtain ⟨e₂, a₂, w₂, hq₂, harr₂⟩ := ih a₁ w₁ hq
        exact ⟨e₂, a₂, w₂, hq₂, .of_steps (Steps.trans harr (.one step_inLoop)) harr₂⟩
      | exit id => exact ⟨_, a₁, w₁, hq, .pass (x := .inLoop c) rfl (fun _ _ => .inl (by simp)) harr⟩
      | goto l => exact ⟨_, a₁, w₁, hq, .pass (x := .inLoop c) rfl (fun _ _ => .inl (by simp)) harr⟩
      | ret => exact ⟨_, a₁, w₁, hq, .pass (x := .inLoop c) rfl (fun _ _ => .inl (by simp)) harr⟩
      | panic ch => exact ⟨_, a₁, w₁, hq, .pass (x := .inLoop c) rfl (fun _ _ => .inl (by simp)) harr⟩
      | outgrown => exact ⟨_, a₁, w₁, hq, .pass (x := .inLoop c) rfl (fun _ _ => .inl (by simp)) harr⟩
  obtain ⟨e, a', w', hq, harr⟩ := key n a w h0
  exact ⟨e, a', w', hq, .of_steps (.one step_loop) harr⟩

section
variable {P : Program} {T : Nat → TyI} {U : Nat → Prop} {N : Nat} {γ : Nat → Value} {F : Nat → Nat → List AV → Option (List AV)}
theorem Ext.no {w w' : World} {I I' : Nat → Prop} {φ φ' : Nat → Option Value} (x : Ext U w I φ w' I' φ') : Ext U w I noφ w' I' noφ := ⟨x.os, x.tape, x.output, x.size, x.keep, x.imm, x.same, x.new, fun _ _ h => by cases h⟩
mutual
theorem flat_rel {w : World} {I : Nat → Prop} {φ φ' : Nat → Option Value} : ∀ (s : Sh) (ds : List D) (n : Nat) (x : Value), s.flat = true → RelV T w I φ (unV s ds n).1 x → RelV T w I φ' (unV s ds n).1 x
  | .undef, _, _, _, _, h => h
  | .int _, _, _, _, _, h => h
  | .bool, _, _, _, _, h => h
  | .str, _, _, _, _, h => h
  | .srow _, _, _, _, _, h => h
  | .nilsl, _, _, _, _, h => h
  | .orow _, _, _, _, hf, _ => by simp [Sh.flat] at hf
  | .ptr _ _, _, _, _, hf, _ => by simp [Sh.flat] at hf
  | .nilptr, _, _, _, _, h => h
  | .nptr _, _, _, _, _, h => h
  | .agg l, ds, n, x, hf, h => by
    obtain ⟨cs, rfl, hcs⟩ := h
    exact ⟨cs, rfl, flat_relL l ds n cs.toList (by simpa [Sh.flat] using hf) hcs⟩
  | .clo f l, ds, n, x, hf, h => by
    have hl : l = [] := by simpa [Sh.flat] using hf
    subst hl
    obtain ⟨cs, h1, h2⟩ := h
    refine .of_C ⟨cs, h1, ?_⟩
    generalize cs.toList = m at h2 ⊢
    cases h2
    exact .nil
theorem flat_relL {w : World} {I : Nat → Prop} {φ φ' : Nat → Option Value} : ∀ (l : List Sh) (ds : List D) (n : Nat) (xs : List Value), flatL l = true → All2 (RelC T w I φ) (unL l ds n).1 xs → All2 (RelC T w I φ') (unL l ds n).1 xs
  | [], _, _, _, _, h => by cases h; exact .nil
  | s :: l, ds, n, xs, hf, h => by
    simp only [flatL, Bool.and_eq_true] at hf
    simp only [unL] at h ⊢
    cases h with
    | cons h1 h2 =>
      refine .cons ?_ (flat_relL l ds _ _ hf.2 h2)
      have h3 := flat_rel (φ' := φ') s ds n _ hf.1 (RelV.of_C h1)
      have hna : ∀ l', (unV s ds n).1 ≠ .agg l' := fun l' e => by rw [e] at h1; exact h1
      have hnt : ∀ l', (unV s ds n).1 ≠ .tup l' := fun l' e => by rw [e] at h1; exact h1
      have h4 := relA_of_V h3 hnt
      unfold RelA at h4
      split at h4
      · rename_i heq; exact absurd heq (hna _)
      · exact h4
end
theorem flat_relV {w : World} {I : Nat → Prop} {φ φ' : Nat → Option Value} : ∀ (l : List Sh) (ds : List D) (n : Nat) (xs : List Value), flatL l = true → All2 (RelV T w I φ) (unL l ds n).1 xs → All2 (RelV T w I φ') (unL l ds n).1 xs
  | [], _, _, _, _, h => by cases h; exact .nil
  | s :: l, ds, n, xs, hf, h => by
    simp only [flatL, Bool.and_eq_true] at hf
    simp only [unL] at h ⊢
    cases h with
    | cons h1 h2 => exact .cons (flat_rel s ds n _ hf.1 h1) (flat_relV l ds _ _ hf.2 h2)

/-- What is known of a function that is run in place. -/
def InlOK (P : Program) (T : Nat → TyI) (g : Nat) (F : Inl) : Prop := (∃ fn, P.funcs[g]? = some fn ∧ fn.name ≠ "runtime.NumGoroutine" ∧ fn.body ≠ none) ∧
  ∀ (U : Nat → Prop) (γ : Nat → Value) (w : World) (I : Nat → Prop) (φ : Nat → Option Value) (s : St) (vs : List Value) (R : Type) (k : Nat) (K : St → List AV → Option R) (x : R), Facts T w I → Mem T U w I φ s.h → vs.length ≤ 1000000 → (∀ i, RelV T w I φ (s.t i) (if i < 1000000 then vs.getD i undef else γ (i - 1000000))) → F.run R k s K = some x →
    ∀ (Post : Value → World → Prop), (∀ s' res w' I' φ' rvs, K s' res = some x → Mem T U w' I' φ' s'.h → (∀ i, RelV T w' I' φ' (s'.t (i + 1000000)) (γ i)) → All2 (RelV T w' I' φ') res rvs → Ext U w I noφ w' I' noφ → Post (packV rvs) w') →
      Calls P g vs.toArray w fun e w' => ∃ v, e = .returned v ∧ Post v w'
theorem relA_all {w : World} {I : Nat → Prop} {φ : Nat → Option Value} : ∀ {l : List AV} {vs : List Value}, noTup l = true → All2 (RelV T w I φ) l vs → All2 (RelA T w I φ) l vs
  | [], _, _, h => by cases h; exact .nil
  | x :: l, _, hn, h => by
    cases h with
    | cons h1 h2 =>
      cases x <;> simp only [noTup] at hn <;> first | (cases hn; done) | exact .cons (relA_of_V h1 (fun _ e => by cases e)) (relA_all hn h2)
theorem exI_wp (hT : TOK P T) (hE : EOK P T) {c : Cx} (hF : EnvOK P T c.env F) (hI : ∀ id i g F, c.inl id i = some (g, F) → InlOK P T g F) {R : Type} {r : R} {ops : Array Oper} {k id : Nat} {K : St → Option R} {Q : Exit → Act → World → Prop} (hd : ∀ (i : Nat) (o : Oper) n, ops[i]? = some o → o.dst = some n → n < N) :
    ∀ (l : List Oper) (i : Nat) (s : St) (a : Act) (w : World) (I : Nat → Prop) (φ : Nat → Option Value), ops.toList.drop i = l → RelS T U N γ w I φ s a → exI T c k id ops.toList K i l s = some r →
      (∀ s' a' w' I' φ', K s' = some r → RelS T U N γ w' I' φ' s' a' → Ext U w I noφ w' I' noφ → Q .normal a' w') → wpOps P ops Q (List.range' i l.length) a w
  | [], i, s, a, w, I, φ, hl, hs, hr, hQ => hQ s a w I φ hr hs .refl
  | o :: l, i, s, a, w, I, φ, hl, hs, hr, hQ => by
    have hoi : ops[i]? = some o := by
      have := congrArg (fun l => l[0]?) hl
      rw [← Array.getElem?_toList]
      simpa using this
    have hl' : ops.toList.drop (i + 1) = l := by
      have := congrArg (List.drop 1) hl
      simpa [Nat.add_comm] using this
    rw [List.length_cons, List.range'_succ, wpOps_cons]
    simp only [exI] at hr
    have hnext : ∀ s1 a1 w1 I1 φ1, RelS T U N γ w1 I1 φ1 s1 a1 → Ext U w I noφ w1 I1 noφ → exI T c k id ops.toList K (i + 1) l s1 = some r → wpOps P ops Q (List.range' (i + 1) l.length) a1 w1 := fun s1 a1 w1 I1 φ1 h1 x1 hr1 =>
      exI_wp hT hE hF hI hd l (i + 1) s1 a1 w1 I1 φ1 hl' h1 hr1 (fun s' a' w' I' φ' hK hs' hx => hQ s' a' w' I' φ' hK hs' (x1.trans hx))
    have hgo : ∀ (hrg : (match c.inl id i with
      | some (g, F) => match o.op with
        | .call { callee := .value f, args := as, argTypes := _ } => match Go.Sx.ev s.t f with
          | .clo g' caps => bif Nat.beq g g' && Nat.ble (as.toList.length + caps.length) 1000000 then F.run R k (frameIn s (as.toList.map (Go.Sx.ev s.t) ++ caps)) fun s' res => bif noTup res then exI T c k id ops.toList K (i + 1) l (St.put (frameOut s') o.dst (packAV res)) else none else none
          | _ => none
        | _ => none
      | none => (aop T (2 * (2048 * (128 * id + i)) + 1) (c.md id i) (Go.Sx.ev (only (opTmps o) s.t)) o.op).run (fun st h r w => runStep c.env k (fun v h _ w => exI T c k id ops.toList K (i + 1) l (St.put ⟨s.t, h, s.w + w.length⟩ o.dst (plainV v))) st h r w) s.h [] []) = some r),
        o.wp P a w (wpOps P ops Q (List.range' (i + 1) l.length)) Q := by
      intro hrg
      split at hrg
      · rename_i g Fi hin
        split at hrg
        · rename_i f as ts hop
          split at hrg
          · rename_i g' caps hev
            cases hb : (Nat.beq g g' && Nat.ble (as.toList.length + caps.length) 1000000) <;> rw [hb] at hrg <;> simp only [cond_true, cond_false] at hrg
            · cases hrg
            simp only [Bool.and_eq_true] at hb
            obtain rfl := Nat.eq_of_beq_eq_true hb.1
            have hle := Nat.le_of_ble_eq_true hb.2
            obtain ⟨⟨fn, hfn, hname, hbody⟩, hcall⟩ := hI id i g Fi hin
            have hev0 : ∀ y, RelV T w I φ (Go.Sx.ev s.t y) (a.eval y) := fun y => by
              have := hs.ev (match y with | .tmp i => [i] | _ => []) y
              cases y with
              | tmp i => simpa [only, hasNat, Go.Sx.ev] using this
              | _ => exact this
            have hf := hev0 f
            rw [hev] at hf
            obtain ⟨cs, hfv, hcaps⟩ := hf
            have hcapsR : All2 (RelV T w I φ) caps cs.toList := hcaps.imp fun c v h => by
              cases c <;> simp only [RelP] at h
              exact .of_C h
            have hargs : All2 (RelV T w I φ) (as.toList.map (Go.Sx.ev s.t) ++ caps) (as.toList.map a.eval ++ cs.toList) := (all2_map _ _ _ fun y _ => hev0 y).append hcapsR
            have hrun : (execOp a.eval o).run P w = .ok (.enter g (as.toList.map a.eval ++ cs.toList).toArray) w := by
              have e1 : (as.toList.map a.eval ++ cs.toList).toArray = as.map a.eval ++ cs := by
                apply Array.ext'; simp
              rw [e1]
              simp [execOp, hop, resolve, hfv, Deferred.ofValue, invoke, callFunc, hfn, hname, hbody]
            unfold Oper.wp
            rw [hrun, Oper.upon_enter]
            have hlen : (as.toList.map a.eval ++ cs.toList).length ≤ 1000000 := by
              rw [List.length_append, List.length_map, ← hcaps.len]; exact hle
            refine (hcall U (tv γ a) w I φ (frameIn s (as.toList.map (Go.Sx.ev s.t) ++ caps)) _ R k _ r hs.fx hs.mem hlen (fun j => ?_) hrg (fun v w' => wpOps P ops Q (List.range' (i + 1) l.length) (a.put o.dst v) w') (fun s' res w' I' φ' rvs hK m hγ hres x => ?_)).mono fun e w1 ⟨v, he, hfin⟩ => ?_
            · simp only [frameIn]
              by_cases hj : j < 1000000
              · rw [if_pos hj, low_iff.2 hj]
                simp only [cond_true]
                by_cases hja : j < (as.toList.map (Go.Sx.ev s.t) ++ caps).length
                · obtain ⟨y, hy⟩ : ∃ y, (as.toList.map (Go.Sx.ev s.t) ++ caps)[j]? = some y := ⟨_, List.getElem?_eq_getElem hja⟩
                  obtain ⟨z, hz, hyz⟩ := hargs.get hy
                  rw [List.getD_eq_getElem?_getD, List.getD_eq_getElem?_getD, hy, hz]
                  exact hyz
                · rw [List.getD_eq_getElem?_getD, List.getElem?_eq_none (by omega)]
                  exact .of_C trivial
              · have : low j = false := by
                  cases hh : low j
                  · rfl
                  · exact absurd (low_iff.1 hh) hj
                rw [if_neg hj, this]
                exact hs.tm _
            · -- back in the caller's frame
              have hmid : RelS T U N γ w' I' φ' (frameOut s') a := ⟨fun j => hγ j, m, hs.sz, hs.df, hs.le, hs.fx.ext x⟩
              cases hnt : noTup res <;> rw [hnt] at hK <;> simp only [cond_true, cond_false] at hK
              · cases hK
              have hresA := relA_all hnt hres
              have hv : RelV T w' I' φ' (packAV res) (packV rvs) := by
                cases hres with
                | nil => exact ⟨_, rfl, .nil⟩
                | cons h1 h2 => cases h2 with
                  | nil => exact h1
                  | cons h2 h3 => exact ⟨_, rfl, hresA⟩
              have := hmid.put (wc := s'.w) .refl m (d := o.dst) (fun n hn => hd i o n hoi hn) hv
              exact hnext _ _ _ _ _ this x hK
            · subst he
              exact hfin
          · cases hrg
        · cases hrg
      · rw [op_run hF] at hrg
        obtain ⟨⟨v, h', r', w'⟩, hev, hrg⟩ := Option.bind_eq_some_iff.1 hrg
        exact opEv_wp hT hE hF.ok hs hev (fun v w' I' φ' m x hv => hnext _ _ _ _ _ (hs.put x m (fun n hn => hd i o n hoi hn) (plain_rel hv)) x.no hrg)
    have hpass : exI T c k id ops.toList K (i + 1) l (s.put o.dst .skip) = some r → wpOps P ops Q (List.range' (i + 1) l.length) (a.put o.dst undef) w := fun hrp =>
      hnext _ _ _ _ _ (hs.put (wc := s.w) .refl hs.mem (d := o.dst) (fun n hn => hd i o n hoi hn) (av := .skip) (v := undef) (.of_C rfl)) .refl (by
        have : St.put ⟨s.t, s.h, s.w⟩ o.dst .skip = s.put o.dst .skip := rfl
        rw [this]; exact hrp)
    unfold wpOp
    rw [hoi]
    simp only
    split at hr
    · rename_i hg
      rw [if_pos (by simp [Region.wanted, hg])]
      exact .inl (hgo hr)
    · rename_i j b hg
      split at hr
      · rename_i q hq
        obtain ⟨d, hdj, hdv⟩ := Option.map_eq_some_iff.1 hq
        have hdj' : (ops[j]?).bind (·.dst) = some d := by rw [← Array.getElem?_toList]; exact hdj
        have hval : a.tmps.getD d undef = .bool q := by
          have := plain_rel (hs.tm d)
          have hdlt : d < 1000000 := by
            obtain ⟨o', ho', hod⟩ := Option.bind_eq_some_iff.1 hdj'
            exact Nat.lt_of_lt_of_le (hd j o' d ho' hod) hs.le
          rw [tv_low hdlt, hdv] at this
          exact relV_bool this
        have hy : yielded ops a.tmps j = some q := by
          unfold yielded
          rw [hdj']
          simp only [Option.bind_some]
          rw [Array.getD_eq_getD_getElem?] at hval
          cases ht : a.tmps[d]? with
          | none => rw [ht] at hval; simp [undef] at hval
          | some v => rw [ht] at hval; simp at hval; subst hval; rfl
        by_cases hqb : q = b
        · subst hqb
          rw [if_pos (by simp [Region.wanted, hg, hy])]
          refine .inl (hgo ?_)
          cases q <;> exact hr
        · rw [if_neg (by simp [Region.wanted, hg, hy, hqb])]
          refine hpass ?_
          cases q <;> cases b <;> first | exact absurd rfl hqb | exact hr
      · rename_i hsk
        obtain ⟨d, hdj, hdv⟩ := Option.map_eq_some_iff.1 hsk
        have hdj' : (ops[j]?).bind (·.dst) = some d := by rw [← Array.getElem?_toList]; exact hdj
        have hval : a.tmps.getD d undef = undef := by
          have := plain_rel (hs.tm d)
          have hdlt : d < 1000000 := by
            obtain ⟨o', ho', hod⟩ := Option.bind_eq_some_iff.1 hdj'
            exact Nat.lt_of_lt_of_le (hd j o' d ho' hod) hs.le
          rw [tv_low hdlt, hdv] at this
          exact this
        have hy : yielded ops a.tmps j = none := by
          unfold yielded
          rw [hdj']
          simp only [Option.bind_some]
          rw [Array.getD_eq_getD_getElem?] at hval
          cases ht : a.tmps[d]? with
          | none => rfl
          | some v => rw [ht] at hval; simp at hval; subst hval; rfl
        rw [if_neg (by simp [Region.wanted, hg, hy])]
        exact hpass hr
      · cases hr
theorem exec_sound (hT : TOK P T) (hE : EOK P T) (hmx : P.follows .mixedOrders = true) {c : Cx} (hF : EnvOK P T c.env F) (hI : ∀ id i g F, c.inl id i = some (g, F) → InlOK P T g F) (hit0 : c.it = itr) : ∀ (code : Code) (R : Type) (k : Nat) (s : St) (K : Nat → Out → St → Option R) (r : R) (a : Act) (w : World) (I : Nat → Prop) (φ : Nat → Option Value) (Q : Exit → Act → World → Prop),
    (∀ d ∈ dstsC code, d < N) → RelS T U N γ w I φ s a → exec T c code R k s K = some r →
    (∀ k' o s' a' w' I' φ', K k' o s' = some r → RelS T U N γ w' I' φ' s' a' → Ext U w I noφ w' I' noφ → TrW (dstsC code) s s' → Q (outE o) a' w') → code.wp P Q a w
  | .skip, R, k, s, K, r, a, w, I, φ, Q, hd, hs, hr, hQ => by
    simp only [exec] at hr
    exact wp_skip (hQ k .nrm s a w I φ hr hs .refl (.refl _ _))
  | .region id ⟨ops⟩ draw, R, k, s, K, r, a, w, I, φ, Q, hd, hs, hr, hQ => by
    simp only [exec] at hr
    cases hh : c.hasI (c.base + id) <;> rw [hh] at hr <;> simp only [cond_true, cond_false] at hr
    case true =>
      cases draw with
      | true => cases hr
      | false =>
        simp only [cond_false] at hr
        have := exI_wp (P := P) (ops := ⟨ops⟩) (U := U) (N := N) (γ := γ) (Q := Q) hT hE hF hI (fun i o n ho hn => hd n (by
          simp only [dstsC]
          exact mem_dstsR (by rw [← Array.getElem?_toList] at ho; exact ho) hn)) ops 0 (erase s) a w I φ rfl hs.erase hr (fun s' a' w' I' φ' hK hs' x => hQ k .nrm _ a' w' I' φ' hK ⟨hs'.tm, hs'.mem, hs'.sz, hs'.df, hs'.le, hs'.fx⟩ x (.of_lt (Nat.lt_succ_self _)))
        refine wp_region ?_
        have e1 : List.range' 0 ops.length = List.range (⟨ops⟩ : Array Oper).size := by rw [List.range_eq_range']; rfl
        rw [e1] at this
        exact this
    obtain ⟨s', tr', hK, hp⟩ := exOps_plain hF k (c.base + id) ops _ ops 0 (erase s) [] (fun _ => false) rfl (fun j u b hj => by
      have : plainV (s.t j) = .tb u b := hj
      exact absurd this (plain_ne _ u b)) hr
    rw [List.append_nil] at hK
    rw [show erase (erase s) = erase s by simp only [erase, plain_plain]] at hp
    have hcond : (!draw || apartOK ops tr'.reverse) = true ∧ K k .nrm s' = some r := by
      cases hb : (!draw || apartOK ops tr'.reverse) <;> rw [hb] at hK <;> simp only [cond_true, cond_false] at hK
      · cases hK
      · exact ⟨rfl, hK⟩
    have hap : draw = true → apartOK ops tr' = true := by
      intro hdr
      have h1 := hcond.1
      rw [hdr] at h1
      simp only [Bool.not_true, Bool.false_or] at h1
      unfold apartOK at h1 ⊢
      simp only [Bool.and_eq_true] at h1 ⊢
      refine ⟨h1.1, List.all_eq_true.2 fun x hx => List.all_eq_true.2 fun y hy => ?_⟩
      exact List.all_eq_true.1 (List.all_eq_true.1 h1.2 x (by simpa using hx)) y (by simpa using hy)
    have hr1 : List.range' 0 ops.length = List.range (⟨ops⟩ : Array Oper).size := by rw [List.range_eq_range']; rfl
    rw [hr1] at hp
    refine region_wp (P := P) (ops := ⟨ops⟩) (s := erase s) (send := erase s') hT hE hF.ok hmx (fun i o n ho hn => hd n (by
      simp only [dstsC]
      exact mem_dstsR (by rw [← Array.getElem?_toList] at ho; exact ho) hn)) hs.erase hp hap (fun a' w' I' φ' hs' x => ?_)
    refine hQ k .nrm s' a' w' I' φ' hcond.2 ⟨fun i => ?_, hs'.mem, hs'.sz, hs'.df, hs'.le, hs'.fx⟩ x.no ?_
    · have h1 : RelV T w' I' φ' (plainV (s'.t i)) (tv γ a' i) := hs'.tm i
      cases hv : s'.t i <;> rw [hv] at h1 <;> exact h1
    · have := prun_tr hp
      refine ⟨this.1, fun hw => ?_⟩
      obtain ⟨h1, h2⟩ := this.2 hw
      refine ⟨h1, fun i hi => ?_⟩
      have := h2 i (by simpa [dstsC] using hi)
      simpa [erase, plain_plain] using this
  | .seq x y, R, k, s, K, r, a, w, I, φ, Q, hd, hs, hr, hQ => by
    simp only [exec] at hr
    have hdx : ∀ d ∈ dstsC x, d < N := fun d h => hd d (by simp [dstsC, h])
    have hdy : ∀ d ∈ dstsC y, d < N := fun d h => hd d (by simp [dstsC, h])
    have mx : ∀ i, i ∈ dstsC x → i ∈ dstsC (.seq x y) := fun i h => by simp [dstsC, h]
    have my : ∀ i, i ∈ dstsC y → i ∈ dstsC (.seq x y) := fun i h => by simp [dstsC, h]
    split at hr
    · refine wp_seq (exec_sound hT hE hmx hF hI hit0 x R k s _ r a w I φ _ hdx hs hr (fun k' o s' a' w' I' φ' hK hs' hx ht => ?_))
      cases o with
      | nrm =>
        exact exec_sound hT hE hmx hF hI hit0 y R k' s' K r a' w' I' φ' Q hdy hs' hK (fun k2 o2 s2 a2 w2 I2 φ2 hK2 hs2 hx2 ht2 => hQ k2 o2 s2 a2 w2 I2 φ2 hK2 hs2 (hx.trans hx2) (ht.trans ht2 mx my))
      | exit id => exact hQ k' (.exit id) s' a' w' I' φ' hK hs' hx (ht.mono mx)
      | ret => exact hQ k' .ret s' a' w' I' φ' hK hs' hx (ht.mono mx)
    · rename_i J _
      obtain ⟨ds, hds, hr⟩ := Option.bind_eq_some_iff.1 hr
      refine wp_seq (exec_sound hT hE hmx hF hI hit0 x (List D) k s _ ds a w I φ _ hdx hs hds (fun k' o s' a' w' I' φ' hK hs' hx ht => ?_))
      cases o with
      | nrm =>
        obtain ⟨I3, φ2, hs2, xc⟩ := cut_sound hs' hK
        have hs3 : RelS T U N γ w' I3 φ2 { unpack J ds with w := s.w + 1 } a' := ⟨hs2.tm, hs2.mem, hs2.sz, hs2.df, hs2.le, hs2.fx⟩
        exact exec_sound hT hE hmx hF hI hit0 y R k _ K r a' w' I3 φ2 Q hdy hs3 hr (fun k2 o2 s2 a2 w2 I2 φ2 hK2 hs2 hx2 ht2 => hQ k2 o2 s2 a2 w2 I2 φ2 hK2 hs2 ((hx.trans xc).trans hx2) (.of_lt (Nat.lt_of_lt_of_le (Nat.lt_succ_self _) ht2.1)))
      | exit id => cases hK
      | ret => cases hK
    · rename_i l _
      cases hfl : flatL (l.map (·.2)) <;> rw [hfl] at hr <;> simp only [cond_true, cond_false] at hr
      · cases hr
      obtain ⟨ds, hds, hr⟩ := Option.bind_eq_some_iff.1 hr
      refine wp_seq (exec_sound hT hE hmx hF hI hit0 x (List D) k s _ ds a w I φ _ hdx hs hds (fun k' o s' a' w' I' φ' hK hs' hx ht => ?_))
      cases o with
      | nrm =>
        simp only at hK
        cases hw : Nat.beq s'.w s.w <;> rw [hw] at hK <;> simp only [cond_true, cond_false] at hK
        · cases hK
        have hw := Nat.eq_of_beq_eq_true hw
        split at hK
        · rename_i a1 d1 h1
          obtain rfl := Option.some.inj hK
          obtain ⟨hh, ht2⟩ := ht.2 hw
          have hall : All2 (RelV T w' I' φ') (l.map fun p => plainV (s'.t p.1)) (l.map fun p => tv γ a' p.1) := all2_map _ _ _ fun p _ => plain_rel (hs'.tm p.1)
          obtain ⟨_, _, g3⟩ := pkL_A (A := a1) h1 hall
          obtain ⟨e1, _⟩ := g3 (.refl _) [] []
          simp only [List.nil_append, List.append_nil, List.length_nil] at e1
          have e1 := flat_relV (φ' := φ') _ _ _ _ hfl e1
          have hs3 : RelS T U N γ w' I' φ' ⟨fun i => bif hasNat (dstsC x) i then slotOf l (unL (l.map (·.2)) d1 0).1 i else s.t i, s.h, s.w⟩ a' := by
            refine ⟨fun i => ?_, by rw [← hh]; exact hs'.mem, hs'.sz, hs'.df, hs'.le, hs'.fx⟩
            cases hb : hasNat (dstsC x) i
            · simp only [hb, cond_false]
              have h2 := ht2 i (fun hi => by rw [hasNat_iff.2 hi] at hb; cases hb)
              have h3 := plain_rel (hs'.tm i)
              rw [h2] at h3
              cases hv : s.t i <;> rw [hv] at h3 <;> exact h3
            · simp only [hb, cond_true]
              exact slotOf_rel (R := RelV T w' I' φ') (fun _ => .of_C trivial) (val := fun i => tv γ a' i) e1 rfl i
          refine exec_sound hT hE hmx hF hI hit0 y R k _ K r a' w' I' φ' Q hdy hs3 hr (fun k2 o2 s2 a2 w2 I2 φ2 hK2 hs2 hx2 ht3 => hQ k2 o2 s2 a2 w2 I2 φ2 hK2 hs2 (hx.trans hx2) ⟨ht3.1, fun hw2 => ?_⟩)
          obtain ⟨b1, b2⟩ := ht3.2 hw2
          refine ⟨b1, fun i hi => ?_⟩
          have hix : i ∉ dstsC x := fun h => hi (mx i h)
          have hiy : i ∉ dstsC y := fun h => hi (my i h)
          rw [b2 i hiy]
          have hb : hasNat (dstsC x) i = false := by
            cases hb : hasNat (dstsC x) i
            · rfl
            · exact absurd (hasNat_iff.1 hb) hix
          simp only [hb, cond_false]
        · cases hK
      | exit id => cases hK
      | ret => cases hK
  | .cond x y z, R, k, s, K, r, a, w, I, φ, Q, hd, hs, hr, hQ => by
    simp only [exec] at hr
    split at hr
    · rename_i p hp
      have hv : RelV T w I φ (ev s.t x) (a.eval x) := by
        have := hs.ev (match x with | .tmp i => [i] | _ => []) x
        cases x with
        | tmp i => simpa [only, hasNat, ev] using this
        | _ => exact this
      rw [hp] at hv
      have hv := relV_bool hv
      cases p
      · refine wp_cond_false hv (exec_sound hT hE hmx hF hI hit0 z R k s K r a w I φ Q (fun d h => hd d (by simp [dstsC, h])) hs hr (fun k2 o2 s2 a2 w2 I2 φ2 hK2 hs2 hx2 ht2 => hQ k2 o2 s2 a2 w2 I2 φ2 hK2 hs2 hx2 (ht2.mono fun i h => by simp [dstsC, h])))
      · refine wp_cond_true hv (exec_sound hT hE hmx hF hI hit0 y R k s K r a w I φ Q (fun d h => hd d (by simp [dstsC, h])) hs hr (fun k2 o2 s2 a2 w2 I2 φ2 hK2 hs2 hx2 ht2 => hQ k2 o2 s2 a2 w2 I2 φ2 hK2 hs2 hx2 (ht2.mono fun i h => by simp [dstsC, h])))
    · cases hr
  | .block id x, R, k, s, K, r, a, w, I, φ, Q, hd, hs, hr, hQ => by
    simp only [exec] at hr
    refine wp_block (exec_sound hT hE hmx hF hI hit0 x R k s _ r a w I φ _ (fun d h => hd d (by simpa [dstsC] using h)) hs hr (fun k' o s' a' w' I' φ' hK hs' hx ht => ?_))
    have ht' : TrW (dstsC (.block id x)) s s' := by simpa [dstsC] using ht
    cases o with
    | nrm => exact hQ k' .nrm s' a' w' I' φ' hK hs' hx ht'
    | exit j =>
      simp only [outE, Exit.inBlock]
      simp only at hK
      cases hb : Nat.beq j id <;> rw [hb] at hK <;> simp only [cond_true, cond_false] at hK
      · rw [if_neg (fun e => by subst e; simp at hb)]
        exact hQ k' (.exit j) s' a' w' I' φ' hK hs' hx ht'
      · rw [if_pos (Nat.eq_of_beq_eq_true hb)]
        exact hQ k' .nrm s' a' w' I' φ' hK hs' hx ht'
    | ret => exact hQ k' .ret s' a' w' I' φ' hK hs' hx ht'
  | .loop x, R, k, s, K, r, a, w, I, φ, Q, hd, hs, hr, hQ => by
    simp only [exec] at hr
    split at hr
    · cases hr
    rename_i J hJ
    split at hr
    · cases hr
    rename_i ds0 hp0
    obtain ⟨I0, φ0, hs0, xc0⟩ := cut_sound hs hp0
    rw [hit0] at hr
    refine wp_loop_fuel (n := k) (fun n a' w' => ∃ ds I' φ', RelS T U N γ w' I' φ' { unpack J ds with w := s.w + 1 } a' ∧ Ext U w I noφ w' I' noφ ∧ iter (fun k rec ds => exec T c x R k { unpack J ds with w := s.w + 1 } fun k o s => match o with
        | .nrm => match pack T J s with
          | some ds => rec ds
          | none => none
        | o => K k o s) n ds = some r) ?_ ⟨ds0, I0, φ0, ⟨hs0.tm, hs0.mem, hs0.sz, hs0.df, hs0.le, hs0.fx⟩, xc0, hr⟩
    rintro n a' w' ⟨ds, I', φ', hs', hx', hit⟩
    cases n with
    | zero => simp [iter] at hit
    | succ m =>
      refine ⟨m, rfl, ?_⟩
      simp only [iter] at hit
      refine exec_sound hT hE hmx hF hI hit0 x R m _ _ r a' w' I' φ' _ (fun d h => hd d (by simpa [dstsC] using h)) hs' hit (fun k2 o2 s2 a2 w2 I2 φ2 hK2 hs2 hx2 ht2 => ?_)
      have hlt : TrW (dstsC (.loop x)) s s2 := .of_lt (Nat.lt_of_lt_of_le (Nat.lt_succ_self _) ht2.1)
      cases o2 with
      | nrm =>
        simp only at hK2
        split at hK2
        · rename_i ds2 hp2
          obtain ⟨I4, φ3, hs3, xc3⟩ := cut_sound hs2 hp2
          exact ⟨ds2, I4, φ3, ⟨hs3.tm, hs3.mem, hs3.sz, hs3.df, hs3.le, hs3.fx⟩, (hx'.trans hx2).trans xc3, hK2⟩
        · cases hK2
      | exit id => exact hQ k2 (.exit id) s2 a2 w2 I2 φ2 hK2 hs2 (hx'.trans hx2) hlt
      | ret => exact hQ k2 .ret s2 a2 w2 I2 φ2 hK2 hs2 (hx'.trans hx2) hlt
  | .exit id, R, k, s, K, r, a, w, I, φ, Q, hd, hs, hr, hQ => by
    simp only [exec] at hr
    exact wp_exit (hQ k (.exit id) s a w I φ hr hs .refl (.refl _ _))
  | .ret, R, k, s, K, r, a, w, I, φ, Q, hd, hs, hr, hQ => by
    simp only [exec] at hr
    exact wp_ret (hQ k .ret s a w I φ hr hs .refl (.refl _ _))
  | .rangeFunc _ _ _ _, R, k, s, K, r, a, w, I, φ, Q, hd, hs, hr, hQ => by simp [exec] at hr
  | .scope _, R, k, s, K, r, a, w, I, φ, Q, hd, hs, hr, hQ => by simp [exec] at hr
  | .label _, R, k, s, K, r, a, w, I, φ, Q, hd, hs, hr, hQ => by simp [exec] at hr
  | .goto _, R, k, s, K, r, a, w, I, φ, Q, hd, hs, hr, hQ => by simp [exec] at hr
  | .refuse _, R, k, s, K, r, a, w, I, φ, Q, hd, hs, hr, hQ => by simp [exec] at hr
end
end Go.Sx
