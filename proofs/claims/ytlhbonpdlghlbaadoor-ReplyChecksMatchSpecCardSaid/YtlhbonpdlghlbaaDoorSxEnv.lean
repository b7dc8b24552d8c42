/- What a function calls: a list of contracts. -/
import Derived.Test.YtlhbonpdlghlbaaDoorSxFun
set_option linter.unusedVariables false
set_option linter.unusedSimpArgs false
namespace Go.Sx
open Go.RowKit
mutual
theorem pkA_sound : ∀ (s : RSh) (v : AV) (ds : List D), pkA s v = some ds → ∀ pre post, unR s (pre ++ ds ++ post) pre.length = (v, pre.length + ds.length)
  | s, v, ds, h, pre, post => by
    unfold pkA at h
    split at h
    · rename_i k k' n
      by_cases hk : k = k'
      · subst hk
        simp only [decide_true, cond_true] at h
        obtain rfl := Option.some.inj h
        simp only [unR, List.append_assoc, List.singleton_append, gt_at]
        rfl
      · simp [hk] at h
    · obtain rfl := Option.some.inj h
      simp only [unR, List.append_assoc, List.singleton_append, gt_at]
      rfl
    · obtain rfl := Option.some.inj h
      simp only [unR, List.append_assoc, List.singleton_append, gt_at]
      rfl
    · rename_i e e' l
      cases hb : Nat.beq e e' <;> rw [hb] at h
      · cases h
      · have hee := Nat.eq_of_beq_eq_true hb
        subst hee
        obtain rfl := Option.some.inj h
        simp only [unR, List.append_assoc, List.singleton_append, gt_at]
        rfl
    · have := pkAL_sound _ _ ds h pre post
      simp only [unR, this]
    · cases h
theorem pkAL_sound : ∀ (s : List RSh) (v : List AV) (ds : List D), pkAL s v = some ds → ∀ pre post, unRL s (pre ++ ds ++ post) pre.length = (v, pre.length + ds.length)
  | [], [], ds, h, pre, post => by
    simp only [pkAL] at h
    obtain rfl := Option.some.inj h
    rfl
  | s :: ss, v :: vs, ds, h, pre, post => by
    simp only [pkAL] at h
    split at h
    · rename_i a ha
      split at h
      · rename_i l hl
        obtain rfl := Option.some.inj h
        have h1 := pkA_sound s v a ha pre (l ++ post)
        have h2 := pkAL_sound ss vs l hl (pre ++ a) post
        rw [← back_at] at h1
        rw [← back_at', List.length_append] at h2
        simp only [unRL, h1, h2, List.length_append, Nat.add_assoc]
      · cases h
    · cases h
  | [], _ :: _, _, h, _, _ => by simp [pkAL] at h
  | _ :: _, [], _, h, _, _ => by simp [pkAL] at h
end
theorem pkAL_eq {s : List RSh} {v : List AV} {ds : List D} (h : pkAL s v = some ds) : (unRL s ds 0).1 = v := by
  have := pkAL_sound s v ds h [] []
  simp only [List.nil_append, List.append_nil, List.length_nil] at this
  rw [this]
section
variable {P : Program} {T : Nat → TyI}
/-- The contract of a function that is told by its form over data. -/
def FunOK (P : Program) (T : Nat → TyI) (g : Nat) (c : Callee) : Prop := ∀ k ds r, c.f k ds = some r → CallOK P T g (unRL c.sig ds 0).1 (unRL c.rs r 0).1
def envF (L : List (Nat × Callee)) (g k : Nat) (args : List AV) : Option (List AV) :=
  (lkup L g).bind fun c => (pkAL c.sig args).bind fun ds => (c.f k ds).map fun rs => (unRL c.rs rs 0).1
theorem envL_ok {L : List (Nat × Callee)} (h : ∀ g c, lkup L g = some c → FunOK P T g c) : EnvOK P T (envL L) (envF L) := by
  refine ⟨fun g k args R K => ?_, fun g k args res hr => ?_⟩
  · unfold envL envF
    cases lkup L g with
    | none => rfl
    | some c =>
      cases hp : pkAL c.sig args with
      | none => simp [hp]
      | some ds =>
        simp only [hp, Option.bind_some]
        cases c.f k ds <;> rfl
  · unfold envF at hr
    cases hg : lkup L g with
    | none => simp [hg] at hr
    | some c =>
      rw [hg, Option.bind_some] at hr
      cases hp : pkAL c.sig args with
      | none => simp [hp] at hr
      | some ds =>
        rw [hp, Option.bind_some] at hr
        cases hf : c.f k ds with
        | none => simp [hf] at hr
        | some rs =>
          rw [hf] at hr
          obtain rfl := Option.some.inj hr
          have := h g c hg k ds rs hf
          rwa [pkAL_eq hp] at this
theorem lkup_nil {α : Type _} {Q : Nat → α → Prop} : ∀ g c, lkup ([] : List (Nat × α)) g = some c → Q g c := fun _ _ h => by cases h
theorem lkup_cons {α : Type _} {Q : Nat → α → Prop} {n : Nat} {a : α} {l : List (Nat × α)} (h : Q n a) (t : ∀ g c, lkup l g = some c → Q g c) : ∀ g c, lkup ((n, a) :: l) g = some c → Q g c := fun g c hg => by
  unfold lkup at hg
  cases hb : Nat.beq n g <;> simp only [hb, cond_true, cond_false] at hg
  · exact t g c hg
  · have := Nat.eq_of_beq_eq_true hb
    subst this
    obtain rfl := Option.some.inj hg
    exact h
theorem unRL_len (ds : List D) : ∀ (ss : List RSh) (n : Nat), (unRL ss ds n).1.length = ss.length
  | [], _ => rfl
  | s :: ss, n => by simp [unRL, unRL_len ds ss]
theorem okN_of {l : List Nat} {n m : Nat} (h : (l.all (fun d => Nat.blt d n) && (Nat.ble n 1000000 && Nat.ble m 1000000)) = true) : (∀ d ∈ l, d < n) ∧ n ≤ 1000000 ∧ m ≤ 1000000 := by
  simp only [Bool.and_eq_true] at h
  exact ⟨fun d hm => Nat.le_of_ble_eq_true (List.all_eq_true.1 h.1 d hm), Nat.le_of_ble_eq_true h.2.1, Nat.le_of_ble_eq_true h.2.2⟩
/-- A function of the program, by its form over data. -/
theorem fun_ok (hT : TOK P T) (hE : EOK P T) (hmx : P.follows .mixedOrders = true) {loops : Nat → Option Cut} {joins : Nat → Option Join} {md : Nat → Nat → Nat} {L : List (Nat × Callee)} (hL : ∀ g c, lkup L g = some c → FunOK P T g c) {g : Nat} {fn : Func} {code : Code} {c : Callee} {res : List RV}
    (hfn : P.funcs[g]? = some fn) (hb : fn.body = some code) (hres : fn.results = (res.map RV.rv).toArray) (hname : fn.name ≠ "runtime.NumGoroutine") (hd : ((dstsC code).all (fun d => Nat.blt d fn.ntmps) && (Nat.ble fn.ntmps 1000000 && Nat.ble c.sig.length 1000000)) = true)
    (hr : ∀ k ds, callF T ⟨loops, joins, md, envL L, itr, fun _ _ => none, fun _ => false, 0⟩ c.rs res code k (unRL c.sig ds 0).1 = c.f k ds) : FunOK P T g c := fun k ds r h =>
  callF_sound hT hE hmx (envL_ok hL) (fun _ _ _ _ h => by cases h) rfl hfn hb hres hname (okN_of hd).1 (okN_of hd).2.1 (by rw [unRL_len]; exact (okN_of hd).2.2) ((hr k ds).trans h)
end

section
variable {P : Program} {T : Nat → TyI}
/-- A function that calls itself: each call in it takes a smaller number. -/
theorem fun_ok_rec (hT : TOK P T) (hE : EOK P T) (hmx : P.follows .mixedOrders = true) {loops : Nat → Option Cut} {joins : Nat → Option Join} {md : Nat → Nat → Nat} {L : List (Nat × Callee)} (hL : ∀ g c, lkup L g = some c → FunOK P T g c) {g : Nat} {fn : Func} {code : Code} {c : Callee} {res : List RV}
    (hfn : P.funcs[g]? = some fn) (hb : fn.body = some code) (hres : fn.results = (res.map RV.rv).toArray) (hname : fn.name ≠ "runtime.NumGoroutine") (hd : ((dstsC code).all (fun d => Nat.blt d fn.ntmps) && (Nat.ble fn.ntmps 1000000 && Nat.ble c.sig.length 1000000)) = true)
    (h0 : ∀ ds, c.f 0 ds = none) (hr : ∀ k ds, callF T ⟨loops, joins, md, envL ((g, ⟨c.sig, c.rs, fun _ => c.f k⟩) :: L), itr, fun _ _ => none, fun _ => false, 0⟩ c.rs res code k (unRL c.sig ds 0).1 = c.f (k + 1) ds) : FunOK P T g c := by
  intro k
  induction k with
  | zero => intro ds r h; rw [h0] at h; cases h
  | succ k ih =>
    intro ds r h
    exact callF_sound hT hE hmx (envL_ok (lkup_cons (Q := fun g c => FunOK P T g c) (n := g) (a := ⟨c.sig, c.rs, fun _ => c.f k⟩) (fun _ ds r h => ih ds r h) hL)) (fun _ _ _ _ h => by cases h) rfl hfn hb hres hname (okN_of hd).1 (okN_of hd).2.1 (by rw [unRL_len]; exact (okN_of hd).2.2) ((hr k ds).trans h)
end
/-! ### The table of types, checked -/
def zC (v : Value) (c : CT) : Bool :=
  match v, c with
  | .int k n, .int k' => decide (k = k') && decide (n = 0)
  | .bool b, .bool => !b
  | .string s, .str => decide (s.data.toList = [])
  | .slice none 0 0, .sl _ => true
  | .pointer none, .ptr => true
  | .nilFunc, .fn => true
  | .map none, .map _ _ => true
  | _, _ => false
def zL : List Value → List CT → Bool
  | [], [] => true
  | v :: vs, c :: cs => zC v c && zL vs cs
  | _, _ => false
theorem zC_sound {v : Value} {c : CT} (h : zC v c = true) : v = zeroVal c := by
  unfold zC at h
  split at h <;> simp only [Bool.and_eq_true, decide_eq_true_eq, Bool.not_eq_true', Bool.false_eq_true] at h
  case h_1 => obtain ⟨rfl, rfl⟩ := h; rfl
  case h_2 => subst h; rfl
  case h_3 =>
    rename_i s
    obtain ⟨⟨l⟩⟩ := s
    simp only at h
    subst h
    rfl
  all_goals rfl
theorem zL_sound : ∀ {vs : List Value} {cs : List CT}, zL vs cs = true → vs = cs.map zeroVal
  | [], [], _ => rfl
  | v :: vs, c :: cs, h => by
    simp only [zL, Bool.and_eq_true] at h
    rw [List.map_cons, ← zC_sound h.1, ← zL_sound h.2]
  | [], _ :: _, h => by simp [zL] at h
  | _ :: _, [], h => by simp [zL] at h
def zOK (z : Option Value) (i : TyI) : Bool :=
  match z with
  | some (.agg ⟨vs⟩) => i.agg && zL vs i.cells
  | some v => !i.agg && zC v (i.cells.getD 0 .other)
  | none => false
theorem zOK_sound {z : Option Value} {i : TyI} (h : zOK z i = true) : z = some (if i.agg then .agg (i.cells.map zeroVal).toArray else zeroVal (i.cells.getD 0 .other)) := by
  unfold zOK at h
  split at h
  · simp only [Bool.and_eq_true] at h
    rw [h.1, if_pos rfl, zL_sound h.2]
  · simp only [Bool.and_eq_true, Bool.not_eq_true'] at h
    rw [h.1, if_neg (by simp), zC_sound h.2]
  · cases h
def fldOK (T : Nat → TyI) (t : Nat) (p : Nat × Nat) : Bool :=
  Nat.blt 0 (T p.2).cells.length && decide ((T p.2).cells = ((T t).cells.drop p.1).take (T p.2).cells.length) && Nat.ble (p.1 + (T p.2).cells.length) (T t).cells.length
def tyChk (P : Program) (T : Nat → TyI) (t : Nat) : Bool :=
  match P.info? t, P.underlying t with
  | some i, some d => Nat.beq i.size (T t).cells.length && Nat.beq i.bytes (T t).bytes && descOK d (T t) && zOK i.zero (T t) && (T t).fields.all (fldOK T t)
  | _, _ => false
theorem tyChk_sound {P : Program} {T : Nat → TyI} {t : Nat} (h : tyChk P T t = true) : TyOK P T t := by
  unfold tyChk at h
  split at h
  · rename_i i d hi hd
    simp only [Bool.and_eq_true] at h
    obtain ⟨⟨⟨⟨h1, h2⟩, h3⟩, h4⟩, h5⟩ := h
    refine ⟨⟨i, d, hi, hd, Nat.eq_of_beq_eq_true h1, Nat.eq_of_beq_eq_true h2, h3, zOK_sound h4⟩, fun f off ft hf => ?_⟩
    have := List.all_eq_true.1 h5 (off, ft) (List.mem_of_getElem? hf)
    simp only [fldOK, Bool.and_eq_true] at this
    obtain ⟨⟨g1, g2⟩, g3⟩ := this
    refine ⟨fun e => ?_, of_decide_eq_true g2, Nat.le_of_ble_eq_true g3⟩
    rw [e] at g1
    cases g1
  · cases h
theorem tyTab_mem : ∀ {L : List (Nat × TyI)} {t : Nat}, (tyTab L t).cells ≠ [] → t ∈ L.map (·.1)
  | [], t, h => absurd rfl h
  | p :: L, t, h => by
    unfold tyTab at h
    cases hb : Nat.beq p.1 t <;> rw [hb] at h
    · exact List.mem_cons_of_mem _ (tyTab_mem h)
    · have := Nat.eq_of_beq_eq_true hb
      subst this
      exact List.mem_cons_self
theorem tok_of {P : Program} {L : List (Nat × TyI)} (h : (L.map (·.1)).all (fun t => (tyTab L t).cells.isEmpty || tyChk P (tyTab L) t) = true) : TOK P (tyTab L) := fun t ht => by
  have := List.all_eq_true.1 h t (tyTab_mem ht)
  rcases Bool.or_eq_true _ _ ▸ this with h1 | h1
  · exact absurd (List.isEmpty_iff.1 h1) ht
  · exact tyChk_sound h1
def eqTys (L : List (Nat × TyI)) : List Nat := (L.filter fun p => p.2.eq).map (·.1)
theorem tyTab_eq : ∀ {L : List (Nat × TyI)} {t : Nat}, (tyTab L t).eq = true → t ∈ eqTys L
  | [], t, h => by cases h
  | p :: L, t, h => by
    unfold tyTab at h
    unfold eqTys
    cases hb : Nat.beq p.1 t <;> rw [hb] at h
    · have := tyTab_eq (L := L) h
      unfold eqTys at this
      rw [List.filter_cons]
      split
      · exact List.mem_cons_of_mem _ this
      · exact this
    · have := Nat.eq_of_beq_eq_true hb
      subst this
      have h : p.2.eq = true := h
      rw [List.filter_cons, if_pos h]
      exact List.mem_cons_self
theorem eok_of {P : Program} {L : List (Nat × TyI)} (h : ∀ t ∈ eqTys L, EqOK P (tyTab L) t) : EOK P (tyTab L) := fun t ht => h t (tyTab_eq ht)
def eqFld (T : Nat → TyI) (t n : Nat) (f : Field) : Bool := Nat.beq f.offset n && !(f.name == "_") && !(T f.type).agg && decide ((T f.type).cells = [(T t).cells.getD n .other])
def eqChk (P : Program) (T : Nat → TyI) (t : Nat) : Bool :=
  match P.underlying t with
  | some (.struct ⟨fs⟩) => Nat.beq fs.length (T t).cells.length && (List.range fs.length).all fun n => match fs[n]? with
    | some f => eqFld T t n f
    | none => true
  | _ => false
theorem eqOK_of {P : Program} {T : Nat → TyI} {t : Nat} (hs : P.stoodInHeld t = false) (hg : P.eqGuardType P.depth t = false) (h : eqChk P T t = true) : EqOK P T t := by
  refine ⟨hs, hg, ?_⟩
  unfold eqChk at h
  split at h
  · rename_i fs hu
    simp only [Bool.and_eq_true] at h
    refine ⟨_, hu, Nat.eq_of_beq_eq_true h.1, fun n f hf => ?_⟩
    have hf' : fs[n]? = some f := by simpa using hf
    have hn : n < fs.length := by
      rcases Nat.lt_or_ge n fs.length with h | h
      · exact h
      · rw [List.getElem?_eq_none h] at hf'; cases hf'
    have := List.all_eq_true.1 h.2 n (List.mem_range.2 hn)
    rw [hf'] at this
    simp only [eqFld, Bool.and_eq_true, Bool.not_eq_true'] at this
    exact ⟨Nat.eq_of_beq_eq_true this.1.1.1, this.1.1.2, this.1.2, of_decide_eq_true this.2⟩
  · cases h
end Go.Sx
