/- Functions that are run in their caller's place. -/
import Derived.Test.YtlhbonpdlghlbaaDoorSxEnv
set_option linter.unusedVariables false
set_option linter.unusedSimpArgs false
namespace Go.Sx
open Go.RowKit
section
variable {P : Program} {T : Nat → TyI} {F : Nat → Nat → List AV → Option (List AV)}
theorem inl_sound (hT : TOK P T) (hE : EOK P T) (hmx : P.follows .mixedOrders = true) {c : Cx} (hF : EnvOK P T c.env F) (hI : ∀ id i g F, c.inl id i = some (g, F) → InlOK P T g F) (hit : c.it = itr) {g : Nat} {fn : Func} {code : Code} {res : List RV}
    (hfn : P.funcs[g]? = some fn) (hb : fn.body = some code) (hres : fn.results = (res.map RV.rv).toArray) (hname : fn.name ≠ "runtime.NumGoroutine") (hd : ∀ d ∈ dstsC code, d < fn.ntmps) (hN : fn.ntmps ≤ 1000000) : InlOK P T g (inlOf T c code res) := by
  refine ⟨⟨fn, hfn, hname, by rw [hb]; simp⟩, fun U γ w I φ s vs R k K x hfx hm hvl htm hr Post hPost => ?_⟩
  refine calls_of_wp hfn hb ?_
  refine exec_sound (U := U) (γ := γ) (N := vs.toArray.size + (fn.ntmps - vs.toArray.size)) hT hE hmx hF hI hit code R k s _ x _ w I φ _ (fun d hd' => by have := hd d hd'; omega) ⟨fun i => ?_, hm, by simp, rfl, by simp; omega, hfx⟩ hr ?_
  · have h1 := htm i
    unfold tv
    by_cases hi : i < 1000000
    · rw [if_pos hi] at h1 ⊢
      have e2 : (vs.toArray ++ Array.replicate (fn.ntmps - vs.toArray.size) undef).getD i undef = vs.getD i undef := by
        by_cases hv : i < vs.length
        · simp [Array.getD_eq_getD_getElem?, Array.getElem?_append, hv, List.getD_eq_getElem?_getD]
        · simp only [Array.getD_eq_getD_getElem?, Array.getElem?_append, List.size_toArray, hv, if_false, List.getD_eq_getElem?_getD]
          rw [List.getElem?_eq_none (by omega)]
          by_cases hq : i - vs.length < fn.ntmps - vs.length
          · simp [hq]
          · rw [Array.getElem?_eq_none (by simp; omega)]
      rw [e2]; exact h1
    · rw [if_neg hi] at h1 ⊢; exact h1
  · intro k' o s' a' w' I' φ' hK hs x9 _
    have main : (match resL T s' res with | some vs => K s' vs | none => none) = some x → bodyPost P fn (fun e w' => ∃ v, e = .returned v ∧ Post v w') .ret a' w' := by
      intro hr
      split at hr
      case h_2 => cases hr
      rename_i avs havs
      obtain ⟨rvs, hrun, hv'⟩ := run_results hT hs hres havs
      refine ⟨hs.df, _, hrun, _, rfl, ?_⟩
      refine hPost s' avs w' I' φ' rvs hr hs.mem (fun i => ?_) hv' x9
      have := hs.tm (i + 1000000)
      unfold tv at this
      rw [if_neg (by omega), show i + 1000000 - 1000000 = i by omega] at this
      exact this
    cases o with
    | nrm => exact main hK
    | ret => exact main hK
    | exit id => cases hK
/-- Nothing is run in place. -/
theorem inl_none {Q : Nat → Inl → Prop} : ∀ id i g F, (fun _ _ => none : Nat → Nat → Option (Nat × Inl)) id i = some (g, F) → Q g F := fun _ _ _ _ h => by cases h
def inlL (l : List (Nat × Nat × Nat × Inl)) (a b : Nat) : Option (Nat × Inl) :=
  match l with
  | [] => none
  | p :: l => bif Nat.beq p.1 a && Nat.beq p.2.1 b then some (p.2.2.1, p.2.2.2) else inlL l a b
theorem inlL_nil {Q : Nat → Inl → Prop} : ∀ id i g F, inlL [] id i = some (g, F) → Q g F := fun _ _ _ _ h => by cases h
theorem inlL_cons {Q : Nat → Inl → Prop} {a b g : Nat} {F : Inl} {l : List (Nat × Nat × Nat × Inl)} (h : Q g F) (t : ∀ id i g F, inlL l id i = some (g, F) → Q g F) : ∀ id i g' F', inlL ((a, b, g, F) :: l) id i = some (g', F') → Q g' F' := fun id i g' F' hh => by
  unfold inlL at hh
  cases hb : (Nat.beq a id && Nat.beq b i) <;> simp only [hb, cond_true, cond_false] at hh
  · exact t id i g' F' hh
  · simp only [Option.some.injEq, Prod.mk.injEq] at hh
    obtain ⟨rfl, rfl⟩ := hh
    exact h
def hasL (l : List (Nat × Nat × Nat × Inl)) (a : Nat) : Bool :=
  match l with
  | [] => false
  | p :: l => Nat.beq p.1 a || hasL l a
/-- A function that is run in place, over lists of contracts and of functions run in place in it. -/
theorem inl_ok (hT : TOK P T) (hE : EOK P T) (hmx : P.follows .mixedOrders = true) {loops : Nat → Option Cut} {joins : Nat → Option Join} {md : Nat → Nat → Nat} {base : Nat} {L : List (Nat × Callee)} (hL : ∀ g c, lkup L g = some c → FunOK P T g c) {I : List (Nat × Nat × Nat × Inl)} (hI : ∀ id i g F, inlL I id i = some (g, F) → InlOK P T g F) {g : Nat} {fn : Func} {code : Code} {res : List RV}
    (hfn : P.funcs[g]? = some fn) (hb : fn.body = some code) (hres : fn.results = (res.map RV.rv).toArray) (hname : fn.name ≠ "runtime.NumGoroutine") (hd : ((dstsC code).all (fun d => Nat.blt d fn.ntmps) && (Nat.ble fn.ntmps 1000000 && Nat.ble 0 1000000)) = true) :
    InlOK P T g (inlOf T ⟨loops, joins, md, envL L, itr, inlL I, hasL I, base⟩ code res) :=
  inl_sound hT hE hmx (c := ⟨loops, joins, md, envL L, itr, inlL I, hasL I, base⟩) (envL_ok hL) hI rfl hfn hb hres hname (okN_of hd).1 (okN_of hd).2.1
/-- A function of the program, with functions run in place in it. -/
theorem fun_ok_i (hT : TOK P T) (hE : EOK P T) (hmx : P.follows .mixedOrders = true) {loops : Nat → Option Cut} {joins : Nat → Option Join} {md : Nat → Nat → Nat} {L : List (Nat × Callee)} (hL : ∀ g c, lkup L g = some c → FunOK P T g c) {I : List (Nat × Nat × Nat × Inl)} (hI : ∀ id i g F, inlL I id i = some (g, F) → InlOK P T g F) {g : Nat} {fn : Func} {code : Code} {c : Callee} {res : List RV}
    (hfn : P.funcs[g]? = some fn) (hb : fn.body = some code) (hres : fn.results = (res.map RV.rv).toArray) (hname : fn.name ≠ "runtime.NumGoroutine") (hd : ((dstsC code).all (fun d => Nat.blt d fn.ntmps) && (Nat.ble fn.ntmps 1000000 && Nat.ble c.sig.length 1000000)) = true)
    (hr : ∀ k ds, callF T ⟨loops, joins, md, envL L, itr, inlL I, hasL I, 0⟩ c.rs res code k (unRL c.sig ds 0).1 = c.f k ds) : FunOK P T g c := fun k ds r h =>
  callF_sound hT hE hmx (c := ⟨loops, joins, md, envL L, itr, inlL I, hasL I, 0⟩) (envL_ok hL) hI rfl hfn hb hres hname (okN_of hd).1 (okN_of hd).2.1 (by rw [unRL_len]; exact (okN_of hd).2.2) ((hr k ds).trans h)
end
end Go.Sx
