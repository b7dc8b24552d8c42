/- slices.Clone: whether its argument is nil is not told by data. -/
import Derived.Test.YtlhbonpdlghlbaaDoorSxInl
set_option linter.unusedVariables false
set_option linter.unusedSimpArgs false
namespace Go.Sx
open Go.RowKit
section
variable {P : Program} {T : Nat → TyI}
theorem callOK_nil {g e : Nat} {l : List D} {res : List AV} (h0 : CallOK P T g [.krow e l false] res) (h1 : l = [] → CallOK P T g [.krow e [] true] res) : CallOK P T g [.srow e l] res := by
  refine ⟨h0.1, h0.2.1, fun w I vs hfx hI hv => ?_⟩
  cases hv with
  | cons h t =>
    cases t
    rename_i v
    have h : RepC T w I (.sl e) (.row l) v := h
    have hr := h
    generalize hc : CT.sl e = c at h
    generalize hd : D.row l = d at h
    cases h with
    | nil e' d a cap hd' =>
      obtain rfl := CT.sl.inj hc
      subst hd
      have hl : l = [] := hd'
      subst hl
      cases a with
      | none => exact (h1 rfl).2.2 w I _ hfx hI (.cons ⟨hr, _, _, _, rfl, rfl⟩ .nil)
      | some a => exact h0.2.2 w I _ hfx hI (.cons ⟨hr, _, _, _, rfl, rfl⟩ .nil)
    | sl e' d b off n cap u hn hb hcc hl' hr' => exact h0.2.2 w I _ hfx hI (.cons ⟨hr, _, _, _, rfl, rfl⟩ .nil)
    | int k d => cases hc
    | bool d => cases hc
    | str d => cases hc
def cloneK (e B : Nat) : Callee := ⟨[.seen e], [.own e], fun _ ds => bif needOk (0 + (gt ds 0).r.length) B then some [.row (gt ds 0).r] else none⟩
def cx0 : Cx := ⟨lkup [], lkup [], mdL [], envL [], itr, inlL [], hasL [], 0⟩
theorem clone_ok (hT : TOK P T) (hE : EOK P T) (hmx : P.follows .mixedOrders = true) {e B g : Nat} {fn : Func} {code : Code} {res : List RV}
    (hfn : P.funcs[g]? = some fn) (hb : fn.body = some code) (hres : fn.results = (res.map RV.rv).toArray) (hname : fn.name ≠ "runtime.NumGoroutine") (hd : ((dstsC code).all (fun d => Nat.blt d fn.ntmps) && (Nat.ble fn.ntmps 1000000 && Nat.ble 1 1000000)) = true)
    (hr0 : ∀ k l, callF T cx0 [.own e] res code k [.krow e l false] = bif needOk (0 + l.length) B then some [.row l] else none)
    (hr1 : ∀ k, callF T cx0 [.own e] res code k [.krow e [] true] = some [.row []]) : FunOK P T g (cloneK e B) := fun k ds r h => by
  have h' : (bif needOk (0 + (gt ds 0).r.length) B then some [D.row (gt ds 0).r] else none) = some r := h
  refine callOK_nil (l := (gt ds 0).r) (callF_sound hT hE hmx (c := cx0) (envL_ok lkup_nil) (inlL_nil) rfl hfn hb hres hname (okN_of hd).1 (okN_of hd).2.1 (by simp) ((hr0 k _).trans h')) fun hl => ?_
  have e1 : r = [.row []] := by
    rw [hl] at h'
    cases hn : needOk (0 + ([] : List D).length) B <;> rw [hn] at h' <;> simp only [cond_true, cond_false] at h'
    · cases h'
    · exact (Option.some.inj h').symm
  subst e1
  exact callF_sound hT hE hmx (c := cx0) (envL_ok lkup_nil) (inlL_nil) rfl hfn hb hres hname (okN_of hd).1 (okN_of hd).2.1 (by simp) (hr1 k)
end
end Go.Sx
