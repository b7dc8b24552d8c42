/- Contracts of functions that are not the program's own, when what they hand back are scalars. -/
import Derived.Test.YtlhbonpdlghlbaaDoorSxEnv
set_option linter.unusedVariables false
set_option linter.unusedSimpArgs false
namespace Go.Sx
open Go.RowKit
inductive Scal : AV → Value → Prop
  | int (k : IntKind) (n : Int) : Scal (.int k n) (.int k n)
  | bool (b : Bool) : Scal (.bool b) (.bool b)
  | str (s : ByteArray) : Scal (.str s) (.string s)
section
variable {P : Program} {T : Nat → TyI}
theorem Scal.res {w : World} {I : Nat → Prop} {a : AV} {v : Value} (h : Scal a v) : ResA T w I a v := by cases h <;> rfl
theorem scal_flat : ∀ {as : List AV} {vs : List Value}, All2 Scal as vs → ∀ p ∈ flatR as vs, ∀ e x, p.1 ≠ .own e x
  | _, _, .nil, p, hp => by simp [flatR] at hp
  | _, _, .cons h t, p, hp => by
    simp only [flatR] at hp
    rcases List.mem_append.1 hp with hp | hp
    · intro e x he
      have := (List.of_mem_zip hp).1
      cases h <;> simp [cellsV] at this <;> (rw [this] at he; cases he)
    · exact scal_flat t p hp
theorem dis_flat : ∀ {l : List (AV × Value)}, (∀ p ∈ l, ∀ e x, p.1 ≠ .own e x) → Dis l
  | [], _ => trivial
  | p :: l, h => ⟨fun e x hp => absurd hp (h p (by simp) e x), dis_flat fun q hq => h q (by simp [hq])⟩
theorem fun_of_scal {g : Nat} {fn : Func} {c : Callee} (hfn : P.funcs[g]? = some fn) (hname : fn.name ≠ "runtime.NumGoroutine") (hb : fn.body ≠ none)
    (h : ∀ k ds r, c.f k ds = some r → ∃ vs, All2 Scal (unRL c.rs r 0).1 vs ∧ ∀ (w : World) (I : Nat → Prop) (args : List Value), Facts T w I → All2 (RelA T w I noφ) (unRL c.sig ds 0).1 args → Calls P g args.toArray w fun e w' => e = .returned (packV vs) ∧ Below w.heap.size w w') : FunOK P T g c := by
  intro k ds r hr
  obtain ⟨vs, hs, hc⟩ := h k ds r hr
  refine ⟨unRL_nun r c.rs 0, ⟨fn, hfn, hname, hb⟩, fun w I args hfx hI ha => Calls.mono (hc w I args hfx ha) fun e w' hh => ?_⟩
  obtain ⟨he, hbl⟩ := hh
  exact ⟨vs, I, he, hbl, fun _ h => h, fun _ h => .inl h, hs.imp (fun _ _ h => h.res), dis_flat (scal_flat hs), fun p hp e x he => absurd he (scal_flat hs p hp e x)⟩
end
end Go.Sx
