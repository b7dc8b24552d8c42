/- Functions of Go's library, told over data by the shelf's contracts. -/
import Derived.Test.YtndlhopdhfhjnaaDoorSxFor
import Derived.Shelf.Strings.SlTrimAscii
set_option linter.unusedVariables false
set_option linter.unusedSimpArgs false
namespace Go.Sx
open Go.Proofs Go.RowKit
def trimK : Callee := ⟨[.str, .str], [.str], fun _ ds => bif decide ((gt ds 0).s.size ≤ 9223372036854775807) && (decide ((gt ds 1).s.size < 4294967281) && (gt ds 1).s.data.toList.all (fun b => decide (b.toNat < 128))) then some [.str ⟨(Lib.trimS (gt ds 0).s.data.toList (gt ds 1).s.data.toList).toArray⟩] else none⟩
theorem trim_ok {P : Program} {T : Nat → TyI} {ρ : Go.Shelf.Ren} (L : Lays.n160 P ρ) (h116 : (P.info? (ρ.t 116)).map (fun i => (i.zero, i.size)) = some (some (.agg (Array.replicate 256 (.bool false))), 256)) {fn : Func} (hfn : P.funcs[ρ.f 160]? = some fn) (hname : fn.name ≠ "runtime.NumGoroutine") (hb : fn.body ≠ none) :
    FunOK P T (ρ.f 160) trimK := by
  refine fun_of_scal hfn hname hb fun k ds r h => ?_
  simp only [trimK] at h
  cases hc : (decide ((gt ds 0).s.size ≤ 9223372036854775807) && (decide ((gt ds 1).s.size < 4294967281) && (gt ds 1).s.data.toList.all (fun b => decide (b.toNat < 128)))) <;> rw [hc] at h
  · cases h
  obtain rfl := Option.some.inj h
  simp only [Bool.and_eq_true, decide_eq_true_eq] at hc
  refine ⟨[.string ⟨(Lib.trimS (gt ds 0).s.data.toList (gt ds 1).s.data.toList).toArray⟩], .cons (.str _) .nil, fun w I args ha => ?_⟩
  simp only [trimK, unRL, unR] at ha
  cases ha with
  | cons h1 h2 => cases h2 with
    | cons h2 h3 =>
      cases h3
      obtain rfl := h1
      obtain rfl := h2
      exact Any.strings_Trim_laid L h116 (gt ds 0).s (gt ds 1).s w hc.1 hc.2.1 (ascii_of_all hc.2.2)
end Go.Sx
