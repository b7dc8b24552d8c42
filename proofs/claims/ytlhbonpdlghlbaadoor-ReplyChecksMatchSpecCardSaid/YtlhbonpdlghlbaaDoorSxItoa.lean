/- Numbers as texts, told over data by the shelf's contract: it reads a table that is laid. -/
import Derived.Test.YtlhbonpdlghlbaaDoorSxFor
import Derived.Shelf.Strconv.Itoa3
import Derived.Shelf.SlSorted.Search
import Derived.Lib.LaidTab
set_option linter.unusedVariables false
set_option linter.unusedSimpArgs false
namespace Go.Sx
open Go.Proofs Go.RowKit
theorem pow10_is {P : Program} {T : Nat → TyI} {w : World} {I : Nat → Prop} (hfx : Facts T w I) {g : Nat} (hT : (T 4000000).fields = [(g, 0)]) (hg : P.globalNamed "internal/strconv.uint64pow10" = some g) : Lib.TabIs P w "internal/strconv.uint64pow10" .u64 Lib.pow10Tab := by
  obtain ⟨_, t, fz, h⟩ := hfx (g, 0) (by rw [hT]; simp)
  unfold Lib.TabIs World.var?
  have h : w.heap[g]? = some (.cells (tableOf 0) t fz) := h
  simp only [hg, Option.bind_some, h]
  rfl
theorem facts_pow10 {P : Program} {T : Nat → TyI} {w : World} {g : Nat} (hT : (T 4000000).fields = [(g, 0)]) (hg : P.globalNamed "internal/strconv.uint64pow10" = some g) (h : Lib.TabIs P w "internal/strconv.uint64pow10" .u64 Lib.pow10Tab) : Facts T w (fun b => b < w.heap.size) := fun p hp => by
  rw [hT] at hp
  obtain rfl := List.mem_singleton.1 hp
  unfold Lib.TabIs World.var? at h
  simp only [hg, Option.bind_some] at h
  split at h
  · rename_i cs t fz hc
    have := Option.some.inj h
    subst this
    exact ⟨(Array.getElem?_eq_some_iff.1 hc).1, t, fz, hc⟩
  · cases h
theorem tab_of_vars {P : Program} {W : World} {name : String} {k : IntKind} {zs : List Int} {g : Nat} {t e : TypeId} {n : Nat}
    (hg : P.globalNamed name = some g) (hty : (P.globals[g]?).map (·.type) = some t) (ht : P.underlying t = some (.array n e)) (he : P.underlying e = some (.int k)) (hce : P.cellsOf e = 1) (hct : P.cellsOf t = n) :
    ∀ {laid : List (String × DataW Unit)} {ps : List MemPlace}, DataW.LaidVars P W laid ps → ∀ j : Nat, laid[j]? = some (name, Lib.tabData k zs) → Lib.TabIs P W name k zs
  | [], _, _, j, hj => by simp at hj
  | (n', d) :: r, ps, h, j, hj => by
    obtain ⟨g', t', cs, fuel, p, q, hg', ht', hvar, hd, hr, _⟩ := h
    cases j with
    | zero =>
      simp only [List.getElem?_cons_zero, Option.some.injEq, Prod.mk.injEq] at hj
      obtain ⟨rfl, rfl⟩ := hj
      obtain rfl := Option.some.inj (hg.symm.trans hg')
      obtain rfl := Option.some.inj (hty.symm.trans ht')
      unfold Lib.TabIs
      rw [hvar, ← Lib.cells_of_tab ht he hce hct hd]
    | succ j => exact tab_of_vars hg hty ht he hce hct hr j (by simpa using hj)
theorem pow10_of_laid {P : Program} {W : World} {laid : List (String × DataW Unit)} {g : Nat} {t e : TypeId} (h : laidMet P laid W) (j : Nat) (hj : laid[j]? = some ("internal/strconv.uint64pow10", Lib.tabData .u64 Lib.pow10Tab))
    (hg : P.globalNamed "internal/strconv.uint64pow10" = some g) (hty : (P.globals[g]?).map (·.type) = some t) (ht : P.underlying t = some (.array 20 e)) (he : P.underlying e = some (.int .u64)) (hce : P.cellsOf e = 1) (hct : P.cellsOf t = 20) :
    Lib.TabIs P W "internal/strconv.uint64pow10" .u64 Lib.pow10Tab := by
  obtain ⟨ps, hv, _⟩ := h
  exact tab_of_vars hg hty ht he hce hct hv j hj
def itoaK : Callee := ⟨[.int .i64], [.str], fun _ ds => bif decide (-9223372036854775808 ≤ (gt ds 0).i) && decide ((gt ds 0).i ≤ 9223372036854775807) then some [.str ⟨(Lib.itoa (gt ds 0).i).toArray⟩] else none⟩
theorem itoa_ok {P : Program} {T : Nat → TyI} {ρ : Go.Shelf.Ren} (L : LaysM.n171 P ρ) {g : Nat} (hT : (T 4000000).fields = [(g, 0)]) (hg : P.globalNamed "internal/strconv.uint64pow10" = some g) {fn : Func} (hfn : P.funcs[ρ.f 171]? = some fn) (hname : fn.name ≠ "runtime.NumGoroutine") (hb : fn.body ≠ none) :
    FunOK P T (ρ.f 171) itoaK := by
  refine fun_of_scal hfn hname hb fun k ds r h => ?_
  simp only [itoaK] at h
  cases hc : (decide (-9223372036854775808 ≤ (gt ds 0).i) && decide ((gt ds 0).i ≤ 9223372036854775807)) <;> rw [hc] at h
  · cases h
  obtain rfl := Option.some.inj h
  simp only [Bool.and_eq_true, decide_eq_true_eq] at hc
  refine ⟨[.string ⟨(Lib.itoa (gt ds 0).i).toArray⟩], .cons (.str _) .nil, fun w I args hfx ha => ?_⟩
  simp only [itoaK, unRL, unR] at ha
  cases ha with
  | cons h1 h2 =>
    cases h2
    obtain rfl := h1
    refine (Any.strconv_Itoa L (gt ds 0).i hc.1 hc.2 w (pow10_is hfx hT hg)).mono fun e w' hh => ?_
    obtain ⟨h3, k, os, rfl⟩ := hh
    exact ⟨h3, below_grown_sl _ w k os (Nat.le_refl _)⟩
end Go.Sx
