/- Functions of Go's library, told over data by the shelf's contracts. -/
import Derived.Test.YtlhbonpdlghlbaaDoorSxFor
import Derived.Shelf.Strings.SlTrimAscii
import Derived.Shelf.Small.Strs
import Derived.Shelf.Strings.IndexAnyAll
set_option linter.unusedVariables false
set_option linter.unusedSimpArgs false
namespace Go.Sx
open Go.Proofs Go.RowKit
def trimK : Callee := ⟨[.str, .str], [.str], fun _ ds => bif decide ((gt ds 0).s.size ≤ 9223372036854775807) && (decide ((gt ds 1).s.size < 4294967281) && (gt ds 1).s.data.toList.all (fun b => decide (b.toNat < 128))) then some [.str ⟨(Lib.trimS (gt ds 0).s.data.toList (gt ds 1).s.data.toList).toArray⟩] else none⟩
theorem trim_ok {P : Program} {T : Nat → TyI} {ρ : Go.Shelf.Ren} (L : Lays.n160 P ρ) (h116 : (P.info? (ρ.t 116)).map (fun i => (i.zero, i.size)) = some (some (.agg (Array.replicate 256 (.bool false))), 256)) {fn : Func} (hfn : P.funcs[ρ.f 160]? = some fn) (hname : fn.name ≠ "runtime.NumGoroutine") (hb : fn.body ≠ none) :
    FunOK P T (ρ.f 160) trimK := by
  refine fun_of_scal hfn hname hb fun k ds r h => ?_
  simp only [trimK] at h
  cases hc : (decide ((gt ds 0).s.size ≤ 9223372036854775807) && (decide ((gt ds 1).s.size < 4294967281) && (gt ds 1).s.data.toList.all (fun b => decide (b.toNat < 128)))) <;> rw [hc] at h
  · cases h
  obtain rfl := Option.some.inj h
  simp only [Bool.and_eq_true, decide_eq_true_eq] at hc
  refine ⟨[.string ⟨(Lib.trimS (gt ds 0).s.data.toList (gt ds 1).s.data.toList).toArray⟩], .cons (.str _) .nil, fun w I args _ ha => ?_⟩
  simp only [trimK, unRL, unR] at ha
  cases ha with
  | cons h1 h2 => cases h2 with
    | cons h2 h3 =>
      cases h3
      obtain rfl := h1
      obtain rfl := h2
      exact Any.strings_Trim_laid L h116 (gt ds 0).s (gt ds 1).s w hc.1 hc.2.1 (ascii_of_all hc.2.2)
def indexByteK : Callee := ⟨[.str, .int .u8], [.int .i64], fun _ ds => some [.int (Lib.indexByte (gt ds 0).s.data.toList (gt ds 1).i.toNat.toUInt8)]⟩
theorem index_byte_ok {P : Program} {T : Nat → TyI} {ρ : Go.Shelf.Ren} (L : Lays.n137 P ρ) {fn : Func} (hfn : P.funcs[ρ.f 137]? = some fn) (hname : fn.name ≠ "runtime.NumGoroutine") (hb : fn.body ≠ none) :
    FunOK P T (ρ.f 137) indexByteK := by
  refine fun_of_scal hfn hname hb fun k ds r h => ?_
  obtain rfl := Option.some.inj h
  refine ⟨[.int .i64 (Lib.indexByte (gt ds 0).s.data.toList (gt ds 1).i.toNat.toUInt8)], .cons (.int _ _) .nil, fun w I args _ ha => ?_⟩
  simp only [indexByteK, unRL, unR] at ha
  cases ha with
  | cons h1 h2 => cases h2 with
    | cons h2 h3 =>
      cases h3
      obtain rfl := h1
      obtain rfl := h2
      exact (Any.strings_IndexByte L (gt ds 0).s (gt ds 1).i w).mono fun e w' hh => ⟨hh.1, by rw [hh.2]; exact Below.refl _ _⟩
def indexAnyK : Callee := ⟨[.str, .str], [.int .i64], fun _ ds => bif decide ((gt ds 0).s.size < 4294967281) && (decide ((gt ds 1).s.size < 4294967281) && ((gt ds 0).s.data.toList.all (fun b => decide (b.toNat < 128)) && (gt ds 1).s.data.toList.all (fun b => decide (b.toNat < 128)))) then some [.int (Lib.indexAny (gt ds 0).s.data.toList (gt ds 1).s.data.toList)] else none⟩
theorem index_any_ok {P : Program} {T : Nat → TyI} {ρ : Go.Shelf.Ren} (L : Lays.n153 P ρ) (h116 : (P.info? (ρ.t 116)).map (fun i => (i.zero, i.size)) = some (some (.agg (Array.replicate 256 (.bool false))), 256)) {fn : Func} (hfn : P.funcs[ρ.f 153]? = some fn) (hname : fn.name ≠ "runtime.NumGoroutine") (hb : fn.body ≠ none) :
    FunOK P T (ρ.f 153) indexAnyK := by
  refine fun_of_scal hfn hname hb fun k ds r h => ?_
  simp only [indexAnyK] at h
  cases hc : (decide ((gt ds 0).s.size < 4294967281) && (decide ((gt ds 1).s.size < 4294967281) && ((gt ds 0).s.data.toList.all (fun b => decide (b.toNat < 128)) && (gt ds 1).s.data.toList.all (fun b => decide (b.toNat < 128))))) <;> rw [hc] at h
  · cases h
  obtain rfl := Option.some.inj h
  simp only [Bool.and_eq_true, decide_eq_true_eq] at hc
  refine ⟨[.int .i64 (Lib.indexAny (gt ds 0).s.data.toList (gt ds 1).s.data.toList)], .cons (.int _ _) .nil, fun w I args _ ha => ?_⟩
  simp only [indexAnyK, unRL, unR] at ha
  cases ha with
  | cons h1 h2 => cases h2 with
    | cons h2 h3 =>
      cases h3
      obtain rfl := h1
      obtain rfl := h2
      exact Any.strings_IndexAny_laid L h116 (gt ds 0).s (gt ds 1).s w hc.1 hc.2.1 (ascii_of_all hc.2.2.1) (ascii_of_all hc.2.2.2)
def containsAnyK : Callee := ⟨[.str, .str], [.bool], fun _ ds => bif decide ((gt ds 0).s.size < 4294967281) && (decide ((gt ds 1).s.size < 4294967281) && ((gt ds 0).s.data.toList.all (fun b => decide (b.toNat < 128)) && (gt ds 1).s.data.toList.all (fun b => decide (b.toNat < 128)))) then some [.bool (Lib.containsAny (gt ds 0).s.data.toList (gt ds 1).s.data.toList)] else none⟩
theorem contains_any_ok {P : Program} {T : Nat → TyI} {ρ : Go.Shelf.Ren} (L : Lays.n150 P ρ) (h116 : (P.info? (ρ.t 116)).map (fun i => (i.zero, i.size)) = some (some (.agg (Array.replicate 256 (.bool false))), 256)) {fn : Func} (hfn : P.funcs[ρ.f 150]? = some fn) (hname : fn.name ≠ "runtime.NumGoroutine") (hb : fn.body ≠ none) :
    FunOK P T (ρ.f 150) containsAnyK := by
  refine fun_of_scal hfn hname hb fun k ds r h => ?_
  simp only [containsAnyK] at h
  cases hc : (decide ((gt ds 0).s.size < 4294967281) && (decide ((gt ds 1).s.size < 4294967281) && ((gt ds 0).s.data.toList.all (fun b => decide (b.toNat < 128)) && (gt ds 1).s.data.toList.all (fun b => decide (b.toNat < 128))))) <;> rw [hc] at h
  · cases h
  obtain rfl := Option.some.inj h
  simp only [Bool.and_eq_true, decide_eq_true_eq] at hc
  refine ⟨[.bool (Lib.containsAny (gt ds 0).s.data.toList (gt ds 1).s.data.toList)], .cons (.bool _) .nil, fun w I args _ ha => ?_⟩
  simp only [containsAnyK, unRL, unR] at ha
  cases ha with
  | cons h1 h2 => cases h2 with
    | cons h2 h3 =>
      cases h3
      obtain rfl := h1
      obtain rfl := h2
      exact Any.strings_ContainsAny_laid L h116 (gt ds 0).s (gt ds 1).s w hc.1 hc.2.1 (ascii_of_all hc.2.2.1) (ascii_of_all hc.2.2.2)
end Go.Sx
