/- Written by sxlaw.py (this repo's wip/tools) for this seat: the row of ReplyChecksMatchSpec -/
import Derived.Test.YtlhbonpdlghlbaaDoorRows
import Derived.Test.YtlhbonpdlghlbaaDoorSxXd
import Derived.Test.YtlhbonpdlghlbaaDoorCards
import Derived.Test.YtlhbonpdlghlbaaDoorTie
import Derived.WalkKit
import Derived.ProofKit
import Derived.OpenShut
import Derived.ShutString
import Derived.ChangeOld
import Derived.Below
import Derived.SizedLaws
import Derived.Deep.DeepHandedRow
import Derived.Lib.LaidTab
namespace Go.Proofs.YtlhbonpdlghlbaaDoor.replyChecksMatchSpec
open Go.ChangeShapes Go.WideShapes Go.ChangeAt Go.RowKit
set_option linter.unusedVariables false
set_option linter.unusedSimpArgs false
theorem own : ownKnob Tryd.prog.godebug = none := by kernel_rfl
theorem laidOut : laidOutB Tryd.prog = true := by kernel_rfl
set_option maxRecDepth 100000 in
theorem contract (H : Type) (enc : TypeId × Value → H) (W : World) (base : Nat) (args : Array Value) (ds gs : List (DataW H)) (before : List MemPlace)
    (hval0 : ∀ (j : Nat) t v, Tryd.f8.params[j]? = some t → args[j]? = some v → Value.okWide Tryd.prog W .any base t v)
    (hW : DataW.Whole enc Tryd.prog Tryd.f8.params.toList Rows.replyChecksMatchSpecSpec.vars false W args.toList ds gs before)
    (hsz0 : (DataW.weightsEach Tryd.prog (Tryd.f8.params.toList ++ Rows.replyChecksMatchSpecSpec.plain.varTypes Tryd.prog) (ds ++ gs)).all (· ≤ reachBytes) = true) (hL : laidMetH Tryd.prog Rows.replyChecksMatchSpecRow.laid W) :
    Calls Tryd.prog 8 args W fun e W' => ∃ v, e = .returned v ∧ Rows.replyChecksMatchSpecSpec.post enc Tryd.prog Tryd.f8 false true false false W args v W' := by
  have hsz := hsz0
  have hval := hval0
  have hW' := hW
  obtain ⟨p, q, hA0, hV, rfl, hfz, hnd⟩ := hW
  have hA : DataW.TrodAll enc Tryd.prog W 0 (fun _ => true) true Tryd.f8.params.toList args.toList ds p := hA0
  rw [Tryd.params8] at hA hval hsz
  have hA1 : DataW.TrodAll enc Tryd.prog W 0 (fun _ => true) true [57] args.toList ds p := hA
  obtain ⟨v0, vs0, d0, ds0, p0, q0, hargs, rfl, rfl, h0, r0⟩ := trodAll_cons hA
  obtain ⟨rfl, rfl, rfl⟩ := trodAll_nil r0
  obtain rfl : args = #[v0] := by cases args; simp_all
  obtain ⟨rfl, rfl⟩ := trodVars_none hV
  have hszl : ∀ n ∈ DataW.weightsEach Tryd.prog _ _, n ≤ reachBytes := fun n hn => by simpa using List.all_eq_true.1 hsz n hn
  have lt0 : ∀ x ∈ p0, x.block < W.heap.size := by obtain ⟨m, hm⟩ := h0; exact DataW.trod_lt m _ _ _ hm
  have z0 : ∀ n ∈ d0.weights Tryd.prog 57, n ≤ reachBytes := fun n hn => hszl n (DataW.weights_mem_each (j := 0) (t := 57) rfl rfl n hn)
  have hw : ∀ n ∈ DataW.weightsEach Tryd.prog [57] [d0], n ≤ reachBytes := fun n hn => by
    simp only [DataW.weightsEach, List.mem_append, List.append_nil, List.not_mem_nil, or_false] at hn
    exact z0 n hn
  have htab : Lib.TabIs Tryd.prog W "internal/strconv.uint64pow10" .u64 Lib.pow10Tab := Go.Sx.pow10_of_laid (t := 189) (e := 173) (show laidMet Tryd.prog Rows.replyChecksMatchSpecRow.laid W from hL) 2 (by kernel_rfl) (g := 1) (by kernel_rfl) (by kernel_rfl) Tryd.underlying189 Tryd.underlying173 (by kernel_rfl) (by kernel_rfl)
  refine (Go.Sx.law_calls Go.Sx.TOKp (Go.Sx.facts_pow10 (g := 1) (by kernel_rfl) (by kernel_rfl) htab) (S := [57, 9, 3, 55, 104, 102, 107, 4, 105, 110, 41, 100]) (by kernel_rfl) (ts := [57]) (by kernel_rfl) Go.Sx.T8 (by kernel_rfl) (by kernel_rfl) Go.Sx.pure8 hA1 (fun j t v h1 h2 => ⟨.any, base, hval j t v (by simpa using h1) h2⟩) hw).mono fun e W' ⟨he, bel⟩ => ?_
  subst he
  exact ⟨_, rfl, _, _, _, [], _, [], hW', trodAll_mk1 (shut_bool Tryd.underlying4 _), (trodAll_cons_mk (Below.trod laidOut (by kernel_rfl) (of_decide_eq_true (by kernel_rfl)) h0 bel lt0) trodAll_mk0), rfl, bel.frame _, fun h => by cases h⟩
mutual
/-- A datum's cells. -/
def cellsD : DataW Unit → List Value
  | .lit (.int k n) => [.int k n]
  | .lit (.bool b) => [.bool b]
  | .lit (.string s) => [.string ⟨s.toArray⟩]
  | .agg l => cellsDs l
  | _ => []
def cellsDs : List (DataW Unit) → List Value
  | [] => []
  | d :: r => cellsD d ++ cellsDs r
end
/-- A world for the witness: each listed variable holds what its initialiser lays. -/
noncomputable def laidWorld (os : Os) : World :=
  { World.holding Tryd.prog os ⟨#[], #[], []⟩ with heap := (Array.modify (Array.modify (Array.modify (Array.modify (Array.modify (World.holding Tryd.prog os ⟨#[], #[], []⟩).heap 4 (fun o => match o with | .cells _ t frozen => .cells (cellsD Rows.laid_math_bits_deBruijn32tab).toArray t frozen | o => o)) 5 (fun o => match o with | .cells _ t frozen => .cells (cellsD Rows.laid_math_bits_deBruijn64tab).toArray t frozen | o => o)) 1 (fun o => match o with | .cells _ t frozen => .cells (cellsD Rows.laid_internal_strconv_uint64pow10).toArray t frozen | o => o)) 3 (fun o => match o with | .cells _ t frozen => .cells (cellsD Rows.laid_unicode_utf8_acceptRanges).toArray t frozen | o => o)) 2 (fun o => match o with | .cells _ t frozen => .cells (cellsD Rows.laid_unicode_utf8_first).toArray t frozen | o => o)) }
theorem laid_met (os : Os) : laidMet Tryd.prog Rows.replyChecksMatchSpecRow.laid ((laidWorld os).forCall (fun _ _ => 0) ⟨#[], #[.agg #[Value.string ⟨#[]⟩, Value.int .i64 0, Value.slice none 0 0]], []⟩).memory :=
  laidMet_of_run' 8 (by kernel_rfl) (by kernel_rfl)
theorem reads (os : Os) {H : Type} (enc : TypeId × Value → H) : ∃ places, DataW.whole enc Tryd.prog ((laidWorld os).forCall (fun _ _ => 0) ⟨#[], #[.agg #[Value.string ⟨#[]⟩, Value.int .i64 0, Value.slice none 0 0]], []⟩).memory Tryd.f8.params.toList Rows.replyChecksMatchSpecSpec.vars false (#[.agg #[Value.string ⟨#[]⟩, Value.int .i64 0, Value.slice none 0 0]] : Array Value).toList 8 = some ([.agg [.lit (.string []), .lit (.int .i64 0), .nil]], [], places) :=
  ⟨[], by kernel_rfl⟩
set_option maxRecDepth 100000 in
theorem lifted (os : Os) (started : os.Started) (H : Type) (enc : TypeId × Value → H) (F : Stop.Interp) :
    ReturnsInHanded {} Tryd.checked os 8 .any ((OpenSpec.ofChange Rows.replyChecksMatchSpecSpec).preRow enc Tryd.prog Tryd.f8 Rows.replyChecksMatchSpecRow.domain false Rows.replyChecksMatchSpecRow.laid) (((OpenSpec.ofChange Rows.replyChecksMatchSpecSpec).at F).post enc Tryd.prog Tryd.f8 false true false false) := by
  obtain ⟨places, hx⟩ := reads os enc
  refine returnsInHanded_of_row (C := Tryd.checked) (s := OpenSpec.ofChange Rows.replyChecksMatchSpecSpec) own started (by kernel_rfl) Tryd.func8
    (witness_row_at (enc := enc) (C := Tryd.checked) false (laidWorld os) #[.agg #[Value.string ⟨#[]⟩, Value.int .i64 0, Value.slice none 0 0]] rfl (by kernel_rfl) (by kernel_rfl) (by kernel_rfl)
      (OpenSpec.preRow_of_cond 8 hx (by kernel_rfl) (fun k hk => by cases hk) (by kernel_rfl) (laid_met os))) ?_
  intro W base args ds gs before hval hW _ _ hsz hL _ _
  exact contract H enc W base args ds gs before hval hW hsz hL
theorem proved : Rows.ReplyChecksMatchSpecSaid :=
  OpenClaim.holds_of_cond 8 Tryd.f8 rfl rfl rfl rfl rfl rfl rfl ⟨rfl, rfl, rfl, rfl, rfl⟩ rfl rfl rfl rfl rfl (by kernel_rfl) Tryd.func8 (by kernel_rfl)
    (of_decide_eq_true (by kernel_rfl)) (by unfold Func.isWrapper; first | (rw [if_pos (by decide +kernel)]; kernel_rfl) | (rw [if_neg (by decide +kernel)]; exact ⟨rfl, rfl⟩))
    (fun os started H enc _ F => by rw [OpenClaim.pre_eq_preRow]; exact lifted os started H enc F)
/-- No parameter wants a stand-in; the program's own looks are off: what the card asks. -/
theorem plain (f : FuncId) (fn : Func) (hf : Tryd.pinned.checked.prog.funcNamed "interchange/interchangelaw7.ReplyChecksMatchSpec" = some f) (hfn : Tryd.pinned.checked.prog.funcs[f]? = some fn) :
    false = Tryd.pinned.checked.prog.looks [] ∧ ∀ (j : Nat) t, fn.params[j]? = some t → Tryd.pinned.checked.prog.wantsStandIn t = false := by
  obtain rfl : f = 8 := Option.some.inj ((show Tryd.prog.funcNamed "interchange/interchangelaw7.ReplyChecksMatchSpec" = some 8 by kernel_rfl).symm.trans hf) |>.symm
  obtain rfl : fn = Tryd.f8 := (Option.some.inj (Tryd.func8.symm.trans hfn)).symm
  refine ⟨by kernel_rfl, fun j t ht => ?_⟩
  rw [Tryd.params8] at ht
  have hm : t ∈ (#[57] : Array TypeId) := Array.mem_of_getElem? ht
  have hall : ∀ t ∈ (#[57] : Array TypeId), Tryd.prog.wantsStandIn t = false := by
    intro t ht
    simp only [List.mem_toArray, List.mem_cons, List.not_mem_nil, or_false] at ht
    rcases ht with rfl
    · exact (show Tryd.prog.wantsStandIn 57 = false by kernel_rfl)
  exact hall t hm
theorem card : Rows.ReplyChecksMatchSpecCardSaid :=
  Claim7.holds_tied_plain_at .later [] _ _ _ _ proved (fun _ h => by cases h) (by kernel_rfl) (fun _ h => by cases h) replyChecksMatchSpec_row_tie rfl ⟨rfl, rfl⟩ (by kernel_rfl) rfl plain (by kernel_rfl)
end Go.Proofs.YtlhbonpdlghlbaaDoor.replyChecksMatchSpec
namespace Go.Proofs.YtlhbonpdlghlbaaDoor
/-- The row, under a short name, for the claim. -/
theorem replyChecksMatchSpec_holds : Rows.ReplyChecksMatchSpecCardSaid := replyChecksMatchSpec.card
end Go.Proofs.YtlhbonpdlghlbaaDoor
#print axioms Go.Proofs.YtlhbonpdlghlbaaDoor.replyChecksMatchSpec_holds
