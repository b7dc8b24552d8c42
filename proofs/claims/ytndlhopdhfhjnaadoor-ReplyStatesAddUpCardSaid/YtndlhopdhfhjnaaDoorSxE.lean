import Derived.Test.YtndlhopdhfhjnaaDoorSxShelf
import Derived.WalkKit
import Derived.Test.YtndlhopdhfhjnaaDoorProg
import Derived.Test.YtndlhopdhfhjnaaDoorShelf
set_option linter.unusedVariables false
set_option linter.unusedSimpArgs false
namespace Go.Sx
open Go.Proofs
set_option maxRecDepth 100000
def TL : List (Nat × TyI) := [(3, ⟨false, [.int .i64], [], 8, false, none⟩), (4, ⟨false, [.bool], [], 1, false, none⟩), (5, ⟨false, [.int .u8], [], 1, false, none⟩), (9, ⟨false, [.str], [], 16, false, none⟩), (22, ⟨false, [.sl 30], [], 24, false, none⟩), (23, ⟨false, [.sl 32], [], 24, false, none⟩), (24, ⟨false, [.sl 3], [], 24, false, none⟩), (25, ⟨false, [.int .i64], [], 8, false, none⟩), (30, ⟨true, [.int .i64, .int .i64, .int .i64, .str, .int .i64], [(0, 3), (1, 3), (2, 3), (3, 9), (4, 3)], 48, false, none⟩), (32, ⟨true, [.str, .int .i64, .int .i64, .int .i64, .int .i64], [(0, 9), (1, 3), (2, 3), (3, 3), (4, 3)], 48, true, none⟩), (35, ⟨true, [.int .i64, .int .i64, .int .i64, .int .i64, .int .i64, .int .i64], [(0, 3), (1, 3), (2, 3), (3, 3), (4, 3), (5, 3)], 48, true, none⟩), (38, ⟨true, [.int .i64, .int .i64, .int .i64, .int .i64], [], 32, false, some 3⟩), (72, ⟨false, [.map 9 24], [], 8, false, none⟩)]
theorem TOKp : TOK Tryd.prog (tyTab TL) := tok_of (by kernel_rfl)
theorem EOKp : EOK Tryd.prog (tyTab TL) := eok_of (show ∀ t ∈ [32, 35], EqOK Tryd.prog (tyTab TL) t from (List.forall_mem_cons.2 ⟨eqOK_of Tryd.stoodInHeld32 Tryd.eqGuardType32 (by kernel_rfl), (List.forall_mem_cons.2 ⟨eqOK_of Tryd.stoodInHeld35 Tryd.eqGuardType35 (by kernel_rfl), (fun _ h => nomatch h)⟩)⟩))
theorem MIXp : Tryd.prog.follows .mixedOrders = true := by kernel_rfl
/-- strings.Trim: by the shelf -/
def F51 := trimK.f
def K51 : Callee := trimK
theorem T51 : FunOK Tryd.prog (tyTab TL) 51 K51 := trim_ok Tryd.lays160 (by kernel_rfl) Tryd.func51 (of_decide_eq_false (by kernel_rfl)) (Option.isSome_iff_ne_none.1 (by kernel_rfl))
def B17x0 (k0 : Nat) (rec1 : List D → Option (List D)) (ds2 : List D) : Option (List D) :=
 bif decide ((gt ds2 3).i < (gt ds2 2).i) then
  bif ((inRow ((gt ds2 3).i) (((gt ds2 0).r).length)) && true) then
   bif ((inRow ((gt ds2 3).i) (((gt ds2 1).r).length)) && true) then
    bif (!((((elAt ((gt ds2 0).r) ((gt ds2 3).i)).c 0).s == ((elAt ((gt ds2 1).r) ((gt ds2 3).i)).c 0).s) && ((((elAt ((gt ds2 0).r) ((gt ds2 3).i)).c 1).i == ((elAt ((gt ds2 1).r) ((gt ds2 3).i)).c 1).i) && ((((elAt ((gt ds2 0).r) ((gt ds2 3).i)).c 2).i == ((elAt ((gt ds2 1).r) ((gt ds2 3).i)).c 2).i) && ((((elAt ((gt ds2 0).r) ((gt ds2 3).i)).c 3).i == ((elAt ((gt ds2 1).r) ((gt ds2 3).i)).c 3).i) && ((((elAt ((gt ds2 0).r) ((gt ds2 3).i)).c 4).i == ((elAt ((gt ds2 1).r) ((gt ds2 3).i)).c 4).i) && true)))))) then
     some [D.bool false]
    else rec1 [D.row ((gt ds2 0).r), D.row ((gt ds2 1).r), D.int ((gt ds2 2).i), D.int (Go.IntKind.i64.wrap ((gt ds2 3).i + 1))]
   else none
  else none
 else some [D.bool true]
/-- slices.Equal[[]interchange/api.Sending,interchange/api.Sending] -/
def F17 (k : Nat) (ds : List D) : Option (List D) :=
 bif ((((gt ds 0).r).length : Int) != (((gt ds 1).r).length : Int)) then
  some [D.bool false]
 else iter B17x0 k [D.row ((gt ds 0).r), D.row ((gt ds 1).r), D.int (((gt ds 0).r).length : Int), D.int 0]
def K17 : Callee := ⟨[.seen 32, .seen 32], [.bool], F17⟩
noncomputable def C17 : Code := match Tryd.f17.body with | some c => c | none => .skip
theorem T17 : FunOK Tryd.prog (tyTab TL) 17 K17 :=
 fun_ok (loops := lkup [(4, ⟨[], [(0, .srow 32), (1, .srow 32), (12, .int .i64), (13, .int .i64)]⟩)]) (joins := lkup []) (md := mdL []) (L := []) (res := [.tmp 4]) (code := C17) (fn := Tryd.f17) TOKp EOKp MIXp lkup_nil Tryd.func17 (by kernel_rfl) (by kernel_rfl) (of_decide_eq_false (by kernel_rfl)) (by kernel_rfl) (fun k ds => by kernel_rfl)
def B18x0 (k0 : Nat) (rec1 : List D → Option (List D)) (ds2 : List D) : Option (List D) :=
 bif decide ((gt ds2 3).i < (gt ds2 2).i) then
  bif ((inRow ((gt ds2 3).i) (((gt ds2 0).r).length)) && true) then
   bif ((inRow ((gt ds2 3).i) (((gt ds2 1).r).length)) && true) then
    bif ((elAt ((gt ds2 0).r) ((gt ds2 3).i)).i != (elAt ((gt ds2 1).r) ((gt ds2 3).i)).i) then
     some [D.bool false]
    else rec1 [D.row ((gt ds2 0).r), D.row ((gt ds2 1).r), D.int ((gt ds2 2).i), D.int (Go.IntKind.i64.wrap ((gt ds2 3).i + 1))]
   else none
  else none
 else some [D.bool true]
/-- slices.Equal[[]int,int] -/
def F18 (k : Nat) (ds : List D) : Option (List D) :=
 bif ((((gt ds 0).r).length : Int) != (((gt ds 1).r).length : Int)) then
  some [D.bool false]
 else iter B18x0 k [D.row ((gt ds 0).r), D.row ((gt ds 1).r), D.int (((gt ds 0).r).length : Int), D.int 0]
def K18 : Callee := ⟨[.seen 3, .seen 3], [.bool], F18⟩
noncomputable def C18 : Code := match Tryd.f18.body with | some c => c | none => .skip
theorem T18 : FunOK Tryd.prog (tyTab TL) 18 K18 :=
 fun_ok (loops := lkup [(4, ⟨[], [(0, .srow 3), (1, .srow 3), (12, .int .i64), (13, .int .i64)]⟩)]) (joins := lkup []) (md := mdL []) (L := []) (res := [.tmp 4]) (code := C18) (fn := Tryd.f18) TOKp EOKp MIXp lkup_nil Tryd.func18 (by kernel_rfl) (by kernel_rfl) (of_decide_eq_false (by kernel_rfl)) (by kernel_rfl) (fun k ds => by kernel_rfl)
def B27x0 (k0 : Nat) (rec1 : List D → Option (List D)) (ds2 : List D) : Option (List D) :=
 bif decide ((gt ds2 2).i < (gt ds2 1).i) then
  (bif ((inRow ((gt ds2 2).i) (((gt ds2 0).r).length)) && true) then
    bif (((elAt ((gt ds2 0).r) ((gt ds2 2).i)).c 0).i == 1) then
     bif decide ((ByteArray.size (((elAt ((gt ds2 0).r) ((gt ds2 2).i)).c 3).s)) ≤ 9223372036854775807) then
      bif (needOk (((mGet ((gt ds2 5).r) (((elAt ((gt ds2 0).r) ((gt ds2 2).i)).c 3).s) (D.row [])).r).length + [D.int (((gt ds2 3).r).length : Int)].length) 8) then
       bif decide ((ByteArray.size (((elAt ((gt ds2 0).r) ((gt ds2 2).i)).c 3).s)) ≤ 9223372036854775807) then
        bif ((Nat.blt (((gt ds2 5).r).length) 9223372036854775807) && ((ByteArray.toList (((elAt ((gt ds2 0).r) ((gt ds2 2).i)).c 3).s)) == (ByteArray.toList (((elAt ((gt ds2 0).r) ((gt ds2 2).i)).c 3).s)))) then
         bif (needOk (((gt ds2 3).r).length + [D.agg [D.str (((elAt ((gt ds2 0).r) ((gt ds2 2).i)).c 3).s), D.int (((elAt ((gt ds2 0).r) ((gt ds2 2).i)).c 1).i), D.int (((elAt ((gt ds2 0).r) ((gt ds2 2).i)).c 2).i), D.int (-1), D.int 0]].length) 48) then
          some [D.row ((gt ds2 0).r), D.int ((gt ds2 1).i), D.int ((gt ds2 2).i), D.row ((gt ds2 3).r ++ [D.agg [D.str (((elAt ((gt ds2 0).r) ((gt ds2 2).i)).c 3).s), D.int (((elAt ((gt ds2 0).r) ((gt ds2 2).i)).c 1).i), D.int (((elAt ((gt ds2 0).r) ((gt ds2 2).i)).c 2).i), D.int (-1), D.int 0]]), D.row ((gt ds2 4).r), D.row (mPut ((gt ds2 5).r) (((elAt ((gt ds2 0).r) ((gt ds2 2).i)).c 3).s) (D.row ((mGet ((gt ds2 5).r) (((elAt ((gt ds2 0).r) ((gt ds2 2).i)).c 3).s) (D.row [])).r ++ [D.int (((gt ds2 3).r).length : Int)])))]
         else none
        else none
       else none
      else none
     else none
    else bif decide ((ByteArray.size (((elAt ((gt ds2 0).r) ((gt ds2 2).i)).c 3).s)) ≤ 9223372036854775807) then
     bif ((((mGet ((gt ds2 5).r) (((elAt ((gt ds2 0).r) ((gt ds2 2).i)).c 3).s) (D.row [])).r).length : Int) == 0) then
      bif (needOk (((gt ds2 4).r).length + [D.int ((gt ds2 2).i)].length) 8) then
       some [D.row ((gt ds2 0).r), D.int ((gt ds2 1).i), D.int ((gt ds2 2).i), D.row ((gt ds2 3).r), D.row ((gt ds2 4).r ++ [D.int ((gt ds2 2).i)]), D.row (bif (mHas ((gt ds2 5).r) (((elAt ((gt ds2 0).r) ((gt ds2 2).i)).c 3).s)) then
        (mPut ((gt ds2 5).r) (((elAt ((gt ds2 0).r) ((gt ds2 2).i)).c 3).s) (D.row ((mGet ((gt ds2 5).r) (((elAt ((gt ds2 0).r) ((gt ds2 2).i)).c 3).s) (D.row [])).r)))
       else (gt ds2 5).r)]
      else none
     else bif ((inRow (Go.IntKind.i64.wrap ((((mGet ((gt ds2 5).r) (((elAt ((gt ds2 0).r) ((gt ds2 2).i)).c 3).s) (D.row [])).r).length : Int) - 1)) (((mGet ((gt ds2 5).r) (((elAt ((gt ds2 0).r) ((gt ds2 2).i)).c 3).s) (D.row [])).r).length)) && true) then
      bif ((inRow ((elAt ((mGet ((gt ds2 5).r) (((elAt ((gt ds2 0).r) ((gt ds2 2).i)).c 3).s) (D.row [])).r) (Go.IntKind.i64.wrap ((((mGet ((gt ds2 5).r) (((elAt ((gt ds2 0).r) ((gt ds2 2).i)).c 3).s) (D.row [])).r).length : Int) - 1))).i) (((gt ds2 3).r).length)) && true) then
       bif (decide (0 ≤ (Go.IntKind.i64.wrap ((((mGet ((gt ds2 5).r) (((elAt ((gt ds2 0).r) ((gt ds2 2).i)).c 3).s) (D.row [])).r).length : Int) - 1))) && decide ((Go.IntKind.i64.wrap ((((mGet ((gt ds2 5).r) (((elAt ((gt ds2 0).r) ((gt ds2 2).i)).c 3).s) (D.row [])).r).length : Int) - 1)) ≤ (((mGet ((gt ds2 5).r) (((elAt ((gt ds2 0).r) ((gt ds2 2).i)).c 3).s) (D.row [])).r).length : Int))) then
        bif decide ((ByteArray.size (((elAt ((gt ds2 0).r) ((gt ds2 2).i)).c 3).s)) ≤ 9223372036854775807) then
         bif ((Nat.blt (((gt ds2 5).r).length) 9223372036854775807) && ((ByteArray.toList (((elAt ((gt ds2 0).r) ((gt ds2 2).i)).c 3).s)) == (ByteArray.toList (((elAt ((gt ds2 0).r) ((gt ds2 2).i)).c 3).s)))) then
          some [D.row ((gt ds2 0).r), D.int ((gt ds2 1).i), D.int ((gt ds2 2).i), D.row (List.set (List.set ((gt ds2 3).r) (Int.toNat ((elAt ((mGet ((gt ds2 5).r) (((elAt ((gt ds2 0).r) ((gt ds2 2).i)).c 3).s) (D.row [])).r) (Go.IntKind.i64.wrap ((((mGet ((gt ds2 5).r) (((elAt ((gt ds2 0).r) ((gt ds2 2).i)).c 3).s) (D.row [])).r).length : Int) - 1))).i)) (D.agg [((elAt ((gt ds2 3).r) ((elAt ((mGet ((gt ds2 5).r) (((elAt ((gt ds2 0).r) ((gt ds2 2).i)).c 3).s) (D.row [])).r) (Go.IntKind.i64.wrap ((((mGet ((gt ds2 5).r) (((elAt ((gt ds2 0).r) ((gt ds2 2).i)).c 3).s) (D.row [])).r).length : Int) - 1))).i)).c 0), ((elAt ((gt ds2 3).r) ((elAt ((mGet ((gt ds2 5).r) (((elAt ((gt ds2 0).r) ((gt ds2 2).i)).c 3).s) (D.row [])).r) (Go.IntKind.i64.wrap ((((mGet ((gt ds2 5).r) (((elAt ((gt ds2 0).r) ((gt ds2 2).i)).c 3).s) (D.row [])).r).length : Int) - 1))).i)).c 1), ((elAt ((gt ds2 3).r) ((elAt ((mGet ((gt ds2 5).r) (((elAt ((gt ds2 0).r) ((gt ds2 2).i)).c 3).s) (D.row [])).r) (Go.IntKind.i64.wrap ((((mGet ((gt ds2 5).r) (((elAt ((gt ds2 0).r) ((gt ds2 2).i)).c 3).s) (D.row [])).r).length : Int) - 1))).i)).c 2), D.int (((elAt ((gt ds2 0).r) ((gt ds2 2).i)).c 1).i), ((elAt ((gt ds2 3).r) ((elAt ((mGet ((gt ds2 5).r) (((elAt ((gt ds2 0).r) ((gt ds2 2).i)).c 3).s) (D.row [])).r) (Go.IntKind.i64.wrap ((((mGet ((gt ds2 5).r) (((elAt ((gt ds2 0).r) ((gt ds2 2).i)).c 3).s) (D.row [])).r).length : Int) - 1))).i)).c 4)])) (Int.toNat ((elAt ((mGet ((gt ds2 5).r) (((elAt ((gt ds2 0).r) ((gt ds2 2).i)).c 3).s) (D.row [])).r) (Go.IntKind.i64.wrap ((((mGet ((gt ds2 5).r) (((elAt ((gt ds2 0).r) ((gt ds2 2).i)).c 3).s) (D.row [])).r).length : Int) - 1))).i)) (D.agg [((elAt (List.set ((gt ds2 3).r) (Int.toNat ((elAt ((mGet ((gt ds2 5).r) (((elAt ((gt ds2 0).r) ((gt ds2 2).i)).c 3).s) (D.row [])).r) (Go.IntKind.i64.wrap ((((mGet ((gt ds2 5).r) (((elAt ((gt ds2 0).r) ((gt ds2 2).i)).c 3).s) (D.row [])).r).length : Int) - 1))).i)) (D.agg [((elAt ((gt ds2 3).r) ((elAt ((mGet ((gt ds2 5).r) (((elAt ((gt ds2 0).r) ((gt ds2 2).i)).c 3).s) (D.row [])).r) (Go.IntKind.i64.wrap ((((mGet ((gt ds2 5).r) (((elAt ((gt ds2 0).r) ((gt ds2 2).i)).c 3).s) (D.row [])).r).length : Int) - 1))).i)).c 0), ((elAt ((gt ds2 3).r) ((elAt ((mGet ((gt ds2 5).r) (((elAt ((gt ds2 0).r) ((gt ds2 2).i)).c 3).s) (D.row [])).r) (Go.IntKind.i64.wrap ((((mGet ((gt ds2 5).r) (((elAt ((gt ds2 0).r) ((gt ds2 2).i)).c 3).s) (D.row [])).r).length : Int) - 1))).i)).c 1), ((elAt ((gt ds2 3).r) ((elAt ((mGet ((gt ds2 5).r) (((elAt ((gt ds2 0).r) ((gt ds2 2).i)).c 3).s) (D.row [])).r) (Go.IntKind.i64.wrap ((((mGet ((gt ds2 5).r) (((elAt ((gt ds2 0).r) ((gt ds2 2).i)).c 3).s) (D.row [])).r).length : Int) - 1))).i)).c 2), D.int (((elAt ((gt ds2 0).r) ((gt ds2 2).i)).c 1).i), ((elAt ((gt ds2 3).r) ((elAt ((mGet ((gt ds2 5).r) (((elAt ((gt ds2 0).r) ((gt ds2 2).i)).c 3).s) (D.row [])).r) (Go.IntKind.i64.wrap ((((mGet ((gt ds2 5).r) (((elAt ((gt ds2 0).r) ((gt ds2 2).i)).c 3).s) (D.row [])).r).length : Int) - 1))).i)).c 4)])) ((elAt ((mGet ((gt ds2 5).r) (((elAt ((gt ds2 0).r) ((gt ds2 2).i)).c 3).s) (D.row [])).r) (Go.IntKind.i64.wrap ((((mGet ((gt ds2 5).r) (((elAt ((gt ds2 0).r) ((gt ds2 2).i)).c 3).s) (D.row [])).r).length : Int) - 1))).i)).c 0), ((elAt (List.set ((gt ds2 3).r) (Int.toNat ((elAt ((mGet ((gt ds2 5).r) (((elAt ((gt ds2 0).r) ((gt ds2 2).i)).c 3).s) (D.row [])).r) (Go.IntKind.i64.wrap ((((mGet ((gt ds2 5).r) (((elAt ((gt ds2 0).r) ((gt ds2 2).i)).c 3).s) (D.row [])).r).length : Int) - 1))).i)) (D.agg [((elAt ((gt ds2 3).r) ((elAt ((mGet ((gt ds2 5).r) (((elAt ((gt ds2 0).r) ((gt ds2 2).i)).c 3).s) (D.row [])).r) (Go.IntKind.i64.wrap ((((mGet ((gt ds2 5).r) (((elAt ((gt ds2 0).r) ((gt ds2 2).i)).c 3).s) (D.row [])).r).length : Int) - 1))).i)).c 0), ((elAt ((gt ds2 3).r) ((elAt ((mGet ((gt ds2 5).r) (((elAt ((gt ds2 0).r) ((gt ds2 2).i)).c 3).s) (D.row [])).r) (Go.IntKind.i64.wrap ((((mGet ((gt ds2 5).r) (((elAt ((gt ds2 0).r) ((gt ds2 2).i)).c 3).s) (D.row [])).r).length : Int) - 1))).i)).c 1), ((elAt ((gt ds2 3).r) ((elAt ((mGet ((gt ds2 5).r) (((elAt ((gt ds2 0).r) ((gt ds2 2).i)).c 3).s) (D.row [])).r) (Go.IntKind.i64.wrap ((((mGet ((gt ds2 5).r) (((elAt ((gt ds2 0).r) ((gt ds2 2).i)).c 3).s) (D.row [])).r).length : Int) - 1))).i)).c 2), D.int (((elAt ((gt ds2 0).r) ((gt ds2 2).i)).c 1).i), ((elAt ((gt ds2 3).r) ((elAt ((mGet ((gt ds2 5).r) (((elAt ((gt ds2 0).r) ((gt ds2 2).i)).c 3).s) (D.row [])).r) (Go.IntKind.i64.wrap ((((mGet ((gt ds2 5).r) (((elAt ((gt ds2 0).r) ((gt ds2 2).i)).c 3).s) (D.row [])).r).length : Int) - 1))).i)).c 4)])) ((elAt ((mGet ((gt ds2 5).r) (((elAt ((gt ds2 0).r) ((gt ds2 2).i)).c 3).s) (D.row [])).r) (Go.IntKind.i64.wrap ((((mGet ((gt ds2 5).r) (((elAt ((gt ds2 0).r) ((gt ds2 2).i)).c 3).s) (D.row [])).r).length : Int) - 1))).i)).c 1), ((elAt (List.set ((gt ds2 3).r) (Int.toNat ((elAt ((mGet ((gt ds2 5).r) (((elAt ((gt ds2 0).r) ((gt ds2 2).i)).c 3).s) (D.row [])).r) (Go.IntKind.i64.wrap ((((mGet ((gt ds2 5).r) (((elAt ((gt ds2 0).r) ((gt ds2 2).i)).c 3).s) (D.row [])).r).length : Int) - 1))).i)) (D.agg [((elAt ((gt ds2 3).r) ((elAt ((mGet ((gt ds2 5).r) (((elAt ((gt ds2 0).r) ((gt ds2 2).i)).c 3).s) (D.row [])).r) (Go.IntKind.i64.wrap ((((mGet ((gt ds2 5).r) (((elAt ((gt ds2 0).r) ((gt ds2 2).i)).c 3).s) (D.row [])).r).length : Int) - 1))).i)).c 0), ((elAt ((gt ds2 3).r) ((elAt ((mGet ((gt ds2 5).r) (((elAt ((gt ds2 0).r) ((gt ds2 2).i)).c 3).s) (D.row [])).r) (Go.IntKind.i64.wrap ((((mGet ((gt ds2 5).r) (((elAt ((gt ds2 0).r) ((gt ds2 2).i)).c 3).s) (D.row [])).r).length : Int) - 1))).i)).c 1), ((elAt ((gt ds2 3).r) ((elAt ((mGet ((gt ds2 5).r) (((elAt ((gt ds2 0).r) ((gt ds2 2).i)).c 3).s) (D.row [])).r) (Go.IntKind.i64.wrap ((((mGet ((gt ds2 5).r) (((elAt ((gt ds2 0).r) ((gt ds2 2).i)).c 3).s) (D.row [])).r).length : Int) - 1))).i)).c 2), D.int (((elAt ((gt ds2 0).r) ((gt ds2 2).i)).c 1).i), ((elAt ((gt ds2 3).r) ((elAt ((mGet ((gt ds2 5).r) (((elAt ((gt ds2 0).r) ((gt ds2 2).i)).c 3).s) (D.row [])).r) (Go.IntKind.i64.wrap ((((mGet ((gt ds2 5).r) (((elAt ((gt ds2 0).r) ((gt ds2 2).i)).c 3).s) (D.row [])).r).length : Int) - 1))).i)).c 4)])) ((elAt ((mGet ((gt ds2 5).r) (((elAt ((gt ds2 0).r) ((gt ds2 2).i)).c 3).s) (D.row [])).r) (Go.IntKind.i64.wrap ((((mGet ((gt ds2 5).r) (((elAt ((gt ds2 0).r) ((gt ds2 2).i)).c 3).s) (D.row [])).r).length : Int) - 1))).i)).c 2), ((elAt (List.set ((gt ds2 3).r) (Int.toNat ((elAt ((mGet ((gt ds2 5).r) (((elAt ((gt ds2 0).r) ((gt ds2 2).i)).c 3).s) (D.row [])).r) (Go.IntKind.i64.wrap ((((mGet ((gt ds2 5).r) (((elAt ((gt ds2 0).r) ((gt ds2 2).i)).c 3).s) (D.row [])).r).length : Int) - 1))).i)) (D.agg [((elAt ((gt ds2 3).r) ((elAt ((mGet ((gt ds2 5).r) (((elAt ((gt ds2 0).r) ((gt ds2 2).i)).c 3).s) (D.row [])).r) (Go.IntKind.i64.wrap ((((mGet ((gt ds2 5).r) (((elAt ((gt ds2 0).r) ((gt ds2 2).i)).c 3).s) (D.row [])).r).length : Int) - 1))).i)).c 0), ((elAt ((gt ds2 3).r) ((elAt ((mGet ((gt ds2 5).r) (((elAt ((gt ds2 0).r) ((gt ds2 2).i)).c 3).s) (D.row [])).r) (Go.IntKind.i64.wrap ((((mGet ((gt ds2 5).r) (((elAt ((gt ds2 0).r) ((gt ds2 2).i)).c 3).s) (D.row [])).r).length : Int) - 1))).i)).c 1), ((elAt ((gt ds2 3).r) ((elAt ((mGet ((gt ds2 5).r) (((elAt ((gt ds2 0).r) ((gt ds2 2).i)).c 3).s) (D.row [])).r) (Go.IntKind.i64.wrap ((((mGet ((gt ds2 5).r) (((elAt ((gt ds2 0).r) ((gt ds2 2).i)).c 3).s) (D.row [])).r).length : Int) - 1))).i)).c 2), D.int (((elAt ((gt ds2 0).r) ((gt ds2 2).i)).c 1).i), ((elAt ((gt ds2 3).r) ((elAt ((mGet ((gt ds2 5).r) (((elAt ((gt ds2 0).r) ((gt ds2 2).i)).c 3).s) (D.row [])).r) (Go.IntKind.i64.wrap ((((mGet ((gt ds2 5).r) (((elAt ((gt ds2 0).r) ((gt ds2 2).i)).c 3).s) (D.row [])).r).length : Int) - 1))).i)).c 4)])) ((elAt ((mGet ((gt ds2 5).r) (((elAt ((gt ds2 0).r) ((gt ds2 2).i)).c 3).s) (D.row [])).r) (Go.IntKind.i64.wrap ((((mGet ((gt ds2 5).r) (((elAt ((gt ds2 0).r) ((gt ds2 2).i)).c 3).s) (D.row [])).r).length : Int) - 1))).i)).c 3), D.int (((elAt ((gt ds2 0).r) ((gt ds2 2).i)).c 4).i)])), D.row ((gt ds2 4).r), D.row (mPut ((gt ds2 5).r) (((elAt ((gt ds2 0).r) ((gt ds2 2).i)).c 3).s) (D.row (List.take (Int.toNat (Go.IntKind.i64.wrap ((((mGet ((gt ds2 5).r) (((elAt ((gt ds2 0).r) ((gt ds2 2).i)).c 3).s) (D.row [])).r).length : Int) - 1))) ((mGet ((gt ds2 5).r) (((elAt ((gt ds2 0).r) ((gt ds2 2).i)).c 3).s) (D.row [])).r))))]
         else none
        else none
       else none
      else none
     else none
    else none
   else none).bind fun ds3 =>
  rec1 [D.row ((gt ds3 0).r), D.int ((gt ds3 1).i), D.int (Go.IntKind.i64.wrap ((gt ds3 2).i + 1)), D.row ((gt ds3 3).r), D.row ((gt ds3 4).r), D.row ((gt ds3 5).r)]
 else some [D.row ((gt ds2 3).r), D.row ((gt ds2 4).r)]
/-- interchange/reply.book -/
def F27 (k : Nat) (ds : List D) : Option (List D) :=
 iter B27x0 k [D.row ((gt ds 0).r), D.int (((gt ds 0).r).length : Int), D.int 0, D.row [], D.row [], D.row []]
def K27 : Callee := ⟨[.seen 30], [.own 32, .own 3], F27⟩
noncomputable def C27 : Code := match Tryd.f27.body with | some c => c | none => .skip
theorem T27 : FunOK Tryd.prog (tyTab TL) 27 K27 :=
 fun_ok (loops := lkup [(5, ⟨[.row 32 false, .row 3 false, .map 3 true], [(4, .orow 0), (5, .orow 1), (6, .mapr 2), (12, .srow 30), (13, .int .i64), (14, .int .i64)]⟩)]) (joins := lkup [(32, .full ⟨[.row 32 false, .row 3 false, .map 3 true], [(4, .orow 0), (5, .orow 1), (6, .mapr 2), (12, .srow 30), (13, .int .i64), (14, .int .i64)]⟩)]) (md := mdL [(15, 7, 1)]) (L := []) (res := [.tmp 2, .tmp 3]) (code := C27) (fn := Tryd.f27) TOKp EOKp MIXp lkup_nil Tryd.func27 (by kernel_rfl) (by kernel_rfl) (of_decide_eq_false (by kernel_rfl)) (by kernel_rfl) (fun k ds => by kernel_rfl)
def B29x0 (k0 : Nat) (rec1 : List D → Option (List D)) (ds2 : List D) : Option (List D) :=
 (bif decide ((gt ds2 2).i < (((gt ds2 0).r).length : Int)) then
   bif ((inRow ((gt ds2 2).i) (((gt ds2 0).r).length)) && true) then
    some [D.bool (decide (((elAt ((gt ds2 0).r) ((gt ds2 2).i)).c 1).i ≤ (gt ds2 1).i))]
   else none
  else some [D.bool false]).bind fun ds3 =>
 bif (gt ds3 0).b then
  rec1 [D.row ((gt ds2 0).r), D.int ((gt ds2 1).i), D.int (Go.IntKind.i64.wrap ((gt ds2 2).i + 1))]
 else bif (decide (0 ≤ (gt ds2 2).i) && decide ((gt ds2 2).i ≤ (((gt ds2 0).r).length : Int))) then
  (F27 k0 [D.row (List.drop 0 (List.take (Int.toNat ((gt ds2 2).i)) ((gt ds2 0).r)))]).bind fun ds4 =>
  some [D.row ((gt ds4 0).r)]
 else none
/-- interchange/reply.at -/
def F29 (k : Nat) (ds : List D) : Option (List D) :=
 iter B29x0 k [D.row ((gt ds 0).r), D.int ((gt ds 1).i), D.int 0]
def K29 : Callee := ⟨[.seen 30, .int .i64], [.own 32], F29⟩
noncomputable def C29 : Code := match Tryd.f29.body with | some c => c | none => .skip
theorem T29 : FunOK Tryd.prog (tyTab TL) 29 K29 :=
 fun_ok (loops := lkup [(2, ⟨[], [(0, .srow 30), (1, .int .i64), (5, .int .i64)]⟩)]) (joins := lkup [(5, .light [(20, .bool)])]) (md := mdL []) (L := [(27, K27)]) (res := [.tmp 4]) (code := C29) (fn := Tryd.f29) TOKp EOKp MIXp (lkup_cons T27 lkup_nil) Tryd.func29 (by kernel_rfl) (by kernel_rfl) (of_decide_eq_false (by kernel_rfl)) (by kernel_rfl) (fun k ds => by kernel_rfl)
/-- interchange/reply.stateOf -/
def F30 (k : Nat) (ds : List D) : Option (List D) :=
 bif decide ((gt ds 3).i ≥ 0) then
  some [D.int 3]
 else bif decide ((gt ds 5).i > (gt ds 2).i) then
  some [D.int 2]
 else some [D.int 1]
def K30 : Callee := ⟨[.agg [.str, .int .i64, .int .i64, .int .i64, .int .i64], .int .i64], [.int .i64], F30⟩
noncomputable def C30 : Code := match Tryd.f30.body with | some c => c | none => .skip
theorem T30 : FunOK Tryd.prog (tyTab TL) 30 K30 :=
 fun_ok (loops := lkup []) (joins := lkup []) (md := mdL []) (L := []) (res := [.tmp 4]) (code := C30) (fn := Tryd.f30) TOKp EOKp MIXp lkup_nil Tryd.func30 (by kernel_rfl) (by kernel_rfl) (of_decide_eq_false (by kernel_rfl)) (by kernel_rfl) (fun k ds => by kernel_rfl)
/-- interchange/kit.Outside -/
def F31 (k : Nat) (ds : List D) : Option (List D) :=
 bif decide ((gt ds 0).i < (gt ds 1).i) then
  some [D.bool true]
 else some [D.bool (decide ((gt ds 0).i > (gt ds 2).i))]
def K31 : Callee := ⟨[.int .i64, .int .i64, .int .i64], [.bool], F31⟩
noncomputable def C31 : Code := match Tryd.f31.body with | some c => c | none => .skip
theorem T31 : FunOK Tryd.prog (tyTab TL) 31 K31 :=
 fun_ok (loops := lkup []) (joins := lkup []) (md := mdL []) (L := []) (res := [.tmp 6]) (code := C31) (fn := Tryd.f31) TOKp EOKp MIXp lkup_nil Tryd.func31 (by kernel_rfl) (by kernel_rfl) (of_decide_eq_false (by kernel_rfl)) (by kernel_rfl) (fun k ds => by kernel_rfl)
def B32x0 (k3 : Nat) (rec4 : List D → Option (List D)) (ds5 : List D) : Option (List D) :=
 (bif decide ((gt ds5 3).i ≥ 0) then
   bif ((inRow ((gt ds5 3).i) (((gt ds5 4).r).length)) && true) then
    bif ((inRow ((gt ds5 2).i) (((gt ds5 0).r).length)) && true) then
     bif (!((ByteArray.toList (((elAt ((gt ds5 4).r) ((gt ds5 3).i)).c 0).s)) == (ByteArray.toList (((elAt ((gt ds5 0).r) ((gt ds5 2).i)).c 3).s)))) then
      some [D.bool true]
     else bif ((inRow ((gt ds5 3).i) (((gt ds5 4).r).length)) && true) then
      some [D.bool (decide (((elAt ((gt ds5 4).r) ((gt ds5 3).i)).c 3).i ≥ 0))]
     else none
    else none
   else none
  else some [D.bool false]).bind fun ds6 =>
 bif (gt ds6 0).b then
  rec4 [D.row ((gt ds5 0).r), D.int ((gt ds5 1).i), D.int ((gt ds5 2).i), D.int (Go.IntKind.i64.wrap ((gt ds5 3).i - 1)), D.row ((gt ds5 4).r), D.row ((gt ds5 5).r)]
 else bif decide ((gt ds5 3).i < 0) then
  bif (needOk (((gt ds5 5).r).length + [D.int ((gt ds5 2).i)].length) 8) then
   some [D.row ((gt ds5 0).r), D.int ((gt ds5 1).i), D.int ((gt ds5 2).i), D.row ((gt ds5 4).r), D.row ((gt ds5 5).r ++ [D.int ((gt ds5 2).i)])]
  else none
 else bif ((inRow ((gt ds5 2).i) (((gt ds5 0).r).length)) && true) then
  bif ((inRow ((gt ds5 2).i) (((gt ds5 0).r).length)) && true) then
   bif ((inRow ((gt ds5 3).i) (((gt ds5 4).r).length)) && true) then
    bif ((inRow ((gt ds5 3).i) ((List.set ((gt ds5 4).r) (Int.toNat ((gt ds5 3).i)) (D.agg [((elAt ((gt ds5 4).r) ((gt ds5 3).i)).c 0), ((elAt ((gt ds5 4).r) ((gt ds5 3).i)).c 1), ((elAt ((gt ds5 4).r) ((gt ds5 3).i)).c 2), D.int (((elAt ((gt ds5 0).r) ((gt ds5 2).i)).c 1).i), ((elAt ((gt ds5 4).r) ((gt ds5 3).i)).c 4)])).length)) && true) then
     some [D.row ((gt ds5 0).r), D.int ((gt ds5 1).i), D.int ((gt ds5 2).i), D.row (List.set (List.set ((gt ds5 4).r) (Int.toNat ((gt ds5 3).i)) (D.agg [((elAt ((gt ds5 4).r) ((gt ds5 3).i)).c 0), ((elAt ((gt ds5 4).r) ((gt ds5 3).i)).c 1), ((elAt ((gt ds5 4).r) ((gt ds5 3).i)).c 2), D.int (((elAt ((gt ds5 0).r) ((gt ds5 2).i)).c 1).i), ((elAt ((gt ds5 4).r) ((gt ds5 3).i)).c 4)])) (Int.toNat ((gt ds5 3).i)) (D.agg [((elAt (List.set ((gt ds5 4).r) (Int.toNat ((gt ds5 3).i)) (D.agg [((elAt ((gt ds5 4).r) ((gt ds5 3).i)).c 0), ((elAt ((gt ds5 4).r) ((gt ds5 3).i)).c 1), ((elAt ((gt ds5 4).r) ((gt ds5 3).i)).c 2), D.int (((elAt ((gt ds5 0).r) ((gt ds5 2).i)).c 1).i), ((elAt ((gt ds5 4).r) ((gt ds5 3).i)).c 4)])) ((gt ds5 3).i)).c 0), ((elAt (List.set ((gt ds5 4).r) (Int.toNat ((gt ds5 3).i)) (D.agg [((elAt ((gt ds5 4).r) ((gt ds5 3).i)).c 0), ((elAt ((gt ds5 4).r) ((gt ds5 3).i)).c 1), ((elAt ((gt ds5 4).r) ((gt ds5 3).i)).c 2), D.int (((elAt ((gt ds5 0).r) ((gt ds5 2).i)).c 1).i), ((elAt ((gt ds5 4).r) ((gt ds5 3).i)).c 4)])) ((gt ds5 3).i)).c 1), ((elAt (List.set ((gt ds5 4).r) (Int.toNat ((gt ds5 3).i)) (D.agg [((elAt ((gt ds5 4).r) ((gt ds5 3).i)).c 0), ((elAt ((gt ds5 4).r) ((gt ds5 3).i)).c 1), ((elAt ((gt ds5 4).r) ((gt ds5 3).i)).c 2), D.int (((elAt ((gt ds5 0).r) ((gt ds5 2).i)).c 1).i), ((elAt ((gt ds5 4).r) ((gt ds5 3).i)).c 4)])) ((gt ds5 3).i)).c 2), ((elAt (List.set ((gt ds5 4).r) (Int.toNat ((gt ds5 3).i)) (D.agg [((elAt ((gt ds5 4).r) ((gt ds5 3).i)).c 0), ((elAt ((gt ds5 4).r) ((gt ds5 3).i)).c 1), ((elAt ((gt ds5 4).r) ((gt ds5 3).i)).c 2), D.int (((elAt ((gt ds5 0).r) ((gt ds5 2).i)).c 1).i), ((elAt ((gt ds5 4).r) ((gt ds5 3).i)).c 4)])) ((gt ds5 3).i)).c 3), D.int (((elAt ((gt ds5 0).r) ((gt ds5 2).i)).c 4).i)])), D.row ((gt ds5 5).r)]
    else none
   else none
  else none
 else none
def B32x1 (k0 : Nat) (rec1 : List D → Option (List D)) (ds2 : List D) : Option (List D) :=
 bif decide ((gt ds2 2).i < (((gt ds2 0).r).length : Int)) then
  (bif ((inRow ((gt ds2 2).i) (((gt ds2 0).r).length)) && true) then
    bif decide (((elAt ((gt ds2 0).r) ((gt ds2 2).i)).c 1).i > (gt ds2 1).i) then
     some [D.row ((gt ds2 0).r), D.int ((gt ds2 1).i), D.int ((gt ds2 2).i), D.row ((gt ds2 3).r), D.row ((gt ds2 4).r)]
    else bif ((inRow ((gt ds2 2).i) (((gt ds2 0).r).length)) && true) then
     bif (((elAt ((gt ds2 0).r) ((gt ds2 2).i)).c 0).i == 1) then
      bif ((inRow ((gt ds2 2).i) (((gt ds2 0).r).length)) && true) then
       bif ((inRow ((gt ds2 2).i) (((gt ds2 0).r).length)) && true) then
        bif ((inRow ((gt ds2 2).i) (((gt ds2 0).r).length)) && true) then
         bif (needOk (((gt ds2 3).r).length + [D.agg [D.str (((elAt ((gt ds2 0).r) ((gt ds2 2).i)).c 3).s), D.int (((elAt ((gt ds2 0).r) ((gt ds2 2).i)).c 1).i), D.int (((elAt ((gt ds2 0).r) ((gt ds2 2).i)).c 2).i), D.int (-1), D.int 0]].length) 48) then
          some [D.row ((gt ds2 0).r), D.int ((gt ds2 1).i), D.int ((gt ds2 2).i), D.row ((gt ds2 3).r ++ [D.agg [D.str (((elAt ((gt ds2 0).r) ((gt ds2 2).i)).c 3).s), D.int (((elAt ((gt ds2 0).r) ((gt ds2 2).i)).c 1).i), D.int (((elAt ((gt ds2 0).r) ((gt ds2 2).i)).c 2).i), D.int (-1), D.int 0]]), D.row ((gt ds2 4).r)]
         else none
        else none
       else none
      else none
     else iter B32x0 k0 [D.row ((gt ds2 0).r), D.int ((gt ds2 1).i), D.int ((gt ds2 2).i), D.int (Go.IntKind.i64.wrap ((((gt ds2 3).r).length : Int) - 1)), D.row ((gt ds2 3).r), D.row ((gt ds2 4).r)]
    else none
   else none).bind fun ds7 =>
  rec1 [D.row ((gt ds7 0).r), D.int ((gt ds7 1).i), D.int (Go.IntKind.i64.wrap ((gt ds7 2).i + 1)), D.row ((gt ds7 3).r), D.row ((gt ds7 4).r)]
 else some [D.row ((gt ds2 3).r), D.row ((gt ds2 4).r)]
/-- interchange/interchangeref7.book -/
def F32 (k : Nat) (ds : List D) : Option (List D) :=
 iter B32x1 k [D.row ((gt ds 0).r), D.int ((gt ds 1).i), D.int 0, D.row [], D.row []]
def K32 : Callee := ⟨[.seen 30, .int .i64], [.own 32, .own 3], F32⟩
noncomputable def C32 : Code := match Tryd.f32.body with | some c => c | none => .skip
theorem T32 : FunOK Tryd.prog (tyTab TL) 32 K32 :=
 fun_ok (loops := lkup [(10, ⟨[.row 32 false, .row 3 false], [(0, .srow 30), (1, .int .i64), (6, .orow 0), (7, .orow 1), (8, .int .i64), (9, .int .i64)]⟩), (4, ⟨[.row 32 false, .row 3 false], [(0, .srow 30), (1, .int .i64), (6, .orow 0), (7, .orow 1), (8, .int .i64)]⟩)]) (joins := lkup [(21, .light [(73, .bool)]), (10, .full ⟨[.row 32 false, .row 3 false], [(0, .srow 30), (1, .int .i64), (6, .orow 0), (7, .orow 1), (8, .int .i64)]⟩)]) (md := mdL []) (L := []) (res := [.tmp 4, .tmp 5]) (code := C32) (fn := Tryd.f32) TOKp EOKp MIXp lkup_nil Tryd.func32 (by kernel_rfl) (by kernel_rfl) (of_decide_eq_false (by kernel_rfl)) (by kernel_rfl) (fun k ds => by kernel_rfl)
/-- interchange/interchangeref7.within -/
def F38 (k : Nat) (ds : List D) : Option (List D) :=
 bif decide ((gt ds 0).i ≥ (gt ds 1).i) then
  some [D.bool (decide ((gt ds 0).i ≤ (gt ds 2).i))]
 else some [D.bool false]
def K38 : Callee := ⟨[.int .i64, .int .i64, .int .i64], [.bool], F38⟩
noncomputable def C38 : Code := match Tryd.f38.body with | some c => c | none => .skip
theorem T38 : FunOK Tryd.prog (tyTab TL) 38 K38 :=
 fun_ok (loops := lkup []) (joins := lkup []) (md := mdL []) (L := []) (res := [.tmp 6]) (code := C38) (fn := Tryd.f38) TOKp EOKp MIXp lkup_nil Tryd.func38 (by kernel_rfl) (by kernel_rfl) (of_decide_eq_false (by kernel_rfl)) (by kernel_rfl) (fun k ds => by kernel_rfl)
def B41x0 (k0 : Nat) (rec1 : List D → Option (List D)) (ds2 : List D) : Option (List D) :=
 bif decide ((gt ds2 1).i < ((ByteArray.size ((gt ds2 0).s)) : Int)) then
  (bif (((inRow ((gt ds2 1).i) (ByteArray.size ((gt ds2 0).s))) && true) && true) then
    bif decide (((UInt8.toNat (List.getD (ByteArray.toList ((gt ds2 0).s)) (Int.toNat ((gt ds2 1).i)) 0)) : Int) ≥ 65) then
     bif (((inRow ((gt ds2 1).i) (ByteArray.size ((gt ds2 0).s))) && true) && true) then
      bif decide (((UInt8.toNat (List.getD (ByteArray.toList ((gt ds2 0).s)) (Int.toNat ((gt ds2 1).i)) 0)) : Int) ≤ 90) then
       some [D.bool false]
      else bif (((inRow ((gt ds2 1).i) (ByteArray.size ((gt ds2 0).s))) && true) && true) then
       bif decide (((UInt8.toNat (List.getD (ByteArray.toList ((gt ds2 0).s)) (Int.toNat ((gt ds2 1).i)) 0)) : Int) ≥ 48) then
        bif (((inRow ((gt ds2 1).i) (ByteArray.size ((gt ds2 0).s))) && true) && true) then
         bif decide (((UInt8.toNat (List.getD (ByteArray.toList ((gt ds2 0).s)) (Int.toNat ((gt ds2 1).i)) 0)) : Int) ≤ 57) then
          some [D.bool false]
         else bif (((inRow ((gt ds2 1).i) (ByteArray.size ((gt ds2 0).s))) && true) && true) then
          some [D.bool (!(((UInt8.toNat (List.getD (ByteArray.toList ((gt ds2 0).s)) (Int.toNat ((gt ds2 1).i)) 0)) : Int) == 45))]
         else none
        else none
       else bif (((inRow ((gt ds2 1).i) (ByteArray.size ((gt ds2 0).s))) && true) && true) then
        some [D.bool (!(((UInt8.toNat (List.getD (ByteArray.toList ((gt ds2 0).s)) (Int.toNat ((gt ds2 1).i)) 0)) : Int) == 45))]
       else none
      else none
     else none
    else bif (((inRow ((gt ds2 1).i) (ByteArray.size ((gt ds2 0).s))) && true) && true) then
     bif decide (((UInt8.toNat (List.getD (ByteArray.toList ((gt ds2 0).s)) (Int.toNat ((gt ds2 1).i)) 0)) : Int) ≥ 48) then
      bif (((inRow ((gt ds2 1).i) (ByteArray.size ((gt ds2 0).s))) && true) && true) then
       bif decide (((UInt8.toNat (List.getD (ByteArray.toList ((gt ds2 0).s)) (Int.toNat ((gt ds2 1).i)) 0)) : Int) ≤ 57) then
        some [D.bool false]
       else bif (((inRow ((gt ds2 1).i) (ByteArray.size ((gt ds2 0).s))) && true) && true) then
        some [D.bool (!(((UInt8.toNat (List.getD (ByteArray.toList ((gt ds2 0).s)) (Int.toNat ((gt ds2 1).i)) 0)) : Int) == 45))]
       else none
      else none
     else bif (((inRow ((gt ds2 1).i) (ByteArray.size ((gt ds2 0).s))) && true) && true) then
      some [D.bool (!(((UInt8.toNat (List.getD (ByteArray.toList ((gt ds2 0).s)) (Int.toNat ((gt ds2 1).i)) 0)) : Int) == 45))]
     else none
    else none
   else none).bind fun ds3 =>
  bif (gt ds3 0).b then
   some [D.bool false]
  else rec1 [D.str ((gt ds2 0).s), D.int (Go.IntKind.i64.wrap ((gt ds2 1).i + 1))]
 else bif (!((ByteArray.toList ((gt ds2 0).s)) == (ByteArray.toList (ByteArray.mk #[])))) then
  some [D.bool (decide (((ByteArray.size ((gt ds2 0).s)) : Int) ≤ 14))]
 else some [D.bool false]
/-- interchange/interchangeref2.IsReference -/
def F41 (k : Nat) (ds : List D) : Option (List D) :=
 iter B41x0 k [D.str ((gt ds 0).s), D.int 0]
def K41 : Callee := ⟨[.str], [.bool], F41⟩
noncomputable def C41 : Code := match Tryd.f41.body with | some c => c | none => .skip
theorem T41 : FunOK Tryd.prog (tyTab TL) 41 K41 :=
 fun_ok (loops := lkup [(2, ⟨[], [(0, .str), (3, .int .i64)]⟩)]) (joins := lkup [(9, .light [(38, .bool)])]) (md := mdL []) (L := []) (res := [.tmp 2]) (code := C41) (fn := Tryd.f41) TOKp EOKp MIXp lkup_nil Tryd.func41 (by kernel_rfl) (by kernel_rfl) (of_decide_eq_false (by kernel_rfl)) (by kernel_rfl) (fun k ds => by kernel_rfl)
/-- interchange/interchangeref7.isVerdict -/
def F42 (k : Nat) (ds : List D) : Option (List D) :=
 (F38 k [D.int ((gt ds 0).i), D.int 1, D.int 3]).bind fun ds0 =>
 some [D.bool ((gt ds0 0).b)]
def K42 : Callee := ⟨[.int .i64], [.bool], F42⟩
noncomputable def C42 : Code := match Tryd.f42.body with | some c => c | none => .skip
theorem T42 : FunOK Tryd.prog (tyTab TL) 42 K42 :=
 fun_ok (loops := lkup []) (joins := lkup []) (md := mdL []) (L := [(38, K38)]) (res := [.tmp 2]) (code := C42) (fn := Tryd.f42) TOKp EOKp MIXp (lkup_cons T38 lkup_nil) Tryd.func42 (by kernel_rfl) (by kernel_rfl) (of_decide_eq_false (by kernel_rfl)) (by kernel_rfl) (fun k ds => by kernel_rfl)
/-- interchange/kit.IsRef -/
def F43 (k : Nat) (ds : List D) : Option (List D) :=
 bif decide (((ByteArray.size ((gt ds 0).s)) : Int) ≥ 1) then
  bif decide (((ByteArray.size ((gt ds 0).s)) : Int) ≤ 14) then
   (F51 k [D.str ((gt ds 0).s), D.str (ByteArray.mk #[65, 66, 67, 68, 69, 70, 71, 72, 73, 74, 75, 76, 77, 78, 79, 80, 81, 82, 83, 84, 85, 86, 87, 88, 89, 90, 48, 49, 50, 51, 52, 53, 54, 55, 56, 57, 45])]).bind fun ds0 =>
   some [D.bool ((ByteArray.toList ((gt ds0 0).s)) == (ByteArray.toList (ByteArray.mk #[])))]
  else some [D.bool false]
 else some [D.bool false]
def K43 : Callee := ⟨[.str], [.bool], F43⟩
noncomputable def C43 : Code := match Tryd.f43.body with | some c => c | none => .skip
theorem T43 : FunOK Tryd.prog (tyTab TL) 43 K43 :=
 fun_ok (loops := lkup []) (joins := lkup []) (md := mdL []) (L := [(51, K51)]) (res := [.tmp 2]) (code := C43) (fn := Tryd.f43) TOKp EOKp MIXp (lkup_cons T51 lkup_nil) Tryd.func43 (by kernel_rfl) (by kernel_rfl) (of_decide_eq_false (by kernel_rfl)) (by kernel_rfl) (fun k ds => by kernel_rfl)
/-- interchange/reply.isVerdict -/
def F44 (k : Nat) (ds : List D) : Option (List D) :=
 (F31 k [D.int ((gt ds 0).i), D.int 1, D.int 3]).bind fun ds0 =>
 some [D.bool (!(gt ds0 0).b)]
def K44 : Callee := ⟨[.int .i64], [.bool], F44⟩
noncomputable def C44 : Code := match Tryd.f44.body with | some c => c | none => .skip
theorem T44 : FunOK Tryd.prog (tyTab TL) 44 K44 :=
 fun_ok (loops := lkup []) (joins := lkup []) (md := mdL []) (L := [(31, K31)]) (res := [.tmp 2]) (code := C44) (fn := Tryd.f44) TOKp EOKp MIXp (lkup_cons T31 lkup_nil) Tryd.func44 (by kernel_rfl) (by kernel_rfl) (of_decide_eq_false (by kernel_rfl)) (by kernel_rfl) (fun k ds => by kernel_rfl)
/-- interchange/kit.IsMoment -/
def F28 (k : Nat) (ds : List D) : Option (List D) :=
 (F31 k [D.int ((gt ds 0).i), D.int 0, D.int 1000000000000000]).bind fun ds0 =>
 some [D.bool (!(gt ds0 0).b)]
def K28 : Callee := ⟨[.int .i64], [.bool], F28⟩
noncomputable def C28 : Code := match Tryd.f28.body with | some c => c | none => .skip
theorem T28 : FunOK Tryd.prog (tyTab TL) 28 K28 :=
 fun_ok (loops := lkup []) (joins := lkup []) (md := mdL []) (L := [(31, K31)]) (res := [.tmp 2]) (code := C28) (fn := Tryd.f28) TOKp EOKp MIXp (lkup_cons T31 lkup_nil) Tryd.func28 (by kernel_rfl) (by kernel_rfl) (of_decide_eq_false (by kernel_rfl)) (by kernel_rfl) (fun k ds => by kernel_rfl)
/-- interchange/interchangeref7.checkEvent -/
def F33 (k : Nat) (ds : List D) : Option (List D) :=
 (bif ((gt ds 0).i != 1) then
   some [D.bool ((gt ds 0).i != 2)]
  else some [D.bool false]).bind fun ds0 =>
 bif (gt ds0 0).b then
  some [D.int 4]
 else (F38 k [D.int ((gt ds 1).i), D.int 0, D.int 1000000000000000]).bind fun ds1 =>
 bif (!(gt ds1 0).b) then
  some [D.int 1]
 else (F41 k [D.str ((gt ds 3).s)]).bind fun ds2 =>
 bif (!(gt ds2 0).b) then
  some [D.int 3]
 else bif ((gt ds 0).i == 1) then
  bif ((gt ds 4).i != 0) then
   some [D.int 3]
  else (F38 k [D.int ((gt ds 2).i), D.int ((gt ds 1).i), D.int (Go.IntKind.i64.wrap ((gt ds 1).i + 10000000))]).bind fun ds3 =>
  bif (!(gt ds3 0).b) then
   some [D.int 1]
  else some [D.int 0]
 else bif ((gt ds 2).i != 0) then
  some [D.int 3]
 else (F42 k [D.int ((gt ds 4).i)]).bind fun ds4 =>
 bif (!(gt ds4 0).b) then
  some [D.int 4]
 else some [D.int 0]
def K33 : Callee := ⟨[.agg [.int .i64, .int .i64, .int .i64, .str, .int .i64]], [.int .i64], F33⟩
noncomputable def C33 : Code := match Tryd.f33.body with | some c => c | none => .skip
theorem T33 : FunOK Tryd.prog (tyTab TL) 33 K33 :=
 fun_ok (loops := lkup []) (joins := lkup [(3, .light [(10, .bool)])]) (md := mdL []) (L := [(38, K38), (41, K41), (42, K42)]) (res := [.tmp 2]) (code := C33) (fn := Tryd.f33) TOKp EOKp MIXp (lkup_cons T38 (lkup_cons T41 (lkup_cons T42 lkup_nil))) Tryd.func33 (by kernel_rfl) (by kernel_rfl) (of_decide_eq_false (by kernel_rfl)) (by kernel_rfl) (fun k ds => by kernel_rfl)
/-- interchange/reply.eventFault -/
def F34 (k : Nat) (ds : List D) : Option (List D) :=
 bif ((inRow ((gt ds 1).i) (((gt ds 0).r).length)) && true) then
  (F31 k [D.int (((elAt ((gt ds 0).r) ((gt ds 1).i)).c 0).i), D.int 1, D.int 2]).bind fun ds0 =>
  bif (gt ds0 0).b then
   some [D.int 4]
  else (F28 k [D.int (((elAt ((gt ds 0).r) ((gt ds 1).i)).c 1).i)]).bind fun ds1 =>
  bif (!(gt ds1 0).b) then
   some [D.int 1]
  else (F43 k [D.str (((elAt ((gt ds 0).r) ((gt ds 1).i)).c 3).s)]).bind fun ds2 =>
  bif (!(gt ds2 0).b) then
   some [D.int 3]
  else (bif (((elAt ((gt ds 0).r) ((gt ds 1).i)).c 0).i == 1) then
    some [D.bool (((elAt ((gt ds 0).r) ((gt ds 1).i)).c 4).i != 0)]
   else some [D.bool false]).bind fun ds3 =>
  bif (gt ds3 0).b then
   some [D.int 3]
  else (bif (((elAt ((gt ds 0).r) ((gt ds 1).i)).c 0).i == 1) then
    (F31 k [D.int (((elAt ((gt ds 0).r) ((gt ds 1).i)).c 2).i), D.int (((elAt ((gt ds 0).r) ((gt ds 1).i)).c 1).i), D.int (Go.IntKind.i64.wrap (((elAt ((gt ds 0).r) ((gt ds 1).i)).c 1).i + 10000000))]).bind fun ds4 =>
    some [D.bool ((gt ds4 0).b)]
   else some [D.bool false]).bind fun ds5 =>
  bif (gt ds5 0).b then
   some [D.int 1]
  else (bif (((elAt ((gt ds 0).r) ((gt ds 1).i)).c 0).i == 2) then
    some [D.bool (((elAt ((gt ds 0).r) ((gt ds 1).i)).c 2).i != 0)]
   else some [D.bool false]).bind fun ds6 =>
  bif (gt ds6 0).b then
   some [D.int 3]
  else (bif (((elAt ((gt ds 0).r) ((gt ds 1).i)).c 0).i == 2) then
    (F44 k [D.int (((elAt ((gt ds 0).r) ((gt ds 1).i)).c 4).i)]).bind fun ds7 =>
    some [D.bool (!(gt ds7 0).b)]
   else some [D.bool false]).bind fun ds8 =>
  bif (gt ds8 0).b then
   some [D.int 4]
  else (bif decide ((gt ds 1).i > 0) then
    bif ((inRow (Go.IntKind.i64.wrap ((gt ds 1).i - 1)) (((gt ds 0).r).length)) && true) then
     some [D.bool (decide (((elAt ((gt ds 0).r) ((gt ds 1).i)).c 1).i < ((elAt ((gt ds 0).r) (Go.IntKind.i64.wrap ((gt ds 1).i - 1))).c 1).i))]
    else none
   else some [D.bool false]).bind fun ds9 =>
  bif (gt ds9 0).b then
   some [D.int 8]
  else some [D.int 0]
 else none
def K34 : Callee := ⟨[.seen 30, .int .i64], [.int .i64], F34⟩
noncomputable def C34 : Code := match Tryd.f34.body with | some c => c | none => .skip
theorem T34 : FunOK Tryd.prog (tyTab TL) 34 K34 :=
 fun_ok (loops := lkup []) (joins := lkup [(17, .light [(21, .bool)]), (21, .light [(30, .bool)]), (25, .light [(44, .bool)]), (29, .light [(53, .bool)]), (33, .light [(63, .bool)])]) (md := mdL []) (L := [(31, K31), (28, K28), (43, K43), (44, K44)]) (res := [.tmp 4]) (code := C34) (fn := Tryd.f34) TOKp EOKp MIXp (lkup_cons T31 (lkup_cons T28 (lkup_cons T43 (lkup_cons T44 lkup_nil)))) Tryd.func34 (by kernel_rfl) (by kernel_rfl) (of_decide_eq_false (by kernel_rfl)) (by kernel_rfl) (fun k ds => by kernel_rfl)
def B15x0 (k0 : Nat) (rec1 : List D → Option (List D)) (ds2 : List D) : Option (List D) :=
 bif decide ((gt ds2 1).i < (((gt ds2 0).r).length : Int)) then
  bif ((inRow ((gt ds2 1).i) (((gt ds2 0).r).length)) && true) then
   (F33 k0 [D.int (((elAt ((gt ds2 0).r) ((gt ds2 1).i)).c 0).i), D.int (((elAt ((gt ds2 0).r) ((gt ds2 1).i)).c 1).i), D.int (((elAt ((gt ds2 0).r) ((gt ds2 1).i)).c 2).i), D.str (((elAt ((gt ds2 0).r) ((gt ds2 1).i)).c 3).s), D.int (((elAt ((gt ds2 0).r) ((gt ds2 1).i)).c 4).i)]).bind fun ds3 =>
   bif ((gt ds3 0).i != 0) then
    some [D.int ((gt ds3 0).i)]
   else (bif decide ((gt ds2 1).i > 0) then
     bif ((inRow ((gt ds2 1).i) (((gt ds2 0).r).length)) && true) then
      bif ((inRow (Go.IntKind.i64.wrap ((gt ds2 1).i - 1)) (((gt ds2 0).r).length)) && true) then
       some [D.bool (decide (((elAt ((gt ds2 0).r) ((gt ds2 1).i)).c 1).i < ((elAt ((gt ds2 0).r) (Go.IntKind.i64.wrap ((gt ds2 1).i - 1))).c 1).i))]
      else none
     else none
    else some [D.bool false]).bind fun ds4 =>
   bif (gt ds4 0).b then
    some [D.int 8]
   else rec1 [D.row ((gt ds2 0).r), D.int (Go.IntKind.i64.wrap ((gt ds2 1).i + 1))]
  else none
 else some [D.int 0]
/-- interchange/interchangeref7.CheckBook -/
def F15 (k : Nat) (ds : List D) : Option (List D) :=
 bif decide ((((gt ds 0).r).length : Int) > 3000) then
  some [D.int 2]
 else iter B15x0 k [D.row ((gt ds 0).r), D.int 0]
def K15 : Callee := ⟨[.seen 30], [.int .i64], F15⟩
noncomputable def C15 : Code := match Tryd.f15.body with | some c => c | none => .skip
theorem T15 : FunOK Tryd.prog (tyTab TL) 15 K15 :=
 fun_ok (loops := lkup [(4, ⟨[], [(0, .srow 30), (3, .int .i64)]⟩)]) (joins := lkup [(19, .light [(37, .bool)])]) (md := mdL []) (L := [(33, K33)]) (res := [.tmp 2]) (code := C15) (fn := Tryd.f15) TOKp EOKp MIXp (lkup_cons T33 lkup_nil) Tryd.func15 (by kernel_rfl) (by kernel_rfl) (of_decide_eq_false (by kernel_rfl)) (by kernel_rfl) (fun k ds => by kernel_rfl)
def B16x0 (k0 : Nat) (rec1 : List D → Option (List D)) (ds2 : List D) : Option (List D) :=
 bif decide ((gt ds2 2).i < (gt ds2 1).i) then
  (F34 k0 [D.row ((gt ds2 0).r), D.int ((gt ds2 2).i)]).bind fun ds3 =>
  bif ((gt ds3 0).i != 0) then
   some [D.int ((gt ds3 0).i)]
  else rec1 [D.row ((gt ds2 0).r), D.int ((gt ds2 1).i), D.int (Go.IntKind.i64.wrap ((gt ds2 2).i + 1))]
 else some [D.int 0]
/-- interchange/reply.CheckBook -/
def F16 (k : Nat) (ds : List D) : Option (List D) :=
 bif decide ((((gt ds 0).r).length : Int) > 3000) then
  some [D.int 2]
 else iter B16x0 k [D.row ((gt ds 0).r), D.int (((gt ds 0).r).length : Int), D.int 0]
def K16 : Callee := ⟨[.seen 30], [.int .i64], F16⟩
noncomputable def C16 : Code := match Tryd.f16.body with | some c => c | none => .skip
theorem T16 : FunOK Tryd.prog (tyTab TL) 16 K16 :=
 fun_ok (loops := lkup [(4, ⟨[], [(0, .srow 30), (9, .int .i64), (10, .int .i64)]⟩)]) (joins := lkup []) (md := mdL []) (L := [(34, K34)]) (res := [.tmp 2]) (code := C16) (fn := Tryd.f16) TOKp EOKp MIXp (lkup_cons T34 lkup_nil) Tryd.func16 (by kernel_rfl) (by kernel_rfl) (of_decide_eq_false (by kernel_rfl)) (by kernel_rfl) (fun k ds => by kernel_rfl)
/-- interchange/reply.Book -/
def F10 (k : Nat) (ds : List D) : Option (List D) :=
 (F16 k [D.row ((gt ds 0).r)]).bind fun ds0 =>
 bif ((gt ds0 0).i != 0) then
  some [D.row [], D.row [], D.int ((gt ds0 0).i)]
 else (F27 k [D.row ((gt ds 0).r)]).bind fun ds1 =>
 some [D.row ((gt ds1 0).r), D.row ((gt ds1 1).r), D.int 0]
def K10 : Callee := ⟨[.seen 30], [.own 32, .own 3, .int .i64], F10⟩
noncomputable def C10 : Code := match Tryd.f10.body with | some c => c | none => .skip
theorem T10 : FunOK Tryd.prog (tyTab TL) 10 K10 :=
 fun_ok (loops := lkup []) (joins := lkup []) (md := mdL []) (L := [(16, K16), (27, K27)]) (res := [.tmp 2, .tmp 3, .tmp 4]) (code := C10) (fn := Tryd.f10) TOKp EOKp MIXp (lkup_cons T16 (lkup_cons T27 lkup_nil)) Tryd.func10 (by kernel_rfl) (by kernel_rfl) (of_decide_eq_false (by kernel_rfl)) (by kernel_rfl) (fun k ds => by kernel_rfl)
def B12x0 (k3 : Nat) (rec4 : List D → Option (List D)) (ds5 : List D) : Option (List D) :=
 bif decide ((gt ds5 2).i < (gt ds5 1).i) then
  (bif ((inRow ((gt ds5 2).i) (((gt ds5 15).r).length)) && true) then
    ((F30 k3 [D.str (((elAt ((gt ds5 15).r) ((gt ds5 2).i)).c 0).s), D.int (((elAt ((gt ds5 15).r) ((gt ds5 2).i)).c 1).i), D.int (((elAt ((gt ds5 15).r) ((gt ds5 2).i)).c 2).i), D.int (((elAt ((gt ds5 15).r) ((gt ds5 2).i)).c 3).i), D.int (((elAt ((gt ds5 15).r) ((gt ds5 2).i)).c 4).i), D.int ((gt ds5 0).i)]).bind fun ds6 =>
     bif ((gt ds6 0).i == 1) then
      some [D.int ((gt ds5 0).i), D.int ((gt ds5 1).i), D.int ((gt ds5 2).i), D.int ((gt ds5 3).i), D.int ((gt ds5 4).i), D.int ((gt ds5 5).i), D.int ((gt ds5 6).i), D.int ((gt ds5 7).i), D.int ((gt ds5 8).i), D.int (Go.IntKind.i64.wrap ((gt ds5 9).i + 1)), D.int ((gt ds5 10).i), D.int ((gt ds5 11).i), D.int ((gt ds5 12).i), D.int ((gt ds5 13).i), D.int ((gt ds5 14).i), D.str (((elAt ((gt ds5 15).r) ((gt ds5 2).i)).c 0).s), D.int (((elAt ((gt ds5 15).r) ((gt ds5 2).i)).c 1).i), D.int (((elAt ((gt ds5 15).r) ((gt ds5 2).i)).c 2).i), D.int (((elAt ((gt ds5 15).r) ((gt ds5 2).i)).c 3).i), D.int (((elAt ((gt ds5 15).r) ((gt ds5 2).i)).c 4).i), D.row ((gt ds5 15).r)]
     else bif ((gt ds6 0).i == 2) then
      some [D.int ((gt ds5 0).i), D.int ((gt ds5 1).i), D.int ((gt ds5 2).i), D.int ((gt ds5 3).i), D.int ((gt ds5 4).i), D.int ((gt ds5 5).i), D.int ((gt ds5 6).i), D.int ((gt ds5 7).i), D.int ((gt ds5 8).i), D.int ((gt ds5 9).i), D.int (Go.IntKind.i64.wrap ((gt ds5 10).i + 1)), D.int ((gt ds5 11).i), D.int ((gt ds5 12).i), D.int ((gt ds5 13).i), D.int ((gt ds5 14).i), D.str (((elAt ((gt ds5 15).r) ((gt ds5 2).i)).c 0).s), D.int (((elAt ((gt ds5 15).r) ((gt ds5 2).i)).c 1).i), D.int (((elAt ((gt ds5 15).r) ((gt ds5 2).i)).c 2).i), D.int (((elAt ((gt ds5 15).r) ((gt ds5 2).i)).c 3).i), D.int (((elAt ((gt ds5 15).r) ((gt ds5 2).i)).c 4).i), D.row ((gt ds5 15).r)]
     else some [D.int ((gt ds5 0).i), D.int ((gt ds5 1).i), D.int ((gt ds5 2).i), D.int ((gt ds5 3).i), D.int ((gt ds5 4).i), D.int ((gt ds5 5).i), D.int ((gt ds5 6).i), D.int ((gt ds5 7).i), D.int ((gt ds5 8).i), D.int ((gt ds5 9).i), D.int ((gt ds5 10).i), D.int ((gt ds5 11).i), D.int ((gt ds5 12).i), D.int ((gt ds5 13).i), D.int ((gt ds5 14).i), D.str (((elAt ((gt ds5 15).r) ((gt ds5 2).i)).c 0).s), D.int (((elAt ((gt ds5 15).r) ((gt ds5 2).i)).c 1).i), D.int (((elAt ((gt ds5 15).r) ((gt ds5 2).i)).c 2).i), D.int (((elAt ((gt ds5 15).r) ((gt ds5 2).i)).c 3).i), D.int (((elAt ((gt ds5 15).r) ((gt ds5 2).i)).c 4).i), D.row ((gt ds5 15).r)]).bind fun ds7 =>
    (bif ((gt ds7 19).i == 1) then
      some [D.int ((gt ds7 0).i), D.int ((gt ds7 1).i), D.int ((gt ds7 2).i), D.int ((gt ds7 3).i), D.int ((gt ds7 4).i), D.int ((gt ds7 5).i), D.int ((gt ds7 6).i), D.int ((gt ds7 7).i), D.int ((gt ds7 8).i), D.int ((gt ds7 9).i), D.int ((gt ds7 10).i), D.int (Go.IntKind.i64.wrap ((gt ds7 11).i + 1)), D.int ((gt ds7 12).i), D.int ((gt ds7 13).i), D.int ((gt ds7 14).i), D.str ((gt ds7 15).s), D.int ((gt ds7 16).i), D.int ((gt ds7 17).i), D.int ((gt ds7 18).i), D.int ((gt ds7 19).i), D.row ((gt ds7 20).r)]
     else bif ((gt ds7 19).i == 2) then
      some [D.int ((gt ds7 0).i), D.int ((gt ds7 1).i), D.int ((gt ds7 2).i), D.int ((gt ds7 3).i), D.int ((gt ds7 4).i), D.int ((gt ds7 5).i), D.int ((gt ds7 6).i), D.int ((gt ds7 7).i), D.int ((gt ds7 8).i), D.int ((gt ds7 9).i), D.int ((gt ds7 10).i), D.int ((gt ds7 11).i), D.int (Go.IntKind.i64.wrap ((gt ds7 12).i + 1)), D.int ((gt ds7 13).i), D.int ((gt ds7 14).i), D.str ((gt ds7 15).s), D.int ((gt ds7 16).i), D.int ((gt ds7 17).i), D.int ((gt ds7 18).i), D.int ((gt ds7 19).i), D.row ((gt ds7 20).r)]
     else bif ((gt ds7 19).i == 3) then
      some [D.int ((gt ds7 0).i), D.int ((gt ds7 1).i), D.int ((gt ds7 2).i), D.int ((gt ds7 3).i), D.int ((gt ds7 4).i), D.int ((gt ds7 5).i), D.int ((gt ds7 6).i), D.int ((gt ds7 7).i), D.int ((gt ds7 8).i), D.int ((gt ds7 9).i), D.int ((gt ds7 10).i), D.int ((gt ds7 11).i), D.int ((gt ds7 12).i), D.int (Go.IntKind.i64.wrap ((gt ds7 13).i + 1)), D.int ((gt ds7 14).i), D.str ((gt ds7 15).s), D.int ((gt ds7 16).i), D.int ((gt ds7 17).i), D.int ((gt ds7 18).i), D.int ((gt ds7 19).i), D.row ((gt ds7 20).r)]
     else some [D.int ((gt ds7 0).i), D.int ((gt ds7 1).i), D.int ((gt ds7 2).i), D.int ((gt ds7 3).i), D.int ((gt ds7 4).i), D.int ((gt ds7 5).i), D.int ((gt ds7 6).i), D.int ((gt ds7 7).i), D.int ((gt ds7 8).i), D.int ((gt ds7 9).i), D.int ((gt ds7 10).i), D.int ((gt ds7 11).i), D.int ((gt ds7 12).i), D.int ((gt ds7 13).i), D.int ((gt ds7 14).i), D.str ((gt ds7 15).s), D.int ((gt ds7 16).i), D.int ((gt ds7 17).i), D.int ((gt ds7 18).i), D.int ((gt ds7 19).i), D.row ((gt ds7 20).r)]).bind fun ds8 =>
    bif decide ((gt ds8 18).i > (gt ds8 17).i) then
     some [D.int ((gt ds8 0).i), D.int ((gt ds8 1).i), D.int ((gt ds8 2).i), D.int ((gt ds8 3).i), D.int ((gt ds8 4).i), D.int ((gt ds8 5).i), D.int ((gt ds8 6).i), D.int ((gt ds8 7).i), D.int ((gt ds8 8).i), D.int ((gt ds8 9).i), D.int ((gt ds8 10).i), D.int ((gt ds8 11).i), D.int ((gt ds8 12).i), D.int ((gt ds8 13).i), D.int (Go.IntKind.i64.wrap ((gt ds8 14).i + 1)), D.row ((gt ds8 20).r)]
    else some [D.int ((gt ds8 0).i), D.int ((gt ds8 1).i), D.int ((gt ds8 2).i), D.int ((gt ds8 3).i), D.int ((gt ds8 4).i), D.int ((gt ds8 5).i), D.int ((gt ds8 6).i), D.int ((gt ds8 7).i), D.int ((gt ds8 8).i), D.int ((gt ds8 9).i), D.int ((gt ds8 10).i), D.int ((gt ds8 11).i), D.int ((gt ds8 12).i), D.int ((gt ds8 13).i), D.int ((gt ds8 14).i), D.row ((gt ds8 20).r)]
   else none).bind fun ds9 =>
  rec4 [D.int ((gt ds9 0).i), D.int ((gt ds9 1).i), D.int (Go.IntKind.i64.wrap ((gt ds9 2).i + 1)), D.int ((gt ds9 3).i), D.int ((gt ds9 4).i), D.int ((gt ds9 5).i), D.int ((gt ds9 6).i), D.int ((gt ds9 7).i), D.int ((gt ds9 8).i), D.int ((gt ds9 9).i), D.int ((gt ds9 10).i), D.int ((gt ds9 11).i), D.int ((gt ds9 12).i), D.int ((gt ds9 13).i), D.int ((gt ds9 14).i), D.row ((gt ds9 15).r)]
 else some [D.int ((gt ds5 9).i), D.int ((gt ds5 10).i), D.int ((gt ds5 11).i), D.int ((gt ds5 12).i), D.int ((gt ds5 13).i), D.int ((gt ds5 14).i), D.int 0]
/-- interchange/reply.StandingAt -/
def F12 (k : Nat) (ds : List D) : Option (List D) :=
 (F16 k [D.row ((gt ds 0).r)]).bind fun ds0 =>
 bif ((gt ds0 0).i != 0) then
  some [D.int 0, D.int 0, D.int 0, D.int 0, D.int 0, D.int 0, D.int ((gt ds0 0).i)]
 else (F28 k [D.int ((gt ds 1).i)]).bind fun ds1 =>
 bif (!(gt ds1 0).b) then
  some [D.int 0, D.int 0, D.int 0, D.int 0, D.int 0, D.int 0, D.int 1]
 else (F29 k [D.row ((gt ds 0).r), D.int ((gt ds 1).i)]).bind fun ds2 =>
 iter B12x0 k [D.int ((gt ds 1).i), D.int (((gt ds2 0).r).length : Int), D.int 0, D.int 0, D.int 0, D.int 0, D.int 0, D.int 0, D.int 0, D.int 0, D.int 0, D.int 0, D.int 0, D.int 0, D.int 0, D.row ((gt ds2 0).r)]
def K12 : Callee := ⟨[.seen 30, .int .i64], [.agg [.int .i64, .int .i64, .int .i64, .int .i64, .int .i64, .int .i64], .int .i64], F12⟩
noncomputable def C12 : Code := match Tryd.f12.body with | some c => c | none => .skip
theorem T12 : FunOK Tryd.prog (tyTab TL) 12 K12 :=
 fun_ok (loops := lkup [(8, ⟨[.box 35 [.int .i64, .int .i64, .int .i64, .int .i64, .int .i64, .int .i64], .box 35 [.int .i64, .int .i64, .int .i64, .int .i64, .int .i64, .int .i64], .row 32 false], [(1, .int .i64), (4, .ptr 0 0), (7, .ptr 1 0), (23, .orow 2), (24, .int .i64), (25, .int .i64)]⟩)]) (joins := lkup [(30, .full ⟨[.box 35 [.int .i64, .int .i64, .int .i64, .int .i64, .int .i64, .int .i64], .box 35 [.int .i64, .int .i64, .int .i64, .int .i64, .int .i64, .int .i64], .box 32 [.str, .int .i64, .int .i64, .int .i64, .int .i64], .row 32 false], [(1, .int .i64), (4, .ptr 0 0), (7, .ptr 1 0), (9, .ptr 2 0), (23, .orow 3), (24, .int .i64), (25, .int .i64)]⟩), (44, .full ⟨[.box 35 [.int .i64, .int .i64, .int .i64, .int .i64, .int .i64, .int .i64], .box 35 [.int .i64, .int .i64, .int .i64, .int .i64, .int .i64, .int .i64], .box 32 [.str, .int .i64, .int .i64, .int .i64, .int .i64], .row 32 false], [(1, .int .i64), (4, .ptr 0 0), (7, .ptr 1 0), (9, .ptr 2 0), (23, .orow 3), (24, .int .i64), (25, .int .i64)]⟩), (48, .full ⟨[.box 35 [.int .i64, .int .i64, .int .i64, .int .i64, .int .i64, .int .i64], .box 35 [.int .i64, .int .i64, .int .i64, .int .i64, .int .i64, .int .i64], .row 32 false], [(1, .int .i64), (4, .ptr 0 0), (7, .ptr 1 0), (23, .orow 2), (24, .int .i64), (25, .int .i64)]⟩)]) (md := mdL []) (L := [(16, K16), (28, K28), (29, K29), (30, K30)]) (res := [.cell 4 35, .tmp 5]) (code := C12) (fn := Tryd.f12) TOKp EOKp MIXp (lkup_cons T16 (lkup_cons T28 (lkup_cons T29 (lkup_cons T30 lkup_nil)))) Tryd.func12 (by kernel_rfl) (by kernel_rfl) (of_decide_eq_false (by kernel_rfl)) (by kernel_rfl) (fun k ds => by kernel_rfl)
/-- interchange/reply.StateAt -/
def F13 (k : Nat) (ds : List D) : Option (List D) :=
 (F16 k [D.row ((gt ds 0).r)]).bind fun ds0 =>
 bif ((gt ds0 0).i != 0) then
  some [D.int 0, D.int ((gt ds0 0).i)]
 else (F29 k [D.row ((gt ds 0).r), D.int ((gt ds 2).i)]).bind fun ds1 =>
 ((F31 k [D.int ((gt ds 1).i), D.int 0, D.int (Go.IntKind.i64.wrap ((((gt ds1 0).r).length : Int) - 1))]).bind fun ds2 =>
  bif (gt ds2 0).b then
   some [D.bool true]
  else (F28 k [D.int ((gt ds 2).i)]).bind fun ds3 =>
  some [D.bool (!(gt ds3 0).b)]).bind fun ds4 =>
 bif (gt ds4 0).b then
  some [D.int 0, D.int 1]
 else bif ((inRow ((gt ds 1).i) (((gt ds1 0).r).length)) && true) then
  (F30 k [D.str (((elAt ((gt ds1 0).r) ((gt ds 1).i)).c 0).s), D.int (((elAt ((gt ds1 0).r) ((gt ds 1).i)).c 1).i), D.int (((elAt ((gt ds1 0).r) ((gt ds 1).i)).c 2).i), D.int (((elAt ((gt ds1 0).r) ((gt ds 1).i)).c 3).i), D.int (((elAt ((gt ds1 0).r) ((gt ds 1).i)).c 4).i), D.int ((gt ds 2).i)]).bind fun ds5 =>
  some [D.int ((gt ds5 0).i), D.int 0]
 else none
def K13 : Callee := ⟨[.seen 30, .int .i64, .int .i64], [.int .i64, .int .i64], F13⟩
noncomputable def C13 : Code := match Tryd.f13.body with | some c => c | none => .skip
theorem T13 : FunOK Tryd.prog (tyTab TL) 13 K13 :=
 fun_ok (loops := lkup []) (joins := lkup [(11, .light [(27, .bool)])]) (md := mdL []) (L := [(16, K16), (29, K29), (31, K31), (28, K28), (30, K30)]) (res := [.tmp 6, .tmp 7]) (code := C13) (fn := Tryd.f13) TOKp EOKp MIXp (lkup_cons T16 (lkup_cons T29 (lkup_cons T31 (lkup_cons T28 (lkup_cons T30 lkup_nil))))) Tryd.func13 (by kernel_rfl) (by kernel_rfl) (of_decide_eq_false (by kernel_rfl)) (by kernel_rfl) (fun k ds => by kernel_rfl)
/-- interchange/interchangeref7.Book -/
def F14 (k : Nat) (ds : List D) : Option (List D) :=
 (F15 k [D.row ((gt ds 0).r)]).bind fun ds0 =>
 bif ((gt ds0 0).i != 0) then
  some [D.row [], D.row [], D.int ((gt ds0 0).i)]
 else (F32 k [D.row ((gt ds 0).r), D.int 1000000000000000]).bind fun ds1 =>
 some [D.row ((gt ds1 0).r), D.row ((gt ds1 1).r), D.int 0]
def K14 : Callee := ⟨[.seen 30], [.own 32, .own 3, .int .i64], F14⟩
noncomputable def C14 : Code := match Tryd.f14.body with | some c => c | none => .skip
theorem T14 : FunOK Tryd.prog (tyTab TL) 14 K14 :=
 fun_ok (loops := lkup []) (joins := lkup []) (md := mdL []) (L := [(15, K15), (32, K32)]) (res := [.tmp 2, .tmp 3, .tmp 4]) (code := C14) (fn := Tryd.f14) TOKp EOKp MIXp (lkup_cons T15 (lkup_cons T32 lkup_nil)) Tryd.func14 (by kernel_rfl) (by kernel_rfl) (of_decide_eq_false (by kernel_rfl)) (by kernel_rfl) (fun k ds => by kernel_rfl)
/-- interchange/interchangelaw7.awake -/
def F11 (k : Nat) (ds : List D) : Option (List D) :=
 (F12 k [D.row [D.agg [D.int 1, D.int 0, D.int 0, D.str (ByteArray.mk #[65]), D.int 0]], D.int 0]).bind fun ds0 =>
 bif ((gt ds0 6).i == 0) then
  some [D.bool ((gt ds0 0).i == 1)]
 else some [D.bool false]
def K11 : Callee := ⟨[], [.bool], F11⟩
noncomputable def C11 : Code := match Tryd.f11.body with | some c => c | none => .skip
theorem T11 : FunOK Tryd.prog (tyTab TL) 11 K11 :=
 fun_ok (loops := lkup []) (joins := lkup []) (md := mdL []) (L := [(12, K12)]) (res := [.tmp 0]) (code := C11) (fn := Tryd.f11) TOKp EOKp MIXp (lkup_cons T12 lkup_nil) Tryd.func11 (by kernel_rfl) (by kernel_rfl) (of_decide_eq_false (by kernel_rfl)) (by kernel_rfl) (fun k ds => by kernel_rfl)
def B3x0 (rec16 : List D → Option (List D)) (k28 : Nat) (rec29 : List D → Option (List D)) (ds30 : List D) : Option (List D) :=
 bif decide ((gt ds30 6).i < (((gt ds30 8).r).length : Int)) then
  (bif ((inRow ((gt ds30 6).i) (((gt ds30 8).r).length)) && true) then
    bif ((inRow ((elAt ((gt ds30 8).r) ((gt ds30 6).i)).i) (((gt ds30 0).r).length)) && true) then
     bif ((inRow ((gt ds30 4).i) (((gt ds30 0).r).length)) && true) then
      bif ((ByteArray.toList (((elAt ((gt ds30 0).r) ((elAt ((gt ds30 8).r) ((gt ds30 6).i)).i)).c 3).s)) == (ByteArray.toList (((elAt ((gt ds30 0).r) ((gt ds30 4).i)).c 3).s))) then
       some [D.int (Go.IntKind.i64.wrap ((gt ds30 5).i - 1))]
      else some [D.int ((gt ds30 5).i)]
     else none
    else none
   else none).bind fun ds31 =>
  rec29 [D.row ((gt ds30 0).r), D.int ((gt ds30 1).i), D.int ((gt ds30 2).i), D.int ((gt ds30 3).i), D.int ((gt ds30 4).i), D.int ((gt ds31 0).i), D.int (Go.IntKind.i64.wrap ((gt ds30 6).i + 1)), D.row ((gt ds30 7).r), D.row ((gt ds30 8).r)]
 else bif ((gt ds30 5).i != 0) then
  some [D.bool false]
 else rec16 [D.row ((gt ds30 0).r), D.int ((gt ds30 1).i), D.int ((gt ds30 2).i), D.int ((gt ds30 3).i), D.int (Go.IntKind.i64.wrap ((gt ds30 4).i + 1)), D.row ((gt ds30 7).r), D.row ((gt ds30 8).r)]
def B3x1 (rec16 : List D → Option (List D)) (k23 : Nat) (rec24 : List D → Option (List D)) (ds25 : List D) : Option (List D) :=
 bif decide ((gt ds25 6).i < (((gt ds25 7).r).length : Int)) then
  ((bif ((inRow ((gt ds25 6).i) (((gt ds25 7).r).length)) && true) then
     bif ((inRow ((gt ds25 4).i) (((gt ds25 0).r).length)) && true) then
      bif ((ByteArray.toList (((elAt ((gt ds25 7).r) ((gt ds25 6).i)).c 0).s)) == (ByteArray.toList (((elAt ((gt ds25 0).r) ((gt ds25 4).i)).c 3).s))) then
       bif ((inRow ((gt ds25 6).i) (((gt ds25 7).r).length)) && true) then
        some [D.bool (decide (((elAt ((gt ds25 7).r) ((gt ds25 6).i)).c 3).i ≥ 0))]
       else none
      else some [D.bool false]
     else none
    else none).bind fun ds26 =>
   bif (gt ds26 0).b then
    some [D.int (Go.IntKind.i64.wrap ((gt ds25 5).i - 1))]
   else some [D.int ((gt ds25 5).i)]).bind fun ds27 =>
  rec24 [D.row ((gt ds25 0).r), D.int ((gt ds25 1).i), D.int ((gt ds25 2).i), D.int ((gt ds25 3).i), D.int ((gt ds25 4).i), D.int ((gt ds27 0).i), D.int (Go.IntKind.i64.wrap ((gt ds25 6).i + 1)), D.row ((gt ds25 7).r), D.row ((gt ds25 8).r)]
 else iter (B3x0 rec16) k23 [D.row ((gt ds25 0).r), D.int ((gt ds25 1).i), D.int ((gt ds25 2).i), D.int ((gt ds25 3).i), D.int ((gt ds25 4).i), D.int ((gt ds25 5).i), D.int 0, D.row ((gt ds25 7).r), D.row ((gt ds25 8).r)]
def B3x2 (rec16 : List D → Option (List D)) (k18 : Nat) (rec19 : List D → Option (List D)) (ds20 : List D) : Option (List D) :=
 bif decide ((gt ds20 6).i < (((gt ds20 0).r).length : Int)) then
  ((bif ((inRow ((gt ds20 6).i) (((gt ds20 0).r).length)) && true) then
     bif (((elAt ((gt ds20 0).r) ((gt ds20 6).i)).c 0).i == 2) then
      bif ((inRow ((gt ds20 6).i) (((gt ds20 0).r).length)) && true) then
       bif ((inRow ((gt ds20 4).i) (((gt ds20 0).r).length)) && true) then
        some [D.bool ((ByteArray.toList (((elAt ((gt ds20 0).r) ((gt ds20 6).i)).c 3).s)) == (ByteArray.toList (((elAt ((gt ds20 0).r) ((gt ds20 4).i)).c 3).s)))]
       else none
      else none
     else some [D.bool false]
    else none).bind fun ds21 =>
   bif (gt ds21 0).b then
    some [D.int (Go.IntKind.i64.wrap ((gt ds20 5).i + 1))]
   else some [D.int ((gt ds20 5).i)]).bind fun ds22 =>
  rec19 [D.row ((gt ds20 0).r), D.int ((gt ds20 1).i), D.int ((gt ds20 2).i), D.int ((gt ds20 3).i), D.int ((gt ds20 4).i), D.int ((gt ds22 0).i), D.int (Go.IntKind.i64.wrap ((gt ds20 6).i + 1)), D.row ((gt ds20 7).r), D.row ((gt ds20 8).r)]
 else iter (B3x1 rec16) k18 [D.row ((gt ds20 0).r), D.int ((gt ds20 1).i), D.int ((gt ds20 2).i), D.int ((gt ds20 3).i), D.int ((gt ds20 4).i), D.int ((gt ds20 5).i), D.int 0, D.row ((gt ds20 7).r), D.row ((gt ds20 8).r)]
def B3x3 (k15 : Nat) (rec16 : List D → Option (List D)) (ds17 : List D) : Option (List D) :=
 bif decide ((gt ds17 4).i < (((gt ds17 0).r).length : Int)) then
  iter (B3x2 rec16) k15 [D.row ((gt ds17 0).r), D.int ((gt ds17 1).i), D.int ((gt ds17 2).i), D.int ((gt ds17 3).i), D.int ((gt ds17 4).i), D.int 0, D.int 0, D.row ((gt ds17 5).r), D.row ((gt ds17 6).r)]
 else bif ((gt ds17 1).i == (((gt ds17 5).r).length : Int)) then
  bif ((Go.IntKind.i64.wrap ((gt ds17 3).i + (((gt ds17 6).r).length : Int))) == (gt ds17 2).i) then
   (F11 k15 []).bind fun ds32 =>
   some [D.bool ((gt ds32 0).b)]
  else some [D.bool false]
 else some [D.bool false]
def B3x4 (k11 : Nat) (rec12 : List D → Option (List D)) (ds13 : List D) : Option (List D) :=
 bif decide ((gt ds13 4).i < (((gt ds13 6).r).length : Int)) then
  (bif ((inRow ((gt ds13 4).i) (((gt ds13 6).r).length)) && true) then
    bif decide ((elAt ((gt ds13 6).r) ((gt ds13 4).i)).i < 0) then
     some [D.bool true]
    else bif ((inRow ((gt ds13 4).i) (((gt ds13 6).r).length)) && true) then
     bif decide ((elAt ((gt ds13 6).r) ((gt ds13 4).i)).i ≥ (((gt ds13 0).r).length : Int)) then
      some [D.bool true]
     else bif ((inRow ((gt ds13 4).i) (((gt ds13 6).r).length)) && true) then
      bif ((inRow ((elAt ((gt ds13 6).r) ((gt ds13 4).i)).i) (((gt ds13 0).r).length)) && true) then
       some [D.bool (((elAt ((gt ds13 0).r) ((elAt ((gt ds13 6).r) ((gt ds13 4).i)).i)).c 0).i != 2)]
      else none
     else none
    else none
   else none).bind fun ds14 =>
  bif (gt ds14 0).b then
   some [D.bool false]
  else rec12 [D.row ((gt ds13 0).r), D.int ((gt ds13 1).i), D.int ((gt ds13 2).i), D.int ((gt ds13 3).i), D.int (Go.IntKind.i64.wrap ((gt ds13 4).i + 1)), D.row ((gt ds13 5).r), D.row ((gt ds13 6).r)]
 else iter B3x3 k11 [D.row ((gt ds13 0).r), D.int ((gt ds13 1).i), D.int ((gt ds13 2).i), D.int ((gt ds13 3).i), D.int 0, D.row ((gt ds13 5).r), D.row ((gt ds13 6).r)]
def B3x5 (k6 : Nat) (rec7 : List D → Option (List D)) (ds8 : List D) : Option (List D) :=
 bif decide ((gt ds8 4).i < (((gt ds8 5).r).length : Int)) then
  bif ((inRow ((gt ds8 4).i) (((gt ds8 5).r).length)) && true) then
   bif decide (((elAt ((gt ds8 5).r) ((gt ds8 4).i)).c 3).i ≥ 0) then
    (bif ((inRow ((gt ds8 4).i) (((gt ds8 5).r).length)) && true) then
      bif ((inRow ((gt ds8 4).i) (((gt ds8 5).r).length)) && true) then
       bif decide (((elAt ((gt ds8 5).r) ((gt ds8 4).i)).c 3).i < ((elAt ((gt ds8 5).r) ((gt ds8 4).i)).c 1).i) then
        some [D.bool true]
       else bif ((inRow ((gt ds8 4).i) (((gt ds8 5).r).length)) && true) then
        some [D.bool (((elAt ((gt ds8 5).r) ((gt ds8 4).i)).c 4).i == 0)]
       else none
      else none
     else none).bind fun ds9 =>
    bif (gt ds9 0).b then
     some [D.bool false]
    else rec7 [D.row ((gt ds8 0).r), D.int ((gt ds8 1).i), D.int ((gt ds8 2).i), D.int (Go.IntKind.i64.wrap ((gt ds8 3).i + 1)), D.int (Go.IntKind.i64.wrap ((gt ds8 4).i + 1)), D.row ((gt ds8 5).r), D.row ((gt ds8 6).r)]
   else (bif ((inRow ((gt ds8 4).i) (((gt ds8 5).r).length)) && true) then
     bif (((elAt ((gt ds8 5).r) ((gt ds8 4).i)).c 3).i != (-1)) then
      some [D.bool true]
     else bif ((inRow ((gt ds8 4).i) (((gt ds8 5).r).length)) && true) then
      some [D.bool (((elAt ((gt ds8 5).r) ((gt ds8 4).i)).c 4).i != 0)]
     else none
    else none).bind fun ds10 =>
   bif (gt ds10 0).b then
    some [D.bool false]
   else rec7 [D.row ((gt ds8 0).r), D.int ((gt ds8 1).i), D.int ((gt ds8 2).i), D.int ((gt ds8 3).i), D.int (Go.IntKind.i64.wrap ((gt ds8 4).i + 1)), D.row ((gt ds8 5).r), D.row ((gt ds8 6).r)]
  else none
 else iter B3x4 k6 [D.row ((gt ds8 0).r), D.int ((gt ds8 1).i), D.int ((gt ds8 2).i), D.int ((gt ds8 3).i), D.int 0, D.row ((gt ds8 5).r), D.row ((gt ds8 6).r)]
def B3x6 (k2 : Nat) (rec3 : List D → Option (List D)) (ds4 : List D) : Option (List D) :=
 bif decide ((gt ds4 4).i < (((gt ds4 0).r).length : Int)) then
  bif ((inRow ((gt ds4 4).i) (((gt ds4 0).r).length)) && true) then
   bif (((elAt ((gt ds4 0).r) ((gt ds4 4).i)).c 0).i == 1) then
    (bif decide ((gt ds4 1).i ≥ (((gt ds4 5).r).length : Int)) then
      some [D.bool true]
     else bif ((inRow ((gt ds4 1).i) (((gt ds4 5).r).length)) && true) then
      bif ((inRow ((gt ds4 4).i) (((gt ds4 0).r).length)) && true) then
       bif (!((ByteArray.toList (((elAt ((gt ds4 5).r) ((gt ds4 1).i)).c 0).s)) == (ByteArray.toList (((elAt ((gt ds4 0).r) ((gt ds4 4).i)).c 3).s)))) then
        some [D.bool true]
       else bif ((inRow ((gt ds4 1).i) (((gt ds4 5).r).length)) && true) then
        bif ((inRow ((gt ds4 4).i) (((gt ds4 0).r).length)) && true) then
         bif (((elAt ((gt ds4 5).r) ((gt ds4 1).i)).c 1).i != ((elAt ((gt ds4 0).r) ((gt ds4 4).i)).c 1).i) then
          some [D.bool true]
         else bif ((inRow ((gt ds4 1).i) (((gt ds4 5).r).length)) && true) then
          bif ((inRow ((gt ds4 4).i) (((gt ds4 0).r).length)) && true) then
           some [D.bool (((elAt ((gt ds4 5).r) ((gt ds4 1).i)).c 2).i != ((elAt ((gt ds4 0).r) ((gt ds4 4).i)).c 2).i)]
          else none
         else none
        else none
       else none
      else none
     else none).bind fun ds5 =>
    bif (gt ds5 0).b then
     some [D.bool false]
    else rec3 [D.row ((gt ds4 0).r), D.int (Go.IntKind.i64.wrap ((gt ds4 1).i + 1)), D.int ((gt ds4 2).i), D.int ((gt ds4 3).i), D.int (Go.IntKind.i64.wrap ((gt ds4 4).i + 1)), D.row ((gt ds4 5).r), D.row ((gt ds4 6).r)]
   else rec3 [D.row ((gt ds4 0).r), D.int ((gt ds4 1).i), D.int (Go.IntKind.i64.wrap ((gt ds4 2).i + 1)), D.int ((gt ds4 3).i), D.int (Go.IntKind.i64.wrap ((gt ds4 4).i + 1)), D.row ((gt ds4 5).r), D.row ((gt ds4 6).r)]
  else none
 else iter B3x5 k2 [D.row ((gt ds4 0).r), D.int ((gt ds4 1).i), D.int ((gt ds4 2).i), D.int ((gt ds4 3).i), D.int 0, D.row ((gt ds4 5).r), D.row ((gt ds4 6).r)]
/-- interchange/interchangelaw7.ReplyBooksBelong -/
def F3 (k : Nat) (ds : List D) : Option (List D) :=
 (F10 k [D.row ((gt ds 0).r)]).bind fun ds0 =>
 bif ((gt ds0 2).i != 0) then
  bif ((((gt ds0 0).r).length : Int) == 0) then
   bif ((((gt ds0 1).r).length : Int) == 0) then
    (F11 k []).bind fun ds1 =>
    some [D.bool ((gt ds1 0).b)]
   else some [D.bool false]
  else some [D.bool false]
 else iter B3x6 k [D.row ((gt ds 0).r), D.int 0, D.int 0, D.int 0, D.int 0, D.row ((gt ds0 0).r), D.row ((gt ds0 1).r)]
def K3 : Callee := ⟨[.seen 30], [.bool], F3⟩
noncomputable def C3 : Code := match Tryd.f3.body with | some c => c | none => .skip
theorem T3 : FunOK Tryd.prog (tyTab TL) 3 K3 :=
 fun_ok (loops := lkup [(6, ⟨[.row 32 false, .row 3 false], [(0, .srow 30), (3, .orow 0), (4, .orow 1), (6, .int .i64), (7, .int .i64), (8, .int .i64), (9, .int .i64)]⟩), (14, ⟨[.row 32 false, .row 3 false], [(0, .srow 30), (3, .orow 0), (4, .orow 1), (6, .int .i64), (7, .int .i64), (8, .int .i64), (10, .int .i64)]⟩), (23, ⟨[.row 32 false, .row 3 false], [(0, .srow 30), (3, .orow 0), (4, .orow 1), (6, .int .i64), (7, .int .i64), (8, .int .i64), (11, .int .i64)]⟩), (32, ⟨[.row 32 false, .row 3 false], [(0, .srow 30), (3, .orow 0), (4, .orow 1), (6, .int .i64), (7, .int .i64), (8, .int .i64), (12, .int .i64), (13, .int .i64), (14, .int .i64)]⟩), (37, ⟨[.row 32 false, .row 3 false], [(0, .srow 30), (3, .orow 0), (4, .orow 1), (6, .int .i64), (7, .int .i64), (8, .int .i64), (12, .int .i64), (13, .int .i64), (15, .int .i64)]⟩), (42, ⟨[.row 32 false, .row 3 false], [(0, .srow 30), (3, .orow 0), (4, .orow 1), (6, .int .i64), (7, .int .i64), (8, .int .i64), (12, .int .i64), (13, .int .i64), (16, .int .i64)]⟩), (28, ⟨[.row 32 false, .row 3 false], [(0, .srow 30), (3, .orow 0), (4, .orow 1), (6, .int .i64), (7, .int .i64), (8, .int .i64), (12, .int .i64)]⟩)]) (joins := lkup [(19, .light [(90, .bool)]), (37, .light [(127, .bool)]), (41, .light [(141, .bool)]), (51, .light [(172, .bool)]), (69, .light [(203, .bool)]), (66, .light [(13, .int .i64)]), (79, .light [(230, .bool)]), (76, .light [(13, .int .i64)]), (86, .light [(13, .int .i64)])]) (md := mdL []) (L := [(10, K10), (11, K11)]) (res := [.tmp 2]) (code := C3) (fn := Tryd.f3) TOKp EOKp MIXp (lkup_cons T10 (lkup_cons T11 lkup_nil)) Tryd.func3 (by kernel_rfl) (by kernel_rfl) (of_decide_eq_false (by kernel_rfl)) (by kernel_rfl) (fun k ds => by kernel_rfl)
def B4x0 (k7 : Nat) (rec8 : List D → Option (List D)) (ds9 : List D) : Option (List D) :=
 bif decide ((gt ds9 3).i < (gt ds9 2).i) then
  (F13 k7 [D.row ((gt ds9 0).r), D.int ((gt ds9 3).i), D.int ((gt ds9 1).i)]).bind fun ds10 =>
  (bif ((gt ds10 1).i != 0) then
    some [D.bool true]
   else bif decide ((gt ds10 0).i < 1) then
    some [D.bool true]
   else some [D.bool (decide ((gt ds10 0).i > 3))]).bind fun ds11 =>
  bif (gt ds11 0).b then
   some [D.bool false]
  else bif decide ((gt ds10 0).i = (0 : Int)) then
   bif decide ((gt ds10 0).i = (0 : Int)) then
    rec8 [D.row ((gt ds9 0).r), D.int ((gt ds9 1).i), D.int ((gt ds9 2).i), D.int (Go.IntKind.i64.wrap ((gt ds9 3).i + 1)), D.int ((gt ds9 4).i), D.int ((gt ds9 5).i), D.int ((gt ds9 6).i), D.int ((gt ds9 7).i), D.int ((gt ds9 8).i), D.int ((gt ds9 9).i), D.int (Go.IntKind.i64.wrap ((gt ds9 10).i + 1)), D.int ((gt ds9 11).i), D.int ((gt ds9 12).i), D.int ((gt ds9 13).i)]
   else bif decide ((gt ds10 0).i = (1 : Int)) then
    rec8 [D.row ((gt ds9 0).r), D.int ((gt ds9 1).i), D.int ((gt ds9 2).i), D.int (Go.IntKind.i64.wrap ((gt ds9 3).i + 1)), D.int ((gt ds9 4).i), D.int ((gt ds9 5).i), D.int ((gt ds9 6).i), D.int ((gt ds9 7).i), D.int ((gt ds9 8).i), D.int ((gt ds9 9).i), D.int ((gt ds9 10).i), D.int (Go.IntKind.i64.wrap ((gt ds9 10).i + 1)), D.int ((gt ds9 12).i), D.int ((gt ds9 13).i)]
   else bif decide ((gt ds10 0).i = (2 : Int)) then
    rec8 [D.row ((gt ds9 0).r), D.int ((gt ds9 1).i), D.int ((gt ds9 2).i), D.int (Go.IntKind.i64.wrap ((gt ds9 3).i + 1)), D.int ((gt ds9 4).i), D.int ((gt ds9 5).i), D.int ((gt ds9 6).i), D.int ((gt ds9 7).i), D.int ((gt ds9 8).i), D.int ((gt ds9 9).i), D.int ((gt ds9 10).i), D.int ((gt ds9 11).i), D.int (Go.IntKind.i64.wrap ((gt ds9 10).i + 1)), D.int ((gt ds9 13).i)]
   else bif decide ((gt ds10 0).i = (3 : Int)) then
    rec8 [D.row ((gt ds9 0).r), D.int ((gt ds9 1).i), D.int ((gt ds9 2).i), D.int (Go.IntKind.i64.wrap ((gt ds9 3).i + 1)), D.int ((gt ds9 4).i), D.int ((gt ds9 5).i), D.int ((gt ds9 6).i), D.int ((gt ds9 7).i), D.int ((gt ds9 8).i), D.int ((gt ds9 9).i), D.int ((gt ds9 10).i), D.int ((gt ds9 11).i), D.int ((gt ds9 12).i), D.int (Go.IntKind.i64.wrap ((gt ds9 10).i + 1))]
   else none
  else bif decide ((gt ds10 0).i = (1 : Int)) then
   bif decide ((gt ds10 0).i = (0 : Int)) then
    rec8 [D.row ((gt ds9 0).r), D.int ((gt ds9 1).i), D.int ((gt ds9 2).i), D.int (Go.IntKind.i64.wrap ((gt ds9 3).i + 1)), D.int ((gt ds9 4).i), D.int ((gt ds9 5).i), D.int ((gt ds9 6).i), D.int ((gt ds9 7).i), D.int ((gt ds9 8).i), D.int ((gt ds9 9).i), D.int (Go.IntKind.i64.wrap ((gt ds9 11).i + 1)), D.int ((gt ds9 11).i), D.int ((gt ds9 12).i), D.int ((gt ds9 13).i)]
   else bif decide ((gt ds10 0).i = (1 : Int)) then
    rec8 [D.row ((gt ds9 0).r), D.int ((gt ds9 1).i), D.int ((gt ds9 2).i), D.int (Go.IntKind.i64.wrap ((gt ds9 3).i + 1)), D.int ((gt ds9 4).i), D.int ((gt ds9 5).i), D.int ((gt ds9 6).i), D.int ((gt ds9 7).i), D.int ((gt ds9 8).i), D.int ((gt ds9 9).i), D.int ((gt ds9 10).i), D.int (Go.IntKind.i64.wrap ((gt ds9 11).i + 1)), D.int ((gt ds9 12).i), D.int ((gt ds9 13).i)]
   else bif decide ((gt ds10 0).i = (2 : Int)) then
    rec8 [D.row ((gt ds9 0).r), D.int ((gt ds9 1).i), D.int ((gt ds9 2).i), D.int (Go.IntKind.i64.wrap ((gt ds9 3).i + 1)), D.int ((gt ds9 4).i), D.int ((gt ds9 5).i), D.int ((gt ds9 6).i), D.int ((gt ds9 7).i), D.int ((gt ds9 8).i), D.int ((gt ds9 9).i), D.int ((gt ds9 10).i), D.int ((gt ds9 11).i), D.int (Go.IntKind.i64.wrap ((gt ds9 11).i + 1)), D.int ((gt ds9 13).i)]
   else bif decide ((gt ds10 0).i = (3 : Int)) then
    rec8 [D.row ((gt ds9 0).r), D.int ((gt ds9 1).i), D.int ((gt ds9 2).i), D.int (Go.IntKind.i64.wrap ((gt ds9 3).i + 1)), D.int ((gt ds9 4).i), D.int ((gt ds9 5).i), D.int ((gt ds9 6).i), D.int ((gt ds9 7).i), D.int ((gt ds9 8).i), D.int ((gt ds9 9).i), D.int ((gt ds9 10).i), D.int ((gt ds9 11).i), D.int ((gt ds9 12).i), D.int (Go.IntKind.i64.wrap ((gt ds9 11).i + 1))]
   else none
  else bif decide ((gt ds10 0).i = (2 : Int)) then
   bif decide ((gt ds10 0).i = (0 : Int)) then
    rec8 [D.row ((gt ds9 0).r), D.int ((gt ds9 1).i), D.int ((gt ds9 2).i), D.int (Go.IntKind.i64.wrap ((gt ds9 3).i + 1)), D.int ((gt ds9 4).i), D.int ((gt ds9 5).i), D.int ((gt ds9 6).i), D.int ((gt ds9 7).i), D.int ((gt ds9 8).i), D.int ((gt ds9 9).i), D.int (Go.IntKind.i64.wrap ((gt ds9 12).i + 1)), D.int ((gt ds9 11).i), D.int ((gt ds9 12).i), D.int ((gt ds9 13).i)]
   else bif decide ((gt ds10 0).i = (1 : Int)) then
    rec8 [D.row ((gt ds9 0).r), D.int ((gt ds9 1).i), D.int ((gt ds9 2).i), D.int (Go.IntKind.i64.wrap ((gt ds9 3).i + 1)), D.int ((gt ds9 4).i), D.int ((gt ds9 5).i), D.int ((gt ds9 6).i), D.int ((gt ds9 7).i), D.int ((gt ds9 8).i), D.int ((gt ds9 9).i), D.int ((gt ds9 10).i), D.int (Go.IntKind.i64.wrap ((gt ds9 12).i + 1)), D.int ((gt ds9 12).i), D.int ((gt ds9 13).i)]
   else bif decide ((gt ds10 0).i = (2 : Int)) then
    rec8 [D.row ((gt ds9 0).r), D.int ((gt ds9 1).i), D.int ((gt ds9 2).i), D.int (Go.IntKind.i64.wrap ((gt ds9 3).i + 1)), D.int ((gt ds9 4).i), D.int ((gt ds9 5).i), D.int ((gt ds9 6).i), D.int ((gt ds9 7).i), D.int ((gt ds9 8).i), D.int ((gt ds9 9).i), D.int ((gt ds9 10).i), D.int ((gt ds9 11).i), D.int (Go.IntKind.i64.wrap ((gt ds9 12).i + 1)), D.int ((gt ds9 13).i)]
   else bif decide ((gt ds10 0).i = (3 : Int)) then
    rec8 [D.row ((gt ds9 0).r), D.int ((gt ds9 1).i), D.int ((gt ds9 2).i), D.int (Go.IntKind.i64.wrap ((gt ds9 3).i + 1)), D.int ((gt ds9 4).i), D.int ((gt ds9 5).i), D.int ((gt ds9 6).i), D.int ((gt ds9 7).i), D.int ((gt ds9 8).i), D.int ((gt ds9 9).i), D.int ((gt ds9 10).i), D.int ((gt ds9 11).i), D.int ((gt ds9 12).i), D.int (Go.IntKind.i64.wrap ((gt ds9 12).i + 1))]
   else none
  else bif decide ((gt ds10 0).i = (3 : Int)) then
   bif decide ((gt ds10 0).i = (0 : Int)) then
    rec8 [D.row ((gt ds9 0).r), D.int ((gt ds9 1).i), D.int ((gt ds9 2).i), D.int (Go.IntKind.i64.wrap ((gt ds9 3).i + 1)), D.int ((gt ds9 4).i), D.int ((gt ds9 5).i), D.int ((gt ds9 6).i), D.int ((gt ds9 7).i), D.int ((gt ds9 8).i), D.int ((gt ds9 9).i), D.int (Go.IntKind.i64.wrap ((gt ds9 13).i + 1)), D.int ((gt ds9 11).i), D.int ((gt ds9 12).i), D.int ((gt ds9 13).i)]
   else bif decide ((gt ds10 0).i = (1 : Int)) then
    rec8 [D.row ((gt ds9 0).r), D.int ((gt ds9 1).i), D.int ((gt ds9 2).i), D.int (Go.IntKind.i64.wrap ((gt ds9 3).i + 1)), D.int ((gt ds9 4).i), D.int ((gt ds9 5).i), D.int ((gt ds9 6).i), D.int ((gt ds9 7).i), D.int ((gt ds9 8).i), D.int ((gt ds9 9).i), D.int ((gt ds9 10).i), D.int (Go.IntKind.i64.wrap ((gt ds9 13).i + 1)), D.int ((gt ds9 12).i), D.int ((gt ds9 13).i)]
   else bif decide ((gt ds10 0).i = (2 : Int)) then
    rec8 [D.row ((gt ds9 0).r), D.int ((gt ds9 1).i), D.int ((gt ds9 2).i), D.int (Go.IntKind.i64.wrap ((gt ds9 3).i + 1)), D.int ((gt ds9 4).i), D.int ((gt ds9 5).i), D.int ((gt ds9 6).i), D.int ((gt ds9 7).i), D.int ((gt ds9 8).i), D.int ((gt ds9 9).i), D.int ((gt ds9 10).i), D.int ((gt ds9 11).i), D.int (Go.IntKind.i64.wrap ((gt ds9 13).i + 1)), D.int ((gt ds9 13).i)]
   else bif decide ((gt ds10 0).i = (3 : Int)) then
    rec8 [D.row ((gt ds9 0).r), D.int ((gt ds9 1).i), D.int ((gt ds9 2).i), D.int (Go.IntKind.i64.wrap ((gt ds9 3).i + 1)), D.int ((gt ds9 4).i), D.int ((gt ds9 5).i), D.int ((gt ds9 6).i), D.int ((gt ds9 7).i), D.int ((gt ds9 8).i), D.int ((gt ds9 9).i), D.int ((gt ds9 10).i), D.int ((gt ds9 11).i), D.int ((gt ds9 12).i), D.int (Go.IntKind.i64.wrap ((gt ds9 13).i + 1))]
   else none
  else none
 else bif ((gt ds9 4).i == (gt ds9 11).i) then
  bif ((gt ds9 5).i == (gt ds9 12).i) then
   bif ((Go.IntKind.i64.wrap ((Go.IntKind.i64.wrap ((gt ds9 6).i + (gt ds9 7).i)) + (gt ds9 8).i)) == (gt ds9 13).i) then
    bif decide ((gt ds9 9).i ≤ (gt ds9 13).i) then
     (F11 k7 []).bind fun ds12 =>
     some [D.bool ((gt ds12 0).b)]
    else some [D.bool false]
   else some [D.bool false]
  else some [D.bool false]
 else some [D.bool false]
def B4x1 (k2 : Nat) (rec3 : List D → Option (List D)) (ds4 : List D) : Option (List D) :=
 bif decide ((gt ds4 3).i < (((gt ds4 0).r).length : Int)) then
  ((bif ((inRow ((gt ds4 3).i) (((gt ds4 0).r).length)) && true) then
     bif (((elAt ((gt ds4 0).r) ((gt ds4 3).i)).c 0).i == 1) then
      bif ((inRow ((gt ds4 3).i) (((gt ds4 0).r).length)) && true) then
       some [D.bool (decide (((elAt ((gt ds4 0).r) ((gt ds4 3).i)).c 1).i ≤ (gt ds4 1).i))]
      else none
     else some [D.bool false]
    else none).bind fun ds5 =>
   bif (gt ds5 0).b then
    some [D.int (Go.IntKind.i64.wrap ((gt ds4 2).i + 1))]
   else some [D.int ((gt ds4 2).i)]).bind fun ds6 =>
  rec3 [D.row ((gt ds4 0).r), D.int ((gt ds4 1).i), D.int ((gt ds6 0).i), D.int (Go.IntKind.i64.wrap ((gt ds4 3).i + 1)), D.int ((gt ds4 4).i), D.int ((gt ds4 5).i), D.int ((gt ds4 6).i), D.int ((gt ds4 7).i), D.int ((gt ds4 8).i), D.int ((gt ds4 9).i)]
 else iter B4x0 k2 [D.row ((gt ds4 0).r), D.int ((gt ds4 1).i), D.int ((gt ds4 2).i), D.int 0, D.int ((gt ds4 4).i), D.int ((gt ds4 5).i), D.int ((gt ds4 6).i), D.int ((gt ds4 7).i), D.int ((gt ds4 8).i), D.int ((gt ds4 9).i), D.int 0, D.int 0, D.int 0, D.int 0]
/-- interchange/interchangelaw7.ReplyStatesAddUp -/
def F4 (k : Nat) (ds : List D) : Option (List D) :=
 (F12 k [D.row ((gt ds 0).r), D.int ((gt ds 1).i)]).bind fun ds0 =>
 bif ((gt ds0 6).i != 0) then
  bif (((gt ds0 0).i == 0) && (((gt ds0 1).i == 0) && (((gt ds0 2).i == 0) && (((gt ds0 3).i == 0) && (((gt ds0 4).i == 0) && (((gt ds0 5).i == 0) && true)))))) then
   (F11 k []).bind fun ds1 =>
   some [D.bool ((gt ds1 0).b)]
  else some [D.bool false]
 else iter B4x1 k [D.row ((gt ds 0).r), D.int ((gt ds 1).i), D.int 0, D.int 0, D.int ((gt ds0 0).i), D.int ((gt ds0 1).i), D.int ((gt ds0 2).i), D.int ((gt ds0 3).i), D.int ((gt ds0 4).i), D.int ((gt ds0 5).i)]
def K4 : Callee := ⟨[.seen 30, .int .i64], [.bool], F4⟩
noncomputable def C4 : Code := match Tryd.f4.body with | some c => c | none => .skip
theorem T4 : FunOK Tryd.prog (tyTab TL) 4 K4 :=
 fun_ok (loops := lkup [(6, ⟨[.box 35 [.int .i64, .int .i64, .int .i64, .int .i64, .int .i64, .int .i64]], [(0, .srow 30), (1, .int .i64), (5, .ptr 0 0), (7, .int .i64), (8, .int .i64)]⟩), (12, ⟨[.box 35 [.int .i64, .int .i64, .int .i64, .int .i64, .int .i64, .int .i64], .box 38 [.int .i64, .int .i64, .int .i64, .int .i64]], [(0, .srow 30), (1, .int .i64), (5, .ptr 0 0), (7, .int .i64), (9, .ptr 1 0), (10, .int .i64)]⟩)]) (joins := lkup [(17, .light [(47, .bool)]), (14, .light [(7, .int .i64)]), (31, .light [(72, .bool)])]) (md := mdL []) (L := [(12, K12), (11, K11), (13, K13)]) (res := [.tmp 4]) (code := C4) (fn := Tryd.f4) TOKp EOKp MIXp (lkup_cons T12 (lkup_cons T11 (lkup_cons T13 lkup_nil))) Tryd.func4 (by kernel_rfl) (by kernel_rfl) (of_decide_eq_false (by kernel_rfl)) (by kernel_rfl) (fun k ds => by kernel_rfl)
/-- interchange/interchangelaw7.ReplyBooksMatchSpec -/
def F5 (k : Nat) (ds : List D) : Option (List D) :=
 (F14 k [D.row ((gt ds 0).r)]).bind fun ds0 =>
 (F10 k [D.row ((gt ds 0).r)]).bind fun ds1 =>
 (F15 k [D.row ((gt ds 0).r)]).bind fun ds2 =>
 (F16 k [D.row ((gt ds 0).r)]).bind fun ds3 =>
 bif ((gt ds2 0).i == (gt ds3 0).i) then
  (F17 k [D.row ((gt ds1 0).r), D.row ((gt ds0 0).r)]).bind fun ds4 =>
  bif (gt ds4 0).b then
   (F18 k [D.row ((gt ds1 1).r), D.row ((gt ds0 1).r)]).bind fun ds5 =>
   bif (gt ds5 0).b then
    bif ((gt ds1 2).i == (gt ds0 2).i) then
     (F11 k []).bind fun ds6 =>
     some [D.bool ((gt ds6 0).b)]
    else some [D.bool false]
   else some [D.bool false]
  else some [D.bool false]
 else some [D.bool false]
def K5 : Callee := ⟨[.seen 30], [.bool], F5⟩
noncomputable def C5 : Code := match Tryd.f5.body with | some c => c | none => .skip
theorem T5 : FunOK Tryd.prog (tyTab TL) 5 K5 :=
 fun_ok (loops := lkup []) (joins := lkup []) (md := mdL []) (L := [(14, K14), (10, K10), (15, K15), (16, K16), (17, K17), (18, K18), (11, K11)]) (res := [.tmp 2]) (code := C5) (fn := Tryd.f5) TOKp EOKp MIXp (lkup_cons T14 (lkup_cons T10 (lkup_cons T15 (lkup_cons T16 (lkup_cons T17 (lkup_cons T18 (lkup_cons T11 lkup_nil))))))) Tryd.func5 (by kernel_rfl) (by kernel_rfl) (of_decide_eq_false (by kernel_rfl)) (by kernel_rfl) (fun k ds => by kernel_rfl)
end Go.Sx
