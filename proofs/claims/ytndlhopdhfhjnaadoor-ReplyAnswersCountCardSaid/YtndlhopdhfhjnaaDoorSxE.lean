import Derived.Test.YtndlhopdhfhjnaaDoorSxShelf
import Derived.Test.YtndlhopdhfhjnaaDoorSxClone
import Derived.WalkKit
import Derived.Test.YtndlhopdhfhjnaaDoorProg
import Derived.Test.YtndlhopdhfhjnaaDoorShelf
set_option linter.unusedVariables false
set_option linter.unusedSimpArgs false
namespace Go.Sx
open Go.Proofs
set_option maxRecDepth 100000
def TL : List (Nat × TyI) := [(3, ⟨false, [.int .i64], [], 8, false, none⟩), (4, ⟨false, [.bool], [], 1, false, none⟩), (5, ⟨false, [.int .u8], [], 1, false, none⟩), (9, ⟨false, [.str], [], 16, false, none⟩), (22, ⟨false, [.sl 30], [], 24, false, none⟩), (23, ⟨false, [.sl 32], [], 24, false, none⟩), (24, ⟨false, [.sl 3], [], 24, false, none⟩), (25, ⟨false, [.int .i64], [], 8, false, none⟩), (30, ⟨true, [.int .i64, .int .i64, .int .i64, .str, .int .i64], [(0, 3), (1, 3), (2, 3), (3, 9), (4, 3)], 48, true, none⟩), (32, ⟨true, [.str, .int .i64, .int .i64, .int .i64, .int .i64], [(0, 9), (1, 3), (2, 3), (3, 3), (4, 3)], 48, true, none⟩), (35, ⟨true, [.int .i64, .int .i64, .int .i64, .int .i64, .int .i64, .int .i64], [(0, 3), (1, 3), (2, 3), (3, 3), (4, 3), (5, 3)], 48, true, none⟩), (38, ⟨true, [.int .i64, .int .i64, .int .i64, .int .i64], [], 32, false, some 3⟩), (45, ⟨false, [.sl 77], [], 24, false, none⟩), (47, ⟨true, [.str, .int .i64, .sl 77], [(0, 9), (1, 3), (2, 45)], 48, false, none⟩), (52, ⟨false, [.sl 9], [], 24, false, none⟩), (60, ⟨false, [.fn], [], 8, false, none⟩), (72, ⟨false, [.map 9 24], [], 8, false, none⟩), (75, ⟨false, [.sl 89], [], 24, false, none⟩), (77, ⟨true, [.str, .int .i64, .sl 89], [(0, 9), (1, 3), (2, 75)], 48, false, none⟩), (86, ⟨false, [.fn], [], 8, false, none⟩), (87, ⟨false, [.sl 134], [], 24, false, none⟩), (89, ⟨true, [.str, .int .i64, .bool, .sl 134, .sl 9], [(0, 9), (1, 3), (2, 4), (3, 87), (4, 52)], 80, false, none⟩), (116, ⟨false, [.fn], [], 8, false, none⟩), (132, ⟨true, [.int .i64, .int .i64, .int .i64], [(0, 3), (1, 3), (2, 3)], 24, false, none⟩), (134, ⟨true, [.int .i64, .int .i64, .int .i64, .int .i64, .int .i64, .str], [(0, 3), (1, 3), (2, 132), (5, 9)], 56, false, none⟩)]
theorem TOKp : TOK Tryd.prog (tyTab TL) := tok_of (by kernel_rfl)
theorem EOKp : EOK Tryd.prog (tyTab TL) := eok_of (show ∀ t ∈ [30, 32, 35], EqOK Tryd.prog (tyTab TL) t from (List.forall_mem_cons.2 ⟨eqOK_of Tryd.stoodInHeld30 Tryd.eqGuardType30 (by kernel_rfl), (List.forall_mem_cons.2 ⟨eqOK_of Tryd.stoodInHeld32 Tryd.eqGuardType32 (by kernel_rfl), (List.forall_mem_cons.2 ⟨eqOK_of Tryd.stoodInHeld35 Tryd.eqGuardType35 (by kernel_rfl), (fun _ h => nomatch h)⟩)⟩)⟩))
theorem MIXp : Tryd.prog.follows .mixedOrders = true := by kernel_rfl
noncomputable def C36 : Code := match Tryd.f36.body with | some c => c | none => .skip
/-- slices.Clone[[]interchange/api.BookEvent,interchange/api.BookEvent]: by hand -/
def F36 : Nat → List D → Option (List D) := (cloneK 30 48).f
def K36 : Callee := (cloneK 30 48)
theorem T36 : FunOK Tryd.prog (tyTab TL) 36 K36 := clone_ok TOKp EOKp MIXp (res := [.tmp 2]) (code := C36) (fn := Tryd.f36) Tryd.func36 (by kernel_rfl) (by kernel_rfl) (of_decide_eq_false (by kernel_rfl)) (by kernel_rfl) (fun k l => by kernel_rfl) (fun k => by kernel_rfl)
/-- strings.Trim: by hand -/
def F51 : Nat → List D → Option (List D) := trimK.f
def K51 : Callee := trimK
theorem T51 : FunOK Tryd.prog (tyTab TL) 51 K51 := trim_ok Tryd.lays160 (by kernel_rfl) Tryd.func51 (of_decide_eq_false (by kernel_rfl)) (Option.isSome_iff_ne_none.1 (by kernel_rfl))
/-- strings.IndexByte: by hand -/
def F107 : Nat → List D → Option (List D) := indexByteK.f
def K107 : Callee := indexByteK
theorem T107 : FunOK Tryd.prog (tyTab TL) 107 K107 := index_byte_ok Tryd.lays137 Tryd.func107 (of_decide_eq_false (by kernel_rfl)) (Option.isSome_iff_ne_none.1 (by kernel_rfl))
def B17x0 (k0 : Nat) (rec1 : List D → Option (List D)) (ds2 : List D) : Option (List D) :=
 bif decide ((gt ds2 3).i < (gt ds2 2).i) then
  bif ((inRow ((gt ds2 3).i) (((gt ds2 0).r).length)) && true) then
   bif ((inRow ((gt ds2 3).i) (((gt ds2 1).r).length)) && true) then
    bif (!((((elAt ((gt ds2 0).r) ((gt ds2 3).i)).c 0).s == ((elAt ((gt ds2 1).r) ((gt ds2 3).i)).c 0).s) && ((((elAt ((gt ds2 0).r) ((gt ds2 3).i)).c 1).i == ((elAt ((gt ds2 1).r) ((gt ds2 3).i)).c 1).i) && ((((elAt ((gt ds2 0).r) ((gt ds2 3).i)).c 2).i == ((elAt ((gt ds2 1).r) ((gt ds2 3).i)).c 2).i) && ((((elAt ((gt ds2 0).r) ((gt ds2 3).i)).c 3).i == ((elAt ((gt ds2 1).r) ((gt ds2 3).i)).c 3).i) && ((((elAt ((gt ds2 0).r) ((gt ds2 3).i)).c 4).i == ((elAt ((gt ds2 1).r) ((gt ds2 3).i)).c 4).i) && true)))))) then
     some [D.bool false]
    else rec1 [D.row ((gt ds2 0).r), D.row ((gt ds2 1).r), D.int ((gt ds2 2).i), D.int (Go.IntKind.i64.wrap ((gt ds2 3).i + 1))]
   else none
  else none
 else some [D.bool true]
/-- slices.Equal[[]interchange/api.Sending,interchange/api.Sending] -/
def F17 (k : Nat) (ds : List D) : Option (List D) :=
 bif ((((gt ds 0).r).length : Int) != (((gt ds 1).r).length : Int)) then
  some [D.bool false]
 else iter B17x0 k [D.row ((gt ds 0).r), D.row ((gt ds 1).r), D.int (((gt ds 0).r).length : Int), D.int 0]
def K17 : Callee := ⟨[.seen 32, .seen 32], [.bool], F17⟩
noncomputable def C17 : Code := match Tryd.f17.body with | some c => c | none => .skip
theorem T17 : FunOK Tryd.prog (tyTab TL) 17 K17 :=
 fun_ok (loops := lkup [(4, ⟨[], [(0, .srow 32), (1, .srow 32), (12, .int .i64), (13, .int .i64)]⟩)]) (joins := lkup []) (md := mdL []) (L := []) (res := [.tmp 4]) (code := C17) (fn := Tryd.f17) TOKp EOKp MIXp lkup_nil Tryd.func17 (by kernel_rfl) (by kernel_rfl) (of_decide_eq_false (by kernel_rfl)) (by kernel_rfl) (fun k ds => by kernel_rfl)
def B18x0 (k0 : Nat) (rec1 : List D → Option (List D)) (ds2 : List D) : Option (List D) :=
 bif decide ((gt ds2 3).i < (gt ds2 2).i) then
  bif ((inRow ((gt ds2 3).i) (((gt ds2 0).r).length)) && true) then
   bif ((inRow ((gt ds2 3).i) (((gt ds2 1).r).length)) && true) then
    bif ((elAt ((gt ds2 0).r) ((gt ds2 3).i)).i != (elAt ((gt ds2 1).r) ((gt ds2 3).i)).i) then
     some [D.bool false]
    else rec1 [D.row ((gt ds2 0).r), D.row ((gt ds2 1).r), D.int ((gt ds2 2).i), D.int (Go.IntKind.i64.wrap ((gt ds2 3).i + 1))]
   else none
  else none
 else some [D.bool true]
/-- slices.Equal[[]int,int] -/
def F18 (k : Nat) (ds : List D) : Option (List D) :=
 bif ((((gt ds 0).r).length : Int) != (((gt ds 1).r).length : Int)) then
  some [D.bool false]
 else iter B18x0 k [D.row ((gt ds 0).r), D.row ((gt ds 1).r), D.int (((gt ds 0).r).length : Int), D.int 0]
def K18 : Callee := ⟨[.seen 3, .seen 3], [.bool], F18⟩
noncomputable def C18 : Code := match Tryd.f18.body with | some c => c | none => .skip
theorem T18 : FunOK Tryd.prog (tyTab TL) 18 K18 :=
 fun_ok (loops := lkup [(4, ⟨[], [(0, .srow 3), (1, .srow 3), (12, .int .i64), (13, .int .i64)]⟩)]) (joins := lkup []) (md := mdL []) (L := []) (res := [.tmp 4]) (code := C18) (fn := Tryd.f18) TOKp EOKp MIXp lkup_nil Tryd.func18 (by kernel_rfl) (by kernel_rfl) (of_decide_eq_false (by kernel_rfl)) (by kernel_rfl) (fun k ds => by kernel_rfl)
def B21x0 (k0 : Nat) (rec1 : List D → Option (List D)) (ds2 : List D) : Option (List D) :=
 bif decide ((gt ds2 3).i < (gt ds2 2).i) then
  bif ((inRow ((gt ds2 3).i) (((gt ds2 0).r).length)) && true) then
   bif ((inRow ((gt ds2 3).i) (((gt ds2 1).r).length)) && true) then
    bif (!((((elAt ((gt ds2 0).r) ((gt ds2 3).i)).c 0).i == ((elAt ((gt ds2 1).r) ((gt ds2 3).i)).c 0).i) && ((((elAt ((gt ds2 0).r) ((gt ds2 3).i)).c 1).i == ((elAt ((gt ds2 1).r) ((gt ds2 3).i)).c 1).i) && ((((elAt ((gt ds2 0).r) ((gt ds2 3).i)).c 2).i == ((elAt ((gt ds2 1).r) ((gt ds2 3).i)).c 2).i) && ((((elAt ((gt ds2 0).r) ((gt ds2 3).i)).c 3).s == ((elAt ((gt ds2 1).r) ((gt ds2 3).i)).c 3).s) && ((((elAt ((gt ds2 0).r) ((gt ds2 3).i)).c 4).i == ((elAt ((gt ds2 1).r) ((gt ds2 3).i)).c 4).i) && true)))))) then
     some [D.bool false]
    else rec1 [D.row ((gt ds2 0).r), D.row ((gt ds2 1).r), D.int ((gt ds2 2).i), D.int (Go.IntKind.i64.wrap ((gt ds2 3).i + 1))]
   else none
  else none
 else some [D.bool true]
/-- slices.Equal[[]interchange/api.BookEvent,interchange/api.BookEvent] -/
def F21 (k : Nat) (ds : List D) : Option (List D) :=
 bif ((((gt ds 0).r).length : Int) != (((gt ds 1).r).length : Int)) then
  some [D.bool false]
 else iter B21x0 k [D.row ((gt ds 0).r), D.row ((gt ds 1).r), D.int (((gt ds 0).r).length : Int), D.int 0]
def K21 : Callee := ⟨[.seen 30, .seen 30], [.bool], F21⟩
noncomputable def C21 : Code := match Tryd.f21.body with | some c => c | none => .skip
theorem T21 : FunOK Tryd.prog (tyTab TL) 21 K21 :=
 fun_ok (loops := lkup [(4, ⟨[], [(0, .srow 30), (1, .srow 30), (12, .int .i64), (13, .int .i64)]⟩)]) (joins := lkup []) (md := mdL []) (L := []) (res := [.tmp 4]) (code := C21) (fn := Tryd.f21) TOKp EOKp MIXp lkup_nil Tryd.func21 (by kernel_rfl) (by kernel_rfl) (of_decide_eq_false (by kernel_rfl)) (by kernel_rfl) (fun k ds => by kernel_rfl)
def B27x0 (k0 : Nat) (rec1 : List D → Option (List D)) (ds2 : List D) : Option (List D) :=
 bif decide ((gt ds2 2).i < (gt ds2 1).i) then
  (bif ((inRow ((gt ds2 2).i) (((gt ds2 0).r).length)) && true) then
    bif (((elAt ((gt ds2 0).r) ((gt ds2 2).i)).c 0).i == 1) then
     bif decide ((ByteArray.size (((elAt ((gt ds2 0).r) ((gt ds2 2).i)).c 3).s)) ≤ 9223372036854775807) then
      bif (needOk (((mGet ((gt ds2 5).r) (((elAt ((gt ds2 0).r) ((gt ds2 2).i)).c 3).s) (D.row [])).r).length + [D.int (((gt ds2 3).r).length : Int)].length) 8) then
       bif decide ((ByteArray.size (((elAt ((gt ds2 0).r) ((gt ds2 2).i)).c 3).s)) ≤ 9223372036854775807) then
        bif ((Nat.blt (((gt ds2 5).r).length) 9223372036854775807) && ((ByteArray.toList (((elAt ((gt ds2 0).r) ((gt ds2 2).i)).c 3).s)) == (ByteArray.toList (((elAt ((gt ds2 0).r) ((gt ds2 2).i)).c 3).s)))) then
         bif (needOk (((gt ds2 3).r).length + [D.agg [D.str (((elAt ((gt ds2 0).r) ((gt ds2 2).i)).c 3).s), D.int (((elAt ((gt ds2 0).r) ((gt ds2 2).i)).c 1).i), D.int (((elAt ((gt ds2 0).r) ((gt ds2 2).i)).c 2).i), D.int (-1), D.int 0]].length) 48) then
          some [D.row ((gt ds2 0).r), D.int ((gt ds2 1).i), D.int ((gt ds2 2).i), D.row ((gt ds2 3).r ++ [D.agg [D.str (((elAt ((gt ds2 0).r) ((gt ds2 2).i)).c 3).s), D.int (((elAt ((gt ds2 0).r) ((gt ds2 2).i)).c 1).i), D.int (((elAt ((gt ds2 0).r) ((gt ds2 2).i)).c 2).i), D.int (-1), D.int 0]]), D.row ((gt ds2 4).r), D.row (mPut ((gt ds2 5).r) (((elAt ((gt ds2 0).r) ((gt ds2 2).i)).c 3).s) (D.row ((mGet ((gt ds2 5).r) (((elAt ((gt ds2 0).r) ((gt ds2 2).i)).c 3).s) (D.row [])).r ++ [D.int (((gt ds2 3).r).length : Int)])))]
         else none
        else none
       else none
      else none
     else none
    else bif decide ((ByteArray.size (((elAt ((gt ds2 0).r) ((gt ds2 2).i)).c 3).s)) ≤ 9223372036854775807) then
     bif ((((mGet ((gt ds2 5).r) (((elAt ((gt ds2 0).r) ((gt ds2 2).i)).c 3).s) (D.row [])).r).length : Int) == 0) then
      bif (needOk (((gt ds2 4).r).length + [D.int ((gt ds2 2).i)].length) 8) then
       some [D.row ((gt ds2 0).r), D.int ((gt ds2 1).i), D.int ((gt ds2 2).i), D.row ((gt ds2 3).r), D.row ((gt ds2 4).r ++ [D.int ((gt ds2 2).i)]), D.row (bif (mHas ((gt ds2 5).r) (((elAt ((gt ds2 0).r) ((gt ds2 2).i)).c 3).s)) then
        (mPut ((gt ds2 5).r) (((elAt ((gt ds2 0).r) ((gt ds2 2).i)).c 3).s) (D.row ((mGet ((gt ds2 5).r) (((elAt ((gt ds2 0).r) ((gt ds2 2).i)).c 3).s) (D.row [])).r)))
       else (gt ds2 5).r)]
      else none
     else bif ((inRow (Go.IntKind.i64.wrap ((((mGet ((gt ds2 5).r) (((elAt ((gt ds2 0).r) ((gt ds2 2).i)).c 3).s) (D.row [])).r).length : Int) - 1)) (((mGet ((gt ds2 5).r) (((elAt ((gt ds2 0).r) ((gt ds2 2).i)).c 3).s) (D.row [])).r).length)) && true) then
      bif ((inRow ((elAt ((mGet ((gt ds2 5).r) (((elAt ((gt ds2 0).r) ((gt ds2 2).i)).c 3).s) (D.row [])).r) (Go.IntKind.i64.wrap ((((mGet ((gt ds2 5).r) (((elAt ((gt ds2 0).r) ((gt ds2 2).i)).c 3).s) (D.row [])).r).length : Int) - 1))).i) (((gt ds2 3).r).length)) && true) then
       bif (decide (0 ≤ (Go.IntKind.i64.wrap ((((mGet ((gt ds2 5).r) (((elAt ((gt ds2 0).r) ((gt ds2 2).i)).c 3).s) (D.row [])).r).length : Int) - 1))) && decide ((Go.IntKind.i64.wrap ((((mGet ((gt ds2 5).r) (((elAt ((gt ds2 0).r) ((gt ds2 2).i)).c 3).s) (D.row [])).r).length : Int) - 1)) ≤ (((mGet ((gt ds2 5).r) (((elAt ((gt ds2 0).r) ((gt ds2 2).i)).c 3).s) (D.row [])).r).length : Int))) then
        bif decide ((ByteArray.size (((elAt ((gt ds2 0).r) ((gt ds2 2).i)).c 3).s)) ≤ 9223372036854775807) then
         bif ((Nat.blt (((gt ds2 5).r).length) 9223372036854775807) && ((ByteArray.toList (((elAt ((gt ds2 0).r) ((gt ds2 2).i)).c 3).s)) == (ByteArray.toList (((elAt ((gt ds2 0).r) ((gt ds2 2).i)).c 3).s)))) then
          some [D.row ((gt ds2 0).r), D.int ((gt ds2 1).i), D.int ((gt ds2 2).i), D.row (List.set (List.set ((gt ds2 3).r) (Int.toNat ((elAt ((mGet ((gt ds2 5).r) (((elAt ((gt ds2 0).r) ((gt ds2 2).i)).c 3).s) (D.row [])).r) (Go.IntKind.i64.wrap ((((mGet ((gt ds2 5).r) (((elAt ((gt ds2 0).r) ((gt ds2 2).i)).c 3).s) (D.row [])).r).length : Int) - 1))).i)) (D.agg [((elAt ((gt ds2 3).r) ((elAt ((mGet ((gt ds2 5).r) (((elAt ((gt ds2 0).r) ((gt ds2 2).i)).c 3).s) (D.row [])).r) (Go.IntKind.i64.wrap ((((mGet ((gt ds2 5).r) (((elAt ((gt ds2 0).r) ((gt ds2 2).i)).c 3).s) (D.row [])).r).length : Int) - 1))).i)).c 0), ((elAt ((gt ds2 3).r) ((elAt ((mGet ((gt ds2 5).r) (((elAt ((gt ds2 0).r) ((gt ds2 2).i)).c 3).s) (D.row [])).r) (Go.IntKind.i64.wrap ((((mGet ((gt ds2 5).r) (((elAt ((gt ds2 0).r) ((gt ds2 2).i)).c 3).s) (D.row [])).r).length : Int) - 1))).i)).c 1), ((elAt ((gt ds2 3).r) ((elAt ((mGet ((gt ds2 5).r) (((elAt ((gt ds2 0).r) ((gt ds2 2).i)).c 3).s) (D.row [])).r) (Go.IntKind.i64.wrap ((((mGet ((gt ds2 5).r) (((elAt ((gt ds2 0).r) ((gt ds2 2).i)).c 3).s) (D.row [])).r).length : Int) - 1))).i)).c 2), D.int (((elAt ((gt ds2 0).r) ((gt ds2 2).i)).c 1).i), ((elAt ((gt ds2 3).r) ((elAt ((mGet ((gt ds2 5).r) (((elAt ((gt ds2 0).r) ((gt ds2 2).i)).c 3).s) (D.row [])).r) (Go.IntKind.i64.wrap ((((mGet ((gt ds2 5).r) (((elAt ((gt ds2 0).r) ((gt ds2 2).i)).c 3).s) (D.row [])).r).length : Int) - 1))).i)).c 4)])) (Int.toNat ((elAt ((mGet ((gt ds2 5).r) (((elAt ((gt ds2 0).r) ((gt ds2 2).i)).c 3).s) (D.row [])).r) (Go.IntKind.i64.wrap ((((mGet ((gt ds2 5).r) (((elAt ((gt ds2 0).r) ((gt ds2 2).i)).c 3).s) (D.row [])).r).length : Int) - 1))).i)) (D.agg [((elAt (List.set ((gt ds2 3).r) (Int.toNat ((elAt ((mGet ((gt ds2 5).r) (((elAt ((gt ds2 0).r) ((gt ds2 2).i)).c 3).s) (D.row [])).r) (Go.IntKind.i64.wrap ((((mGet ((gt ds2 5).r) (((elAt ((gt ds2 0).r) ((gt ds2 2).i)).c 3).s) (D.row [])).r).length : Int) - 1))).i)) (D.agg [((elAt ((gt ds2 3).r) ((elAt ((mGet ((gt ds2 5).r) (((elAt ((gt ds2 0).r) ((gt ds2 2).i)).c 3).s) (D.row [])).r) (Go.IntKind.i64.wrap ((((mGet ((gt ds2 5).r) (((elAt ((gt ds2 0).r) ((gt ds2 2).i)).c 3).s) (D.row [])).r).length : Int) - 1))).i)).c 0), ((elAt ((gt ds2 3).r) ((elAt ((mGet ((gt ds2 5).r) (((elAt ((gt ds2 0).r) ((gt ds2 2).i)).c 3).s) (D.row [])).r) (Go.IntKind.i64.wrap ((((mGet ((gt ds2 5).r) (((elAt ((gt ds2 0).r) ((gt ds2 2).i)).c 3).s) (D.row [])).r).length : Int) - 1))).i)).c 1), ((elAt ((gt ds2 3).r) ((elAt ((mGet ((gt ds2 5).r) (((elAt ((gt ds2 0).r) ((gt ds2 2).i)).c 3).s) (D.row [])).r) (Go.IntKind.i64.wrap ((((mGet ((gt ds2 5).r) (((elAt ((gt ds2 0).r) ((gt ds2 2).i)).c 3).s) (D.row [])).r).length : Int) - 1))).i)).c 2), D.int (((elAt ((gt ds2 0).r) ((gt ds2 2).i)).c 1).i), ((elAt ((gt ds2 3).r) ((elAt ((mGet ((gt ds2 5).r) (((elAt ((gt ds2 0).r) ((gt ds2 2).i)).c 3).s) (D.row [])).r) (Go.IntKind.i64.wrap ((((mGet ((gt ds2 5).r) (((elAt ((gt ds2 0).r) ((gt ds2 2).i)).c 3).s) (D.row [])).r).length : Int) - 1))).i)).c 4)])) ((elAt ((mGet ((gt ds2 5).r) (((elAt ((gt ds2 0).r) ((gt ds2 2).i)).c 3).s) (D.row [])).r) (Go.IntKind.i64.wrap ((((mGet ((gt ds2 5).r) (((elAt ((gt ds2 0).r) ((gt ds2 2).i)).c 3).s) (D.row [])).r).length : Int) - 1))).i)).c 0), ((elAt (List.set ((gt ds2 3).r) (Int.toNat ((elAt ((mGet ((gt ds2 5).r) (((elAt ((gt ds2 0).r) ((gt ds2 2).i)).c 3).s) (D.row [])).r) (Go.IntKind.i64.wrap ((((mGet ((gt ds2 5).r) (((elAt ((gt ds2 0).r) ((gt ds2 2).i)).c 3).s) (D.row [])).r).length : Int) - 1))).i)) (D.agg [((elAt ((gt ds2 3).r) ((elAt ((mGet ((gt ds2 5).r) (((elAt ((gt ds2 0).r) ((gt ds2 2).i)).c 3).s) (D.row [])).r) (Go.IntKind.i64.wrap ((((mGet ((gt ds2 5).r) (((elAt ((gt ds2 0).r) ((gt ds2 2).i)).c 3).s) (D.row [])).r).length : Int) - 1))).i)).c 0), ((elAt ((gt ds2 3).r) ((elAt ((mGet ((gt ds2 5).r) (((elAt ((gt ds2 0).r) ((gt ds2 2).i)).c 3).s) (D.row [])).r) (Go.IntKind.i64.wrap ((((mGet ((gt ds2 5).r) (((elAt ((gt ds2 0).r) ((gt ds2 2).i)).c 3).s) (D.row [])).r).length : Int) - 1))).i)).c 1), ((elAt ((gt ds2 3).r) ((elAt ((mGet ((gt ds2 5).r) (((elAt ((gt ds2 0).r) ((gt ds2 2).i)).c 3).s) (D.row [])).r) (Go.IntKind.i64.wrap ((((mGet ((gt ds2 5).r) (((elAt ((gt ds2 0).r) ((gt ds2 2).i)).c 3).s) (D.row [])).r).length : Int) - 1))).i)).c 2), D.int (((elAt ((gt ds2 0).r) ((gt ds2 2).i)).c 1).i), ((elAt ((gt ds2 3).r) ((elAt ((mGet ((gt ds2 5).r) (((elAt ((gt ds2 0).r) ((gt ds2 2).i)).c 3).s) (D.row [])).r) (Go.IntKind.i64.wrap ((((mGet ((gt ds2 5).r) (((elAt ((gt ds2 0).r) ((gt ds2 2).i)).c 3).s) (D.row [])).r).length : Int) - 1))).i)).c 4)])) ((elAt ((mGet ((gt ds2 5).r) (((elAt ((gt ds2 0).r) ((gt ds2 2).i)).c 3).s) (D.row [])).r) (Go.IntKind.i64.wrap ((((mGet ((gt ds2 5).r) (((elAt ((gt ds2 0).r) ((gt ds2 2).i)).c 3).s) (D.row [])).r).length : Int) - 1))).i)).c 1), ((elAt (List.set ((gt ds2 3).r) (Int.toNat ((elAt ((mGet ((gt ds2 5).r) (((elAt ((gt ds2 0).r) ((gt ds2 2).i)).c 3).s) (D.row [])).r) (Go.IntKind.i64.wrap ((((mGet ((gt ds2 5).r) (((elAt ((gt ds2 0).r) ((gt ds2 2).i)).c 3).s) (D.row [])).r).length : Int) - 1))).i)) (D.agg [((elAt ((gt ds2 3).r) ((elAt ((mGet ((gt ds2 5).r) (((elAt ((gt ds2 0).r) ((gt ds2 2).i)).c 3).s) (D.row [])).r) (Go.IntKind.i64.wrap ((((mGet ((gt ds2 5).r) (((elAt ((gt ds2 0).r) ((gt ds2 2).i)).c 3).s) (D.row [])).r).length : Int) - 1))).i)).c 0), ((elAt ((gt ds2 3).r) ((elAt ((mGet ((gt ds2 5).r) (((elAt ((gt ds2 0).r) ((gt ds2 2).i)).c 3).s) (D.row [])).r) (Go.IntKind.i64.wrap ((((mGet ((gt ds2 5).r) (((elAt ((gt ds2 0).r) ((gt ds2 2).i)).c 3).s) (D.row [])).r).length : Int) - 1))).i)).c 1), ((elAt ((gt ds2 3).r) ((elAt ((mGet ((gt ds2 5).r) (((elAt ((gt ds2 0).r) ((gt ds2 2).i)).c 3).s) (D.row [])).r) (Go.IntKind.i64.wrap ((((mGet ((gt ds2 5).r) (((elAt ((gt ds2 0).r) ((gt ds2 2).i)).c 3).s) (D.row [])).r).length : Int) - 1))).i)).c 2), D.int (((elAt ((gt ds2 0).r) ((gt ds2 2).i)).c 1).i), ((elAt ((gt ds2 3).r) ((elAt ((mGet ((gt ds2 5).r) (((elAt ((gt ds2 0).r) ((gt ds2 2).i)).c 3).s) (D.row [])).r) (Go.IntKind.i64.wrap ((((mGet ((gt ds2 5).r) (((elAt ((gt ds2 0).r) ((gt ds2 2).i)).c 3).s) (D.row [])).r).length : Int) - 1))).i)).c 4)])) ((elAt ((mGet ((gt ds2 5).r) (((elAt ((gt ds2 0).r) ((gt ds2 2).i)).c 3).s) (D.row [])).r) (Go.IntKind.i64.wrap ((((mGet ((gt ds2 5).r) (((elAt ((gt ds2 0).r) ((gt ds2 2).i)).c 3).s) (D.row [])).r).length : Int) - 1))).i)).c 2), ((elAt (List.set ((gt ds2 3).r) (Int.toNat ((elAt ((mGet ((gt ds2 5).r) (((elAt ((gt ds2 0).r) ((gt ds2 2).i)).c 3).s) (D.row [])).r) (Go.IntKind.i64.wrap ((((mGet ((gt ds2 5).r) (((elAt ((gt ds2 0).r) ((gt ds2 2).i)).c 3).s) (D.row [])).r).length : Int) - 1))).i)) (D.agg [((elAt ((gt ds2 3).r) ((elAt ((mGet ((gt ds2 5).r) (((elAt ((gt ds2 0).r) ((gt ds2 2).i)).c 3).s) (D.row [])).r) (Go.IntKind.i64.wrap ((((mGet ((gt ds2 5).r) (((elAt ((gt ds2 0).r) ((gt ds2 2).i)).c 3).s) (D.row [])).r).length : Int) - 1))).i)).c 0), ((elAt ((gt ds2 3).r) ((elAt ((mGet ((gt ds2 5).r) (((elAt ((gt ds2 0).r) ((gt ds2 2).i)).c 3).s) (D.row [])).r) (Go.IntKind.i64.wrap ((((mGet ((gt ds2 5).r) (((elAt ((gt ds2 0).r) ((gt ds2 2).i)).c 3).s) (D.row [])).r).length : Int) - 1))).i)).c 1), ((elAt ((gt ds2 3).r) ((elAt ((mGet ((gt ds2 5).r) (((elAt ((gt ds2 0).r) ((gt ds2 2).i)).c 3).s) (D.row [])).r) (Go.IntKind.i64.wrap ((((mGet ((gt ds2 5).r) (((elAt ((gt ds2 0).r) ((gt ds2 2).i)).c 3).s) (D.row [])).r).length : Int) - 1))).i)).c 2), D.int (((elAt ((gt ds2 0).r) ((gt ds2 2).i)).c 1).i), ((elAt ((gt ds2 3).r) ((elAt ((mGet ((gt ds2 5).r) (((elAt ((gt ds2 0).r) ((gt ds2 2).i)).c 3).s) (D.row [])).r) (Go.IntKind.i64.wrap ((((mGet ((gt ds2 5).r) (((elAt ((gt ds2 0).r) ((gt ds2 2).i)).c 3).s) (D.row [])).r).length : Int) - 1))).i)).c 4)])) ((elAt ((mGet ((gt ds2 5).r) (((elAt ((gt ds2 0).r) ((gt ds2 2).i)).c 3).s) (D.row [])).r) (Go.IntKind.i64.wrap ((((mGet ((gt ds2 5).r) (((elAt ((gt ds2 0).r) ((gt ds2 2).i)).c 3).s) (D.row [])).r).length : Int) - 1))).i)).c 3), D.int (((elAt ((gt ds2 0).r) ((gt ds2 2).i)).c 4).i)])), D.row ((gt ds2 4).r), D.row (mPut ((gt ds2 5).r) (((elAt ((gt ds2 0).r) ((gt ds2 2).i)).c 3).s) (D.row (List.take (Int.toNat (Go.IntKind.i64.wrap ((((mGet ((gt ds2 5).r) (((elAt ((gt ds2 0).r) ((gt ds2 2).i)).c 3).s) (D.row [])).r).length : Int) - 1))) ((mGet ((gt ds2 5).r) (((elAt ((gt ds2 0).r) ((gt ds2 2).i)).c 3).s) (D.row [])).r))))]
         else none
        else none
       else none
      else none
     else none
    else none
   else none).bind fun ds3 =>
  rec1 [D.row ((gt ds3 0).r), D.int ((gt ds3 1).i), D.int (Go.IntKind.i64.wrap ((gt ds3 2).i + 1)), D.row ((gt ds3 3).r), D.row ((gt ds3 4).r), D.row ((gt ds3 5).r)]
 else some [D.row ((gt ds2 3).r), D.row ((gt ds2 4).r)]
/-- interchange/reply.book -/
def F27 (k : Nat) (ds : List D) : Option (List D) :=
 iter B27x0 k [D.row ((gt ds 0).r), D.int (((gt ds 0).r).length : Int), D.int 0, D.row [], D.row [], D.row []]
def K27 : Callee := ⟨[.seen 30], [.own 32, .own 3], F27⟩
noncomputable def C27 : Code := match Tryd.f27.body with | some c => c | none => .skip
theorem T27 : FunOK Tryd.prog (tyTab TL) 27 K27 :=
 fun_ok (loops := lkup [(5, ⟨[.row 32 false, .row 3 false, .map 3 true], [(4, .orow 0), (5, .orow 1), (6, .mapr 2), (12, .srow 30), (13, .int .i64), (14, .int .i64)]⟩)]) (joins := lkup [(32, .full ⟨[.row 32 false, .row 3 false, .map 3 true], [(4, .orow 0), (5, .orow 1), (6, .mapr 2), (12, .srow 30), (13, .int .i64), (14, .int .i64)]⟩)]) (md := mdL [(15, 7, 1)]) (L := []) (res := [.tmp 2, .tmp 3]) (code := C27) (fn := Tryd.f27) TOKp EOKp MIXp lkup_nil Tryd.func27 (by kernel_rfl) (by kernel_rfl) (of_decide_eq_false (by kernel_rfl)) (by kernel_rfl) (fun k ds => by kernel_rfl)
def B29x0 (k0 : Nat) (rec1 : List D → Option (List D)) (ds2 : List D) : Option (List D) :=
 (bif decide ((gt ds2 2).i < (((gt ds2 0).r).length : Int)) then
   bif ((inRow ((gt ds2 2).i) (((gt ds2 0).r).length)) && true) then
    some [D.bool (decide (((elAt ((gt ds2 0).r) ((gt ds2 2).i)).c 1).i ≤ (gt ds2 1).i))]
   else none
  else some [D.bool false]).bind fun ds3 =>
 bif (gt ds3 0).b then
  rec1 [D.row ((gt ds2 0).r), D.int ((gt ds2 1).i), D.int (Go.IntKind.i64.wrap ((gt ds2 2).i + 1))]
 else bif (decide (0 ≤ (gt ds2 2).i) && decide ((gt ds2 2).i ≤ (((gt ds2 0).r).length : Int))) then
  (F27 k0 [D.row (List.drop 0 (List.take (Int.toNat ((gt ds2 2).i)) ((gt ds2 0).r)))]).bind fun ds4 =>
  some [D.row ((gt ds4 0).r)]
 else none
/-- interchange/reply.at -/
def F29 (k : Nat) (ds : List D) : Option (List D) :=
 iter B29x0 k [D.row ((gt ds 0).r), D.int ((gt ds 1).i), D.int 0]
def K29 : Callee := ⟨[.seen 30, .int .i64], [.own 32], F29⟩
noncomputable def C29 : Code := match Tryd.f29.body with | some c => c | none => .skip
theorem T29 : FunOK Tryd.prog (tyTab TL) 29 K29 :=
 fun_ok (loops := lkup [(2, ⟨[], [(0, .srow 30), (1, .int .i64), (5, .int .i64)]⟩)]) (joins := lkup [(5, .light [(20, .bool)])]) (md := mdL []) (L := [(27, K27)]) (res := [.tmp 4]) (code := C29) (fn := Tryd.f29) TOKp EOKp MIXp (lkup_cons T27 lkup_nil) Tryd.func29 (by kernel_rfl) (by kernel_rfl) (of_decide_eq_false (by kernel_rfl)) (by kernel_rfl) (fun k ds => by kernel_rfl)
/-- interchange/reply.stateOf -/
def F30 (k : Nat) (ds : List D) : Option (List D) :=
 bif decide ((gt ds 3).i ≥ 0) then
  some [D.int 3]
 else bif decide ((gt ds 5).i > (gt ds 2).i) then
  some [D.int 2]
 else some [D.int 1]
def K30 : Callee := ⟨[.agg [.str, .int .i64, .int .i64, .int .i64, .int .i64], .int .i64], [.int .i64], F30⟩
noncomputable def C30 : Code := match Tryd.f30.body with | some c => c | none => .skip
theorem T30 : FunOK Tryd.prog (tyTab TL) 30 K30 :=
 fun_ok (loops := lkup []) (joins := lkup []) (md := mdL []) (L := []) (res := [.tmp 4]) (code := C30) (fn := Tryd.f30) TOKp EOKp MIXp lkup_nil Tryd.func30 (by kernel_rfl) (by kernel_rfl) (of_decide_eq_false (by kernel_rfl)) (by kernel_rfl) (fun k ds => by kernel_rfl)
/-- interchange/kit.Outside -/
def F31 (k : Nat) (ds : List D) : Option (List D) :=
 bif decide ((gt ds 0).i < (gt ds 1).i) then
  some [D.bool true]
 else some [D.bool (decide ((gt ds 0).i > (gt ds 2).i))]
def K31 : Callee := ⟨[.int .i64, .int .i64, .int .i64], [.bool], F31⟩
noncomputable def C31 : Code := match Tryd.f31.body with | some c => c | none => .skip
theorem T31 : FunOK Tryd.prog (tyTab TL) 31 K31 :=
 fun_ok (loops := lkup []) (joins := lkup []) (md := mdL []) (L := []) (res := [.tmp 6]) (code := C31) (fn := Tryd.f31) TOKp EOKp MIXp lkup_nil Tryd.func31 (by kernel_rfl) (by kernel_rfl) (of_decide_eq_false (by kernel_rfl)) (by kernel_rfl) (fun k ds => by kernel_rfl)
def B32x0 (k3 : Nat) (rec4 : List D → Option (List D)) (ds5 : List D) : Option (List D) :=
 (bif decide ((gt ds5 3).i ≥ 0) then
   bif ((inRow ((gt ds5 3).i) (((gt ds5 4).r).length)) && true) then
    bif ((inRow ((gt ds5 2).i) (((gt ds5 0).r).length)) && true) then
     bif (!((ByteArray.toList (((elAt ((gt ds5 4).r) ((gt ds5 3).i)).c 0).s)) == (ByteArray.toList (((elAt ((gt ds5 0).r) ((gt ds5 2).i)).c 3).s)))) then
      some [D.bool true]
     else bif ((inRow ((gt ds5 3).i) (((gt ds5 4).r).length)) && true) then
      some [D.bool (decide (((elAt ((gt ds5 4).r) ((gt ds5 3).i)).c 3).i ≥ 0))]
     else none
    else none
   else none
  else some [D.bool false]).bind fun ds6 =>
 bif (gt ds6 0).b then
  rec4 [D.row ((gt ds5 0).r), D.int ((gt ds5 1).i), D.int ((gt ds5 2).i), D.int (Go.IntKind.i64.wrap ((gt ds5 3).i - 1)), D.row ((gt ds5 4).r), D.row ((gt ds5 5).r)]
 else bif decide ((gt ds5 3).i < 0) then
  bif (needOk (((gt ds5 5).r).length + [D.int ((gt ds5 2).i)].length) 8) then
   some [D.row ((gt ds5 0).r), D.int ((gt ds5 1).i), D.int ((gt ds5 2).i), D.row ((gt ds5 4).r), D.row ((gt ds5 5).r ++ [D.int ((gt ds5 2).i)])]
  else none
 else bif ((inRow ((gt ds5 2).i) (((gt ds5 0).r).length)) && true) then
  bif ((inRow ((gt ds5 2).i) (((gt ds5 0).r).length)) && true) then
   bif ((inRow ((gt ds5 3).i) (((gt ds5 4).r).length)) && true) then
    bif ((inRow ((gt ds5 3).i) ((List.set ((gt ds5 4).r) (Int.toNat ((gt ds5 3).i)) (D.agg [((elAt ((gt ds5 4).r) ((gt ds5 3).i)).c 0), ((elAt ((gt ds5 4).r) ((gt ds5 3).i)).c 1), ((elAt ((gt ds5 4).r) ((gt ds5 3).i)).c 2), D.int (((elAt ((gt ds5 0).r) ((gt ds5 2).i)).c 1).i), ((elAt ((gt ds5 4).r) ((gt ds5 3).i)).c 4)])).length)) && true) then
     some [D.row ((gt ds5 0).r), D.int ((gt ds5 1).i), D.int ((gt ds5 2).i), D.row (List.set (List.set ((gt ds5 4).r) (Int.toNat ((gt ds5 3).i)) (D.agg [((elAt ((gt ds5 4).r) ((gt ds5 3).i)).c 0), ((elAt ((gt ds5 4).r) ((gt ds5 3).i)).c 1), ((elAt ((gt ds5 4).r) ((gt ds5 3).i)).c 2), D.int (((elAt ((gt ds5 0).r) ((gt ds5 2).i)).c 1).i), ((elAt ((gt ds5 4).r) ((gt ds5 3).i)).c 4)])) (Int.toNat ((gt ds5 3).i)) (D.agg [((elAt (List.set ((gt ds5 4).r) (Int.toNat ((gt ds5 3).i)) (D.agg [((elAt ((gt ds5 4).r) ((gt ds5 3).i)).c 0), ((elAt ((gt ds5 4).r) ((gt ds5 3).i)).c 1), ((elAt ((gt ds5 4).r) ((gt ds5 3).i)).c 2), D.int (((elAt ((gt ds5 0).r) ((gt ds5 2).i)).c 1).i), ((elAt ((gt ds5 4).r) ((gt ds5 3).i)).c 4)])) ((gt ds5 3).i)).c 0), ((elAt (List.set ((gt ds5 4).r) (Int.toNat ((gt ds5 3).i)) (D.agg [((elAt ((gt ds5 4).r) ((gt ds5 3).i)).c 0), ((elAt ((gt ds5 4).r) ((gt ds5 3).i)).c 1), ((elAt ((gt ds5 4).r) ((gt ds5 3).i)).c 2), D.int (((elAt ((gt ds5 0).r) ((gt ds5 2).i)).c 1).i), ((elAt ((gt ds5 4).r) ((gt ds5 3).i)).c 4)])) ((gt ds5 3).i)).c 1), ((elAt (List.set ((gt ds5 4).r) (Int.toNat ((gt ds5 3).i)) (D.agg [((elAt ((gt ds5 4).r) ((gt ds5 3).i)).c 0), ((elAt ((gt ds5 4).r) ((gt ds5 3).i)).c 1), ((elAt ((gt ds5 4).r) ((gt ds5 3).i)).c 2), D.int (((elAt ((gt ds5 0).r) ((gt ds5 2).i)).c 1).i), ((elAt ((gt ds5 4).r) ((gt ds5 3).i)).c 4)])) ((gt ds5 3).i)).c 2), ((elAt (List.set ((gt ds5 4).r) (Int.toNat ((gt ds5 3).i)) (D.agg [((elAt ((gt ds5 4).r) ((gt ds5 3).i)).c 0), ((elAt ((gt ds5 4).r) ((gt ds5 3).i)).c 1), ((elAt ((gt ds5 4).r) ((gt ds5 3).i)).c 2), D.int (((elAt ((gt ds5 0).r) ((gt ds5 2).i)).c 1).i), ((elAt ((gt ds5 4).r) ((gt ds5 3).i)).c 4)])) ((gt ds5 3).i)).c 3), D.int (((elAt ((gt ds5 0).r) ((gt ds5 2).i)).c 4).i)])), D.row ((gt ds5 5).r)]
    else none
   else none
  else none
 else none
def B32x1 (k0 : Nat) (rec1 : List D → Option (List D)) (ds2 : List D) : Option (List D) :=
 bif decide ((gt ds2 2).i < (((gt ds2 0).r).length : Int)) then
  (bif ((inRow ((gt ds2 2).i) (((gt ds2 0).r).length)) && true) then
    bif decide (((elAt ((gt ds2 0).r) ((gt ds2 2).i)).c 1).i > (gt ds2 1).i) then
     some [D.row ((gt ds2 0).r), D.int ((gt ds2 1).i), D.int ((gt ds2 2).i), D.row ((gt ds2 3).r), D.row ((gt ds2 4).r)]
    else bif ((inRow ((gt ds2 2).i) (((gt ds2 0).r).length)) && true) then
     bif (((elAt ((gt ds2 0).r) ((gt ds2 2).i)).c 0).i == 1) then
      bif ((inRow ((gt ds2 2).i) (((gt ds2 0).r).length)) && true) then
       bif ((inRow ((gt ds2 2).i) (((gt ds2 0).r).length)) && true) then
        bif ((inRow ((gt ds2 2).i) (((gt ds2 0).r).length)) && true) then
         bif (needOk (((gt ds2 3).r).length + [D.agg [D.str (((elAt ((gt ds2 0).r) ((gt ds2 2).i)).c 3).s), D.int (((elAt ((gt ds2 0).r) ((gt ds2 2).i)).c 1).i), D.int (((elAt ((gt ds2 0).r) ((gt ds2 2).i)).c 2).i), D.int (-1), D.int 0]].length) 48) then
          some [D.row ((gt ds2 0).r), D.int ((gt ds2 1).i), D.int ((gt ds2 2).i), D.row ((gt ds2 3).r ++ [D.agg [D.str (((elAt ((gt ds2 0).r) ((gt ds2 2).i)).c 3).s), D.int (((elAt ((gt ds2 0).r) ((gt ds2 2).i)).c 1).i), D.int (((elAt ((gt ds2 0).r) ((gt ds2 2).i)).c 2).i), D.int (-1), D.int 0]]), D.row ((gt ds2 4).r)]
         else none
        else none
       else none
      else none
     else iter B32x0 k0 [D.row ((gt ds2 0).r), D.int ((gt ds2 1).i), D.int ((gt ds2 2).i), D.int (Go.IntKind.i64.wrap ((((gt ds2 3).r).length : Int) - 1)), D.row ((gt ds2 3).r), D.row ((gt ds2 4).r)]
    else none
   else none).bind fun ds7 =>
  rec1 [D.row ((gt ds7 0).r), D.int ((gt ds7 1).i), D.int (Go.IntKind.i64.wrap ((gt ds7 2).i + 1)), D.row ((gt ds7 3).r), D.row ((gt ds7 4).r)]
 else some [D.row ((gt ds2 3).r), D.row ((gt ds2 4).r)]
/-- interchange/interchangeref7.book -/
def F32 (k : Nat) (ds : List D) : Option (List D) :=
 iter B32x1 k [D.row ((gt ds 0).r), D.int ((gt ds 1).i), D.int 0, D.row [], D.row []]
def K32 : Callee := ⟨[.seen 30, .int .i64], [.own 32, .own 3], F32⟩
noncomputable def C32 : Code := match Tryd.f32.body with | some c => c | none => .skip
theorem T32 : FunOK Tryd.prog (tyTab TL) 32 K32 :=
 fun_ok (loops := lkup [(10, ⟨[.row 32 false, .row 3 false], [(0, .srow 30), (1, .int .i64), (6, .orow 0), (7, .orow 1), (8, .int .i64), (9, .int .i64)]⟩), (4, ⟨[.row 32 false, .row 3 false], [(0, .srow 30), (1, .int .i64), (6, .orow 0), (7, .orow 1), (8, .int .i64)]⟩)]) (joins := lkup [(21, .light [(73, .bool)]), (10, .full ⟨[.row 32 false, .row 3 false], [(0, .srow 30), (1, .int .i64), (6, .orow 0), (7, .orow 1), (8, .int .i64)]⟩)]) (md := mdL []) (L := []) (res := [.tmp 4, .tmp 5]) (code := C32) (fn := Tryd.f32) TOKp EOKp MIXp lkup_nil Tryd.func32 (by kernel_rfl) (by kernel_rfl) (of_decide_eq_false (by kernel_rfl)) (by kernel_rfl) (fun k ds => by kernel_rfl)
/-- interchange/interchangeref7.within -/
def F38 (k : Nat) (ds : List D) : Option (List D) :=
 bif decide ((gt ds 0).i ≥ (gt ds 1).i) then
  some [D.bool (decide ((gt ds 0).i ≤ (gt ds 2).i))]
 else some [D.bool false]
def K38 : Callee := ⟨[.int .i64, .int .i64, .int .i64], [.bool], F38⟩
noncomputable def C38 : Code := match Tryd.f38.body with | some c => c | none => .skip
theorem T38 : FunOK Tryd.prog (tyTab TL) 38 K38 :=
 fun_ok (loops := lkup []) (joins := lkup []) (md := mdL []) (L := []) (res := [.tmp 6]) (code := C38) (fn := Tryd.f38) TOKp EOKp MIXp lkup_nil Tryd.func38 (by kernel_rfl) (by kernel_rfl) (of_decide_eq_false (by kernel_rfl)) (by kernel_rfl) (fun k ds => by kernel_rfl)
def B41x0 (k0 : Nat) (rec1 : List D → Option (List D)) (ds2 : List D) : Option (List D) :=
 bif decide ((gt ds2 1).i < ((ByteArray.size ((gt ds2 0).s)) : Int)) then
  (bif (((inRow ((gt ds2 1).i) (ByteArray.size ((gt ds2 0).s))) && true) && true) then
    bif decide (((UInt8.toNat (List.getD (ByteArray.toList ((gt ds2 0).s)) (Int.toNat ((gt ds2 1).i)) 0)) : Int) ≥ 65) then
     bif (((inRow ((gt ds2 1).i) (ByteArray.size ((gt ds2 0).s))) && true) && true) then
      bif decide (((UInt8.toNat (List.getD (ByteArray.toList ((gt ds2 0).s)) (Int.toNat ((gt ds2 1).i)) 0)) : Int) ≤ 90) then
       some [D.bool false]
      else bif (((inRow ((gt ds2 1).i) (ByteArray.size ((gt ds2 0).s))) && true) && true) then
       bif decide (((UInt8.toNat (List.getD (ByteArray.toList ((gt ds2 0).s)) (Int.toNat ((gt ds2 1).i)) 0)) : Int) ≥ 48) then
        bif (((inRow ((gt ds2 1).i) (ByteArray.size ((gt ds2 0).s))) && true) && true) then
         bif decide (((UInt8.toNat (List.getD (ByteArray.toList ((gt ds2 0).s)) (Int.toNat ((gt ds2 1).i)) 0)) : Int) ≤ 57) then
          some [D.bool false]
         else bif (((inRow ((gt ds2 1).i) (ByteArray.size ((gt ds2 0).s))) && true) && true) then
          some [D.bool (!(((UInt8.toNat (List.getD (ByteArray.toList ((gt ds2 0).s)) (Int.toNat ((gt ds2 1).i)) 0)) : Int) == 45))]
         else none
        else none
       else bif (((inRow ((gt ds2 1).i) (ByteArray.size ((gt ds2 0).s))) && true) && true) then
        some [D.bool (!(((UInt8.toNat (List.getD (ByteArray.toList ((gt ds2 0).s)) (Int.toNat ((gt ds2 1).i)) 0)) : Int) == 45))]
       else none
      else none
     else none
    else bif (((inRow ((gt ds2 1).i) (ByteArray.size ((gt ds2 0).s))) && true) && true) then
     bif decide (((UInt8.toNat (List.getD (ByteArray.toList ((gt ds2 0).s)) (Int.toNat ((gt ds2 1).i)) 0)) : Int) ≥ 48) then
      bif (((inRow ((gt ds2 1).i) (ByteArray.size ((gt ds2 0).s))) && true) && true) then
       bif decide (((UInt8.toNat (List.getD (ByteArray.toList ((gt ds2 0).s)) (Int.toNat ((gt ds2 1).i)) 0)) : Int) ≤ 57) then
        some [D.bool false]
       else bif (((inRow ((gt ds2 1).i) (ByteArray.size ((gt ds2 0).s))) && true) && true) then
        some [D.bool (!(((UInt8.toNat (List.getD (ByteArray.toList ((gt ds2 0).s)) (Int.toNat ((gt ds2 1).i)) 0)) : Int) == 45))]
       else none
      else none
     else bif (((inRow ((gt ds2 1).i) (ByteArray.size ((gt ds2 0).s))) && true) && true) then
      some [D.bool (!(((UInt8.toNat (List.getD (ByteArray.toList ((gt ds2 0).s)) (Int.toNat ((gt ds2 1).i)) 0)) : Int) == 45))]
     else none
    else none
   else none).bind fun ds3 =>
  bif (gt ds3 0).b then
   some [D.bool false]
  else rec1 [D.str ((gt ds2 0).s), D.int (Go.IntKind.i64.wrap ((gt ds2 1).i + 1))]
 else bif (!((ByteArray.toList ((gt ds2 0).s)) == (ByteArray.toList (ByteArray.mk #[])))) then
  some [D.bool (decide (((ByteArray.size ((gt ds2 0).s)) : Int) ≤ 14))]
 else some [D.bool false]
/-- interchange/interchangeref2.IsReference -/
def F41 (k : Nat) (ds : List D) : Option (List D) :=
 iter B41x0 k [D.str ((gt ds 0).s), D.int 0]
def K41 : Callee := ⟨[.str], [.bool], F41⟩
noncomputable def C41 : Code := match Tryd.f41.body with | some c => c | none => .skip
theorem T41 : FunOK Tryd.prog (tyTab TL) 41 K41 :=
 fun_ok (loops := lkup [(2, ⟨[], [(0, .str), (3, .int .i64)]⟩)]) (joins := lkup [(9, .light [(38, .bool)])]) (md := mdL []) (L := []) (res := [.tmp 2]) (code := C41) (fn := Tryd.f41) TOKp EOKp MIXp lkup_nil Tryd.func41 (by kernel_rfl) (by kernel_rfl) (of_decide_eq_false (by kernel_rfl)) (by kernel_rfl) (fun k ds => by kernel_rfl)
/-- interchange/interchangeref7.isVerdict -/
def F42 (k : Nat) (ds : List D) : Option (List D) :=
 (F38 k [D.int ((gt ds 0).i), D.int 1, D.int 3]).bind fun ds0 =>
 some [D.bool ((gt ds0 0).b)]
def K42 : Callee := ⟨[.int .i64], [.bool], F42⟩
noncomputable def C42 : Code := match Tryd.f42.body with | some c => c | none => .skip
theorem T42 : FunOK Tryd.prog (tyTab TL) 42 K42 :=
 fun_ok (loops := lkup []) (joins := lkup []) (md := mdL []) (L := [(38, K38)]) (res := [.tmp 2]) (code := C42) (fn := Tryd.f42) TOKp EOKp MIXp (lkup_cons T38 lkup_nil) Tryd.func42 (by kernel_rfl) (by kernel_rfl) (of_decide_eq_false (by kernel_rfl)) (by kernel_rfl) (fun k ds => by kernel_rfl)
/-- interchange/kit.IsRef -/
def F43 (k : Nat) (ds : List D) : Option (List D) :=
 bif decide (((ByteArray.size ((gt ds 0).s)) : Int) ≥ 1) then
  bif decide (((ByteArray.size ((gt ds 0).s)) : Int) ≤ 14) then
   (F51 k [D.str ((gt ds 0).s), D.str (ByteArray.mk #[65, 66, 67, 68, 69, 70, 71, 72, 73, 74, 75, 76, 77, 78, 79, 80, 81, 82, 83, 84, 85, 86, 87, 88, 89, 90, 48, 49, 50, 51, 52, 53, 54, 55, 56, 57, 45])]).bind fun ds0 =>
   some [D.bool ((ByteArray.toList ((gt ds0 0).s)) == (ByteArray.toList (ByteArray.mk #[])))]
  else some [D.bool false]
 else some [D.bool false]
def K43 : Callee := ⟨[.str], [.bool], F43⟩
noncomputable def C43 : Code := match Tryd.f43.body with | some c => c | none => .skip
theorem T43 : FunOK Tryd.prog (tyTab TL) 43 K43 :=
 fun_ok (loops := lkup []) (joins := lkup []) (md := mdL []) (L := [(51, K51)]) (res := [.tmp 2]) (code := C43) (fn := Tryd.f43) TOKp EOKp MIXp (lkup_cons T51 lkup_nil) Tryd.func43 (by kernel_rfl) (by kernel_rfl) (of_decide_eq_false (by kernel_rfl)) (by kernel_rfl) (fun k ds => by kernel_rfl)
/-- interchange/reply.isVerdict -/
def F44 (k : Nat) (ds : List D) : Option (List D) :=
 (F31 k [D.int ((gt ds 0).i), D.int 1, D.int 3]).bind fun ds0 =>
 some [D.bool (!(gt ds0 0).b)]
def K44 : Callee := ⟨[.int .i64], [.bool], F44⟩
noncomputable def C44 : Code := match Tryd.f44.body with | some c => c | none => .skip
theorem T44 : FunOK Tryd.prog (tyTab TL) 44 K44 :=
 fun_ok (loops := lkup []) (joins := lkup []) (md := mdL []) (L := [(31, K31)]) (res := [.tmp 2]) (code := C44) (fn := Tryd.f44) TOKp EOKp MIXp (lkup_cons T31 lkup_nil) Tryd.func44 (by kernel_rfl) (by kernel_rfl) (of_decide_eq_false (by kernel_rfl)) (by kernel_rfl) (fun k ds => by kernel_rfl)
def B59x0 (k0 : Nat) (rec1 : List D → Option (List D)) (ds2 : List D) : Option (List D) :=
 bif decide ((gt ds2 3).i < (((gt ds2 0).r).length : Int)) then
  (bif (gt ds2 1).b then
    bif (gt ds2 1).b then
     bif (gt ds2 1).b then
      bif ((inRow ((gt ds2 3).i) (((gt ds2 0).r).length)) && true) then
       bif (gt ds2 1).b then
        bif (gt ds2 1).b then
         some [D.bool (bif (gt ds2 1).b then
          ((elAt ((gt ds2 0).r) ((gt ds2 3).i)).i == 1)
         else false)]
        else bif (gt ds2 1).b then
         none
        else some [D.bool false]
       else bif (gt ds2 1).b then
        none
       else bif (gt ds2 1).b then
        none
       else some [D.bool false]
      else none
     else bif (gt ds2 1).b then
      none
     else bif (gt ds2 1).b then
      none
     else bif (gt ds2 1).b then
      none
     else some [D.bool false]
    else bif (gt ds2 1).b then
     none
    else bif (gt ds2 1).b then
     none
    else bif (gt ds2 1).b then
     none
    else bif (gt ds2 1).b then
     none
    else some [D.bool false]
   else bif (gt ds2 1).b then
    bif (gt ds2 1).b then
     none
    else bif (gt ds2 1).b then
     none
    else bif (gt ds2 1).b then
     none
    else bif (gt ds2 1).b then
     none
    else some [D.bool false]
   else bif (gt ds2 1).b then
    none
   else bif (gt ds2 1).b then
    none
   else bif (gt ds2 1).b then
    none
   else bif (gt ds2 1).b then
    none
   else some [D.bool false]).bind fun ds3 =>
  bif (gt ds2 2).b then
   bif (gt ds2 2).b then
    bif (gt ds2 2).b then
     bif ((inRow ((gt ds2 3).i) (((gt ds2 0).r).length)) && true) then
      bif (gt ds2 2).b then
       bif (gt ds2 2).b then
        rec1 [D.row ((gt ds2 0).r), D.bool ((gt ds3 0).b), D.bool (bif (gt ds2 2).b then
         ((elAt ((gt ds2 0).r) ((gt ds2 3).i)).i == 3)
        else false), D.int (Go.IntKind.i64.wrap ((gt ds2 3).i + 1))]
       else bif (gt ds2 2).b then
        none
       else rec1 [D.row ((gt ds2 0).r), D.bool ((gt ds3 0).b), D.bool false, D.int (Go.IntKind.i64.wrap ((gt ds2 3).i + 1))]
      else bif (gt ds2 2).b then
       none
      else bif (gt ds2 2).b then
       none
      else rec1 [D.row ((gt ds2 0).r), D.bool ((gt ds3 0).b), D.bool false, D.int (Go.IntKind.i64.wrap ((gt ds2 3).i + 1))]
     else none
    else bif (gt ds2 2).b then
     none
    else bif (gt ds2 2).b then
     none
    else bif (gt ds2 2).b then
     none
    else rec1 [D.row ((gt ds2 0).r), D.bool ((gt ds3 0).b), D.bool false, D.int (Go.IntKind.i64.wrap ((gt ds2 3).i + 1))]
   else bif (gt ds2 2).b then
    none
   else bif (gt ds2 2).b then
    none
   else bif (gt ds2 2).b then
    none
   else bif (gt ds2 2).b then
    none
   else rec1 [D.row ((gt ds2 0).r), D.bool ((gt ds3 0).b), D.bool false, D.int (Go.IntKind.i64.wrap ((gt ds2 3).i + 1))]
  else bif (gt ds2 2).b then
   bif (gt ds2 2).b then
    none
   else bif (gt ds2 2).b then
    none
   else bif (gt ds2 2).b then
    none
   else bif (gt ds2 2).b then
    none
   else rec1 [D.row ((gt ds2 0).r), D.bool ((gt ds3 0).b), D.bool false, D.int (Go.IntKind.i64.wrap ((gt ds2 3).i + 1))]
  else bif (gt ds2 2).b then
   none
  else bif (gt ds2 2).b then
   none
  else bif (gt ds2 2).b then
   none
  else bif (gt ds2 2).b then
   none
  else rec1 [D.row ((gt ds2 0).r), D.bool ((gt ds3 0).b), D.bool false, D.int (Go.IntKind.i64.wrap ((gt ds2 3).i + 1))]
 else bif (gt ds2 1).b then
  some [D.int 1]
 else bif (gt ds2 2).b then
  some [D.int 3]
 else some [D.int 2]
/-- interchange/interchangeref7.together -/
def F59 (k : Nat) (ds : List D) : Option (List D) :=
 iter B59x0 k [D.row ((gt ds 0).r), D.bool true, D.bool true, D.int 0]
def K59 : Callee := ⟨[.seen 3], [.int .i64], F59⟩
noncomputable def C59 : Code := match Tryd.f59.body with | some c => c | none => .skip
theorem T59 : FunOK Tryd.prog (tyTab TL) 59 K59 :=
 fun_ok (loops := lkup [(3, ⟨[], [(0, .srow 3), (3, .bool), (4, .bool), (5, .int .i64)]⟩)]) (joins := lkup [(11, .light [(3, .bool)])]) (md := mdL []) (L := []) (res := [.tmp 2]) (code := C59) (fn := Tryd.f59) TOKp EOKp MIXp lkup_nil Tryd.func59 (by kernel_rfl) (by kernel_rfl) (of_decide_eq_false (by kernel_rfl)) (by kernel_rfl) (fun k ds => by kernel_rfl)
/-- interchange/kit.IsName -/
def F82 (k : Nat) (ds : List D) : Option (List D) :=
 (bif decide (((ByteArray.size ((gt ds 0).s)) : Int) < 1) then
   some [D.bool true]
  else bif decide (((ByteArray.size ((gt ds 0).s)) : Int) > 40) then
   some [D.bool true]
  else bif (((inRow 0 (ByteArray.size ((gt ds 0).s))) && true) && true) then
   bif decide (((UInt8.toNat (List.getD (ByteArray.toList ((gt ds 0).s)) 0 0)) : Int) < 97) then
    some [D.bool true]
   else bif (((inRow 0 (ByteArray.size ((gt ds 0).s))) && true) && true) then
    some [D.bool (decide (((UInt8.toNat (List.getD (ByteArray.toList ((gt ds 0).s)) 0 0)) : Int) > 122))]
   else none
  else none).bind fun ds0 =>
 bif (gt ds0 0).b then
  some [D.bool false]
 else (F51 k [D.str ((gt ds 0).s), D.str (ByteArray.mk #[97, 98, 99, 100, 101, 102, 103, 104, 105, 106, 107, 108, 109, 110, 111, 112, 113, 114, 115, 116, 117, 118, 119, 120, 121, 122, 48, 49, 50, 51, 52, 53, 54, 55, 56, 57, 45])]).bind fun ds1 =>
 some [D.bool ((ByteArray.toList ((gt ds1 0).s)) == (ByteArray.toList (ByteArray.mk #[])))]
def K82 : Callee := ⟨[.str], [.bool], F82⟩
noncomputable def C82 : Code := match Tryd.f82.body with | some c => c | none => .skip
theorem T82 : FunOK Tryd.prog (tyTab TL) 82 K82 :=
 fun_ok (loops := lkup []) (joins := lkup [(3, .light [(20, .bool)])]) (md := mdL []) (L := [(51, K51)]) (res := [.tmp 2]) (code := C82) (fn := Tryd.f82) TOKp EOKp MIXp (lkup_cons T51 lkup_nil) Tryd.func82 (by kernel_rfl) (by kernel_rfl) (of_decide_eq_false (by kernel_rfl)) (by kernel_rfl) (fun k ds => by kernel_rfl)
def B87x0 (k0 : Nat) (rec1 : List D → Option (List D)) (ds2 : List D) : Option (List D) :=
 bif decide ((gt ds2 1).i < ((ByteArray.size ((gt ds2 0).s)) : Int)) then
  bif (((inRow ((gt ds2 1).i) (ByteArray.size ((gt ds2 0).s))) && true) && true) then
   (bif decide (((UInt8.toNat (List.getD (ByteArray.toList ((gt ds2 0).s)) (Int.toNat ((gt ds2 1).i)) 0)) : Int) ≥ 97) then
     some [D.bool (decide (((UInt8.toNat (List.getD (ByteArray.toList ((gt ds2 0).s)) (Int.toNat ((gt ds2 1).i)) 0)) : Int) ≤ 122))]
    else some [D.bool false]).bind fun ds3 =>
   (bif (!(gt ds3 0).b) then
     bif ((gt ds2 1).i == 0) then
      some [D.bool true]
     else bif (((UInt8.toNat (List.getD (ByteArray.toList ((gt ds2 0).s)) (Int.toNat ((gt ds2 1).i)) 0)) : Int) != 45) then
      bif decide (((UInt8.toNat (List.getD (ByteArray.toList ((gt ds2 0).s)) (Int.toNat ((gt ds2 1).i)) 0)) : Int) ≥ 48) then
       some [D.bool (!decide (((UInt8.toNat (List.getD (ByteArray.toList ((gt ds2 0).s)) (Int.toNat ((gt ds2 1).i)) 0)) : Int) ≤ 57))]
      else some [D.bool true]
     else some [D.bool false]
    else some [D.bool false]).bind fun ds4 =>
   bif (gt ds4 0).b then
    some [D.bool false]
   else rec1 [D.str ((gt ds2 0).s), D.int (Go.IntKind.i64.wrap ((gt ds2 1).i + 1))]
  else none
 else bif (!((ByteArray.toList ((gt ds2 0).s)) == (ByteArray.toList (ByteArray.mk #[])))) then
  some [D.bool (decide (((ByteArray.size ((gt ds2 0).s)) : Int) ≤ 40))]
 else some [D.bool false]
/-- interchange/interchangeref2.IsName -/
def F87 (k : Nat) (ds : List D) : Option (List D) :=
 iter B87x0 k [D.str ((gt ds 0).s), D.int 0]
def K87 : Callee := ⟨[.str], [.bool], F87⟩
noncomputable def C87 : Code := match Tryd.f87.body with | some c => c | none => .skip
theorem T87 : FunOK Tryd.prog (tyTab TL) 87 K87 :=
 fun_ok (loops := lkup [(2, ⟨[], [(0, .str), (3, .int .i64)]⟩)]) (joins := lkup [(11, .light [(5, .bool)]), (13, .light [(39, .bool)])]) (md := mdL []) (L := []) (res := [.tmp 2]) (code := C87) (fn := Tryd.f87) TOKp EOKp MIXp lkup_nil Tryd.func87 (by kernel_rfl) (by kernel_rfl) (of_decide_eq_false (by kernel_rfl)) (by kernel_rfl) (fun k ds => by kernel_rfl)
/-- interchange/reply.isFlaw -/
def F99 (k : Nat) (ds : List D) : Option (List D) :=
 (F31 k [D.int ((gt ds 0).i), D.int 1, D.int 12]).bind fun ds0 =>
 some [D.bool (!(gt ds0 0).b)]
def K99 : Callee := ⟨[.int .i64], [.bool], F99⟩
noncomputable def C99 : Code := match Tryd.f99.body with | some c => c | none => .skip
theorem T99 : FunOK Tryd.prog (tyTab TL) 99 K99 :=
 fun_ok (loops := lkup []) (joins := lkup []) (md := mdL []) (L := [(31, K31)]) (res := [.tmp 2]) (code := C99) (fn := Tryd.f99) TOKp EOKp MIXp (lkup_cons T31 lkup_nil) Tryd.func99 (by kernel_rfl) (by kernel_rfl) (of_decide_eq_false (by kernel_rfl)) (by kernel_rfl) (fun k ds => by kernel_rfl)
/-- interchange/kit.IsTagPart -/
def F108 (k : Nat) (ds : List D) : Option (List D) :=
 (F51 k [D.str ((gt ds 0).s), D.str (ByteArray.mk #[65, 66, 67, 68, 69, 70, 71, 72, 73, 74, 75, 76, 77, 78, 79, 80, 81, 82, 83, 84, 85, 86, 87, 88, 89, 90, 48, 49, 50, 51, 52, 53, 54, 55, 56, 57])]).bind fun ds0 =>
 some [D.bool ((ByteArray.toList ((gt ds0 0).s)) == (ByteArray.toList (ByteArray.mk #[])))]
def K108 : Callee := ⟨[.str], [.bool], F108⟩
noncomputable def C108 : Code := match Tryd.f108.body with | some c => c | none => .skip
theorem T108 : FunOK Tryd.prog (tyTab TL) 108 K108 :=
 fun_ok (loops := lkup []) (joins := lkup []) (md := mdL []) (L := [(51, K51)]) (res := [.tmp 2]) (code := C108) (fn := Tryd.f108) TOKp EOKp MIXp (lkup_cons T51 lkup_nil) Tryd.func108 (by kernel_rfl) (by kernel_rfl) (of_decide_eq_false (by kernel_rfl)) (by kernel_rfl) (fun k ds => by kernel_rfl)
def B109x0 (k0 : Nat) (rec1 : List D → Option (List D)) (ds2 : List D) : Option (List D) :=
 bif decide ((gt ds2 1).i < ((ByteArray.size ((gt ds2 0).s)) : Int)) then
  (bif (((inRow ((gt ds2 1).i) (ByteArray.size ((gt ds2 0).s))) && true) && true) then
    bif decide (((UInt8.toNat (List.getD (ByteArray.toList ((gt ds2 0).s)) (Int.toNat ((gt ds2 1).i)) 0)) : Int) ≥ 65) then
     bif (((inRow ((gt ds2 1).i) (ByteArray.size ((gt ds2 0).s))) && true) && true) then
      some [D.bool (decide (((UInt8.toNat (List.getD (ByteArray.toList ((gt ds2 0).s)) (Int.toNat ((gt ds2 1).i)) 0)) : Int) ≤ 90))]
     else none
    else some [D.bool false]
   else none).bind fun ds3 =>
  (bif (!(gt ds3 0).b) then
    bif ((gt ds2 1).i == 0) then
     some [D.bool true]
    else bif (((inRow ((gt ds2 1).i) (ByteArray.size ((gt ds2 0).s))) && true) && true) then
     bif decide (((UInt8.toNat (List.getD (ByteArray.toList ((gt ds2 0).s)) (Int.toNat ((gt ds2 1).i)) 0)) : Int) < 48) then
      some [D.bool true]
     else bif (((inRow ((gt ds2 1).i) (ByteArray.size ((gt ds2 0).s))) && true) && true) then
      some [D.bool (decide (((UInt8.toNat (List.getD (ByteArray.toList ((gt ds2 0).s)) (Int.toNat ((gt ds2 1).i)) 0)) : Int) > 57))]
     else none
    else none
   else some [D.bool false]).bind fun ds4 =>
  bif (gt ds4 0).b then
   some [D.bool false]
  else rec1 [D.str ((gt ds2 0).s), D.int (Go.IntKind.i64.wrap ((gt ds2 1).i + 1))]
 else some [D.bool (decide (((ByteArray.size ((gt ds2 0).s)) : Int) ≤ 6))]
/-- interchange/interchangeref2.beginsTag -/
def F109 (k : Nat) (ds : List D) : Option (List D) :=
 iter B109x0 k [D.str ((gt ds 0).s), D.int 0]
def K109 : Callee := ⟨[.str], [.bool], F109⟩
noncomputable def C109 : Code := match Tryd.f109.body with | some c => c | none => .skip
theorem T109 : FunOK Tryd.prog (tyTab TL) 109 K109 :=
 fun_ok (loops := lkup [(2, ⟨[], [(0, .str), (3, .int .i64)]⟩)]) (joins := lkup [(9, .light [(4, .bool)]), (11, .light [(38, .bool)])]) (md := mdL []) (L := []) (res := [.tmp 2]) (code := C109) (fn := Tryd.f109) TOKp EOKp MIXp lkup_nil Tryd.func109 (by kernel_rfl) (by kernel_rfl) (of_decide_eq_false (by kernel_rfl)) (by kernel_rfl) (fun k ds => by kernel_rfl)
/-- interchange/kit.IsMoment -/
def F28 (k : Nat) (ds : List D) : Option (List D) :=
 (F31 k [D.int ((gt ds 0).i), D.int 0, D.int 1000000000000000]).bind fun ds0 =>
 some [D.bool (!(gt ds0 0).b)]
def K28 : Callee := ⟨[.int .i64], [.bool], F28⟩
noncomputable def C28 : Code := match Tryd.f28.body with | some c => c | none => .skip
theorem T28 : FunOK Tryd.prog (tyTab TL) 28 K28 :=
 fun_ok (loops := lkup []) (joins := lkup []) (md := mdL []) (L := [(31, K31)]) (res := [.tmp 2]) (code := C28) (fn := Tryd.f28) TOKp EOKp MIXp (lkup_cons T31 lkup_nil) Tryd.func28 (by kernel_rfl) (by kernel_rfl) (of_decide_eq_false (by kernel_rfl)) (by kernel_rfl) (fun k ds => by kernel_rfl)
/-- interchange/interchangeref7.checkEvent -/
def F33 (k : Nat) (ds : List D) : Option (List D) :=
 (bif ((gt ds 0).i != 1) then
   some [D.bool ((gt ds 0).i != 2)]
  else some [D.bool false]).bind fun ds0 =>
 bif (gt ds0 0).b then
  some [D.int 4]
 else (F38 k [D.int ((gt ds 1).i), D.int 0, D.int 1000000000000000]).bind fun ds1 =>
 bif (!(gt ds1 0).b) then
  some [D.int 1]
 else (F41 k [D.str ((gt ds 3).s)]).bind fun ds2 =>
 bif (!(gt ds2 0).b) then
  some [D.int 3]
 else bif ((gt ds 0).i == 1) then
  bif ((gt ds 4).i != 0) then
   some [D.int 3]
  else (F38 k [D.int ((gt ds 2).i), D.int ((gt ds 1).i), D.int (Go.IntKind.i64.wrap ((gt ds 1).i + 10000000))]).bind fun ds3 =>
  bif (!(gt ds3 0).b) then
   some [D.int 1]
  else some [D.int 0]
 else bif ((gt ds 2).i != 0) then
  some [D.int 3]
 else (F42 k [D.int ((gt ds 4).i)]).bind fun ds4 =>
 bif (!(gt ds4 0).b) then
  some [D.int 4]
 else some [D.int 0]
def K33 : Callee := ⟨[.agg [.int .i64, .int .i64, .int .i64, .str, .int .i64]], [.int .i64], F33⟩
noncomputable def C33 : Code := match Tryd.f33.body with | some c => c | none => .skip
theorem T33 : FunOK Tryd.prog (tyTab TL) 33 K33 :=
 fun_ok (loops := lkup []) (joins := lkup [(3, .light [(10, .bool)])]) (md := mdL []) (L := [(38, K38), (41, K41), (42, K42)]) (res := [.tmp 2]) (code := C33) (fn := Tryd.f33) TOKp EOKp MIXp (lkup_cons T38 (lkup_cons T41 (lkup_cons T42 lkup_nil))) Tryd.func33 (by kernel_rfl) (by kernel_rfl) (of_decide_eq_false (by kernel_rfl)) (by kernel_rfl) (fun k ds => by kernel_rfl)
/-- interchange/reply.eventFault -/
def F34 (k : Nat) (ds : List D) : Option (List D) :=
 bif ((inRow ((gt ds 1).i) (((gt ds 0).r).length)) && true) then
  (F31 k [D.int (((elAt ((gt ds 0).r) ((gt ds 1).i)).c 0).i), D.int 1, D.int 2]).bind fun ds0 =>
  bif (gt ds0 0).b then
   some [D.int 4]
  else (F28 k [D.int (((elAt ((gt ds 0).r) ((gt ds 1).i)).c 1).i)]).bind fun ds1 =>
  bif (!(gt ds1 0).b) then
   some [D.int 1]
  else (F43 k [D.str (((elAt ((gt ds 0).r) ((gt ds 1).i)).c 3).s)]).bind fun ds2 =>
  bif (!(gt ds2 0).b) then
   some [D.int 3]
  else (bif (((elAt ((gt ds 0).r) ((gt ds 1).i)).c 0).i == 1) then
    some [D.bool (((elAt ((gt ds 0).r) ((gt ds 1).i)).c 4).i != 0)]
   else some [D.bool false]).bind fun ds3 =>
  bif (gt ds3 0).b then
   some [D.int 3]
  else (bif (((elAt ((gt ds 0).r) ((gt ds 1).i)).c 0).i == 1) then
    (F31 k [D.int (((elAt ((gt ds 0).r) ((gt ds 1).i)).c 2).i), D.int (((elAt ((gt ds 0).r) ((gt ds 1).i)).c 1).i), D.int (Go.IntKind.i64.wrap (((elAt ((gt ds 0).r) ((gt ds 1).i)).c 1).i + 10000000))]).bind fun ds4 =>
    some [D.bool ((gt ds4 0).b)]
   else some [D.bool false]).bind fun ds5 =>
  bif (gt ds5 0).b then
   some [D.int 1]
  else (bif (((elAt ((gt ds 0).r) ((gt ds 1).i)).c 0).i == 2) then
    some [D.bool (((elAt ((gt ds 0).r) ((gt ds 1).i)).c 2).i != 0)]
   else some [D.bool false]).bind fun ds6 =>
  bif (gt ds6 0).b then
   some [D.int 3]
  else (bif (((elAt ((gt ds 0).r) ((gt ds 1).i)).c 0).i == 2) then
    (F44 k [D.int (((elAt ((gt ds 0).r) ((gt ds 1).i)).c 4).i)]).bind fun ds7 =>
    some [D.bool (!(gt ds7 0).b)]
   else some [D.bool false]).bind fun ds8 =>
  bif (gt ds8 0).b then
   some [D.int 4]
  else (bif decide ((gt ds 1).i > 0) then
    bif ((inRow (Go.IntKind.i64.wrap ((gt ds 1).i - 1)) (((gt ds 0).r).length)) && true) then
     some [D.bool (decide (((elAt ((gt ds 0).r) ((gt ds 1).i)).c 1).i < ((elAt ((gt ds 0).r) (Go.IntKind.i64.wrap ((gt ds 1).i - 1))).c 1).i))]
    else none
   else some [D.bool false]).bind fun ds9 =>
  bif (gt ds9 0).b then
   some [D.int 8]
  else some [D.int 0]
 else none
def K34 : Callee := ⟨[.seen 30, .int .i64], [.int .i64], F34⟩
noncomputable def C34 : Code := match Tryd.f34.body with | some c => c | none => .skip
theorem T34 : FunOK Tryd.prog (tyTab TL) 34 K34 :=
 fun_ok (loops := lkup []) (joins := lkup [(17, .light [(21, .bool)]), (21, .light [(30, .bool)]), (25, .light [(44, .bool)]), (29, .light [(53, .bool)]), (33, .light [(63, .bool)])]) (md := mdL []) (L := [(31, K31), (28, K28), (43, K43), (44, K44)]) (res := [.tmp 4]) (code := C34) (fn := Tryd.f34) TOKp EOKp MIXp (lkup_cons T31 (lkup_cons T28 (lkup_cons T43 (lkup_cons T44 lkup_nil)))) Tryd.func34 (by kernel_rfl) (by kernel_rfl) (of_decide_eq_false (by kernel_rfl)) (by kernel_rfl) (fun k ds => by kernel_rfl)
def B48x0 (k0 : Nat) (rec1 : List D → Option (List D)) (ds2 : List D) : Option (List D) :=
 bif decide ((gt ds2 0).i < (((gt ds2 3).r).length : Int)) then
  bif ((inRow ((gt ds2 0).i) (((gt ds2 3).r).length)) && true) then
   bif (needOk (((gt ds2 4).r).length + [D.int (((elAt ((gt ds2 3).r) ((gt ds2 0).i)).c 1).i)].length) 8) then
    rec1 [D.int (Go.IntKind.i64.wrap ((gt ds2 0).i + 1)), D.str ((gt ds2 1).s), D.int ((gt ds2 2).i), D.row ((gt ds2 3).r), D.row ((gt ds2 4).r ++ [D.int (((elAt ((gt ds2 3).r) ((gt ds2 0).i)).c 1).i)])]
   else none
  else none
 else (F59 k0 [D.row ((gt ds2 4).r)]).bind fun ds3 =>
 some [D.int ((gt ds3 0).i)]
/-- interchange/interchangeref7.OfAll -/
def F48 (k : Nat) (ds : List D) : Option (List D) :=
 iter B48x0 k [D.int 0, D.str ((gt ds 0).s), D.int ((gt ds 1).i), D.row ((gt ds 2).r), D.row []]
def K48 : Callee := ⟨[.agg [.str, .int .i64, .seen 77]], [.int .i64], F48⟩
noncomputable def C48 : Code := match Tryd.f48.body with | some c => c | none => .skip
theorem T48 : FunOK Tryd.prog (tyTab TL) 48 K48 :=
 fun_ok (loops := lkup [(3, ⟨[.box 47 [.str, .int .i64, .srow 77], .row 3 false], [(1, .ptr 0 0), (3, .orow 1), (4, .int .i64)]⟩)]) (joins := lkup []) (md := mdL []) (L := [(59, K59)]) (res := [.tmp 2]) (code := C48) (fn := Tryd.f48) TOKp EOKp MIXp (lkup_cons T59 lkup_nil) Tryd.func48 (by kernel_rfl) (by kernel_rfl) (of_decide_eq_false (by kernel_rfl)) (by kernel_rfl) (fun k ds => by kernel_rfl)
def B58x0 (k0 : Nat) (rec1 : List D → Option (List D)) (ds2 : List D) : Option (List D) :=
 bif decide ((gt ds2 0).i < (((gt ds2 3).r).length : Int)) then
  bif ((inRow ((gt ds2 0).i) (((gt ds2 3).r).length)) && true) then
   bif (needOk (((gt ds2 4).r).length + [D.int (((elAt ((gt ds2 3).r) ((gt ds2 0).i)).c 1).i)].length) 8) then
    rec1 [D.int (Go.IntKind.i64.wrap ((gt ds2 0).i + 1)), D.str ((gt ds2 1).s), D.int ((gt ds2 2).i), D.row ((gt ds2 3).r), D.row ((gt ds2 4).r ++ [D.int (((elAt ((gt ds2 3).r) ((gt ds2 0).i)).c 1).i)])]
   else none
  else none
 else (F59 k0 [D.row ((gt ds2 4).r)]).bind fun ds3 =>
 some [D.int ((gt ds3 0).i)]
/-- interchange/interchangeref7.OfGroup -/
def F58 (k : Nat) (ds : List D) : Option (List D) :=
 iter B58x0 k [D.int 0, D.str ((gt ds 0).s), D.int ((gt ds 1).i), D.row ((gt ds 2).r), D.row []]
def K58 : Callee := ⟨[.agg [.str, .int .i64, .seen 89]], [.int .i64], F58⟩
noncomputable def C58 : Code := match Tryd.f58.body with | some c => c | none => .skip
theorem T58 : FunOK Tryd.prog (tyTab TL) 58 K58 :=
 fun_ok (loops := lkup [(3, ⟨[.box 77 [.str, .int .i64, .srow 89], .row 3 false], [(1, .ptr 0 0), (3, .orow 1), (4, .int .i64)]⟩)]) (joins := lkup []) (md := mdL []) (L := [(59, K59)]) (res := [.tmp 2]) (code := C58) (fn := Tryd.f58) TOKp EOKp MIXp (lkup_cons T59 lkup_nil) Tryd.func58 (by kernel_rfl) (by kernel_rfl) (of_decide_eq_false (by kernel_rfl)) (by kernel_rfl) (fun k ds => by kernel_rfl)
/-- interchange/kit.IsTag -/
def F100 (k : Nat) (ds : List D) : Option (List D) :=
 bif decide (((ByteArray.size ((gt ds 0).s)) : Int) ≥ 2) then
  bif decide (((ByteArray.size ((gt ds 0).s)) : Int) ≤ 6) then
   bif (((inRow 0 (ByteArray.size ((gt ds 0).s))) && true) && true) then
    (F107 k [D.str (ByteArray.mk #[65, 66, 67, 68, 69, 70, 71, 72, 73, 74, 75, 76, 77, 78, 79, 80, 81, 82, 83, 84, 85, 86, 87, 88, 89, 90]), D.int ((UInt8.toNat (List.getD (ByteArray.toList ((gt ds 0).s)) 0 0)) : Int)]).bind fun ds0 =>
    bif decide ((gt ds0 0).i ≥ 0) then
     (F108 k [D.str ((gt ds 0).s)]).bind fun ds1 =>
     some [D.bool ((gt ds1 0).b)]
    else some [D.bool false]
   else none
  else some [D.bool false]
 else some [D.bool false]
def K100 : Callee := ⟨[.str], [.bool], F100⟩
noncomputable def C100 : Code := match Tryd.f100.body with | some c => c | none => .skip
theorem T100 : FunOK Tryd.prog (tyTab TL) 100 K100 :=
 fun_ok (loops := lkup []) (joins := lkup []) (md := mdL []) (L := [(107, K107), (108, K108)]) (res := [.tmp 2]) (code := C100) (fn := Tryd.f100) TOKp EOKp MIXp (lkup_cons T107 (lkup_cons T108 lkup_nil)) Tryd.func100 (by kernel_rfl) (by kernel_rfl) (of_decide_eq_false (by kernel_rfl)) (by kernel_rfl) (fun k ds => by kernel_rfl)
/-- interchange/interchangeref2.IsTag -/
def F102 (k : Nat) (ds : List D) : Option (List D) :=
 bif decide (((ByteArray.size ((gt ds 0).s)) : Int) ≥ 2) then
  (F109 k [D.str ((gt ds 0).s)]).bind fun ds0 =>
  some [D.bool ((gt ds0 0).b)]
 else some [D.bool false]
def K102 : Callee := ⟨[.str], [.bool], F102⟩
noncomputable def C102 : Code := match Tryd.f102.body with | some c => c | none => .skip
theorem T102 : FunOK Tryd.prog (tyTab TL) 102 K102 :=
 fun_ok (loops := lkup []) (joins := lkup []) (md := mdL []) (L := [(109, K109)]) (res := [.tmp 2]) (code := C102) (fn := Tryd.f102) TOKp EOKp MIXp (lkup_cons T109 lkup_nil) Tryd.func102 (by kernel_rfl) (by kernel_rfl) (of_decide_eq_false (by kernel_rfl)) (by kernel_rfl) (fun k ds => by kernel_rfl)
def B15x0 (k0 : Nat) (rec1 : List D → Option (List D)) (ds2 : List D) : Option (List D) :=
 bif decide ((gt ds2 1).i < (((gt ds2 0).r).length : Int)) then
  bif ((inRow ((gt ds2 1).i) (((gt ds2 0).r).length)) && true) then
   (F33 k0 [D.int (((elAt ((gt ds2 0).r) ((gt ds2 1).i)).c 0).i), D.int (((elAt ((gt ds2 0).r) ((gt ds2 1).i)).c 1).i), D.int (((elAt ((gt ds2 0).r) ((gt ds2 1).i)).c 2).i), D.str (((elAt ((gt ds2 0).r) ((gt ds2 1).i)).c 3).s), D.int (((elAt ((gt ds2 0).r) ((gt ds2 1).i)).c 4).i)]).bind fun ds3 =>
   bif ((gt ds3 0).i != 0) then
    some [D.int ((gt ds3 0).i)]
   else (bif decide ((gt ds2 1).i > 0) then
     bif ((inRow ((gt ds2 1).i) (((gt ds2 0).r).length)) && true) then
      bif ((inRow (Go.IntKind.i64.wrap ((gt ds2 1).i - 1)) (((gt ds2 0).r).length)) && true) then
       some [D.bool (decide (((elAt ((gt ds2 0).r) ((gt ds2 1).i)).c 1).i < ((elAt ((gt ds2 0).r) (Go.IntKind.i64.wrap ((gt ds2 1).i - 1))).c 1).i))]
      else none
     else none
    else some [D.bool false]).bind fun ds4 =>
   bif (gt ds4 0).b then
    some [D.int 8]
   else rec1 [D.row ((gt ds2 0).r), D.int (Go.IntKind.i64.wrap ((gt ds2 1).i + 1))]
  else none
 else some [D.int 0]
/-- interchange/interchangeref7.CheckBook -/
def F15 (k : Nat) (ds : List D) : Option (List D) :=
 bif decide ((((gt ds 0).r).length : Int) > 3000) then
  some [D.int 2]
 else iter B15x0 k [D.row ((gt ds 0).r), D.int 0]
def K15 : Callee := ⟨[.seen 30], [.int .i64], F15⟩
noncomputable def C15 : Code := match Tryd.f15.body with | some c => c | none => .skip
theorem T15 : FunOK Tryd.prog (tyTab TL) 15 K15 :=
 fun_ok (loops := lkup [(4, ⟨[], [(0, .srow 30), (3, .int .i64)]⟩)]) (joins := lkup [(19, .light [(37, .bool)])]) (md := mdL []) (L := [(33, K33)]) (res := [.tmp 2]) (code := C15) (fn := Tryd.f15) TOKp EOKp MIXp (lkup_cons T33 lkup_nil) Tryd.func15 (by kernel_rfl) (by kernel_rfl) (of_decide_eq_false (by kernel_rfl)) (by kernel_rfl) (fun k ds => by kernel_rfl)
def B16x0 (k0 : Nat) (rec1 : List D → Option (List D)) (ds2 : List D) : Option (List D) :=
 bif decide ((gt ds2 2).i < (gt ds2 1).i) then
  (F34 k0 [D.row ((gt ds2 0).r), D.int ((gt ds2 2).i)]).bind fun ds3 =>
  bif ((gt ds3 0).i != 0) then
   some [D.int ((gt ds3 0).i)]
  else rec1 [D.row ((gt ds2 0).r), D.int ((gt ds2 1).i), D.int (Go.IntKind.i64.wrap ((gt ds2 2).i + 1))]
 else some [D.int 0]
/-- interchange/reply.CheckBook -/
def F16 (k : Nat) (ds : List D) : Option (List D) :=
 bif decide ((((gt ds 0).r).length : Int) > 3000) then
  some [D.int 2]
 else iter B16x0 k [D.row ((gt ds 0).r), D.int (((gt ds 0).r).length : Int), D.int 0]
def K16 : Callee := ⟨[.seen 30], [.int .i64], F16⟩
noncomputable def C16 : Code := match Tryd.f16.body with | some c => c | none => .skip
theorem T16 : FunOK Tryd.prog (tyTab TL) 16 K16 :=
 fun_ok (loops := lkup [(4, ⟨[], [(0, .srow 30), (9, .int .i64), (10, .int .i64)]⟩)]) (joins := lkup []) (md := mdL []) (L := [(34, K34)]) (res := [.tmp 2]) (code := C16) (fn := Tryd.f16) TOKp EOKp MIXp (lkup_cons T34 lkup_nil) Tryd.func16 (by kernel_rfl) (by kernel_rfl) (of_decide_eq_false (by kernel_rfl)) (by kernel_rfl) (fun k ds => by kernel_rfl)
def B56x0 (k0 : Nat) (rec1 : List D → Option (List D)) (ds2 : List D) : Option (List D) :=
 bif decide ((gt ds2 2).i < (gt ds2 1).i) then
  bif ((inRow ((gt ds2 2).i) (((gt ds2 0).r).length)) && true) then
   bif ((elAt ((gt ds2 0).r) ((gt ds2 2).i)).i != (gt ds2 4).i) then
    some [D.row ((gt ds2 3).r), D.bool (!decide ((gt ds2 2).i ≥ 0))]
   else rec1 [D.row ((gt ds2 0).r), D.int ((gt ds2 1).i), D.int (Go.IntKind.i64.wrap ((gt ds2 2).i + 1)), D.row ((gt ds2 3).r), D.int ((gt ds2 4).i)]
  else none
 else some [D.row ((gt ds2 3).r), D.bool true]
def B56x1 (k4 : Nat) (rec5 : List D → Option (List D)) (ds6 : List D) : Option (List D) :=
 bif decide ((gt ds6 2).i < (gt ds6 1).i) then
  bif ((inRow ((gt ds6 2).i) (((gt ds6 0).r).length)) && true) then
   bif ((elAt ((gt ds6 0).r) ((gt ds6 2).i)).i != (gt ds6 3).i) then
    some [D.bool (!decide ((gt ds6 2).i ≥ 0))]
   else rec5 [D.row ((gt ds6 0).r), D.int ((gt ds6 1).i), D.int (Go.IntKind.i64.wrap ((gt ds6 2).i + 1)), D.int ((gt ds6 3).i)]
  else none
 else some [D.bool true]
/-- interchange/reply.together -/
def F56 (k : Nat) (ds : List D) : Option (List D) :=
 (iter B56x0 k [D.row ((gt ds 0).r), D.int (((gt ds 0).r).length : Int), D.int 0, D.row ((gt ds 0).r), D.int 1]).bind fun ds3 =>
 bif (gt ds3 1).b then
  some [D.int 1]
 else (iter B56x1 k [D.row ((gt ds3 0).r), D.int (((gt ds3 0).r).length : Int), D.int 0, D.int 3]).bind fun ds7 =>
 bif (gt ds7 0).b then
  some [D.int 3]
 else some [D.int 2]
def K56 : Callee := ⟨[.seen 3], [.int .i64], F56⟩
noncomputable def C56 : Code := match Tryd.f56.body with | some c => c | none => .skip
noncomputable def C84 : Code := match Tryd.f84.body with | some c => c | none => .skip
/-- interchange/reply.together$1$1, in place -/
noncomputable def X56_8 : Inl := inlOf (tyTab TL) ⟨lkup [], lkup [], mdL [], envL [], itr, inlL [], hasL [], 8000⟩ C84 [.tmp 3]
theorem O56_8 : InlOK Tryd.prog (tyTab TL) 84 X56_8 :=
 inl_ok TOKp EOKp MIXp lkup_nil inlL_nil (fn := Tryd.f84) Tryd.func84 (by kernel_rfl) (by kernel_rfl) (of_decide_eq_false (by kernel_rfl)) (by kernel_rfl)
noncomputable def C101 : Code := match Tryd.f101.body with | some c => c | none => .skip
/-- slices.IndexFunc[[]int,int], in place -/
noncomputable def X56_7 : Inl := inlOf (tyTab TL) ⟨lkup [(2, ⟨[.box 3 [.int .i64]], [(0, .srow 3), (1, .clo 84 [(0, 0)]), (7, .int .i64), (8, .int .i64)]⟩)], lkup [], mdL [], envL [], itr, inlL [(7004, 5, 84, X56_8)], hasL [(7004, 5, 84, X56_8)], 7000⟩ C101 [.tmp 4]
theorem O56_7 : InlOK Tryd.prog (tyTab TL) 101 X56_7 :=
 inl_ok TOKp EOKp MIXp lkup_nil (inlL_cons O56_8 inlL_nil) (fn := Tryd.f101) Tryd.func101 (by kernel_rfl) (by kernel_rfl) (of_decide_eq_false (by kernel_rfl)) (by kernel_rfl)
noncomputable def C85 : Code := match Tryd.f85.body with | some c => c | none => .skip
/-- slices.ContainsFunc[[]int,int], in place -/
noncomputable def X56_6 : Inl := inlOf (tyTab TL) ⟨lkup [], lkup [], mdL [], envL [], itr, inlL [(6001, 2, 101, X56_7)], hasL [(6001, 2, 101, X56_7)], 6000⟩ C85 [.tmp 4]
theorem O56_6 : InlOK Tryd.prog (tyTab TL) 85 X56_6 :=
 inl_ok TOKp EOKp MIXp lkup_nil (inlL_cons O56_7 inlL_nil) (fn := Tryd.f85) Tryd.func85 (by kernel_rfl) (by kernel_rfl) (of_decide_eq_false (by kernel_rfl)) (by kernel_rfl)
noncomputable def C83 : Code := match Tryd.f83.body with | some c => c | none => .skip
/-- interchange/reply.together$1, in place -/
noncomputable def X56_5 : Inl := inlOf (tyTab TL) ⟨lkup [], lkup [], mdL [], envL [], itr, inlL [], hasL [], 5000⟩ C83 [.tmp 2]
theorem O56_5 : InlOK Tryd.prog (tyTab TL) 83 X56_5 :=
 inl_ok TOKp EOKp MIXp lkup_nil inlL_nil (fn := Tryd.f83) Tryd.func83 (by kernel_rfl) (by kernel_rfl) (of_decide_eq_false (by kernel_rfl)) (by kernel_rfl)
/-- interchange/reply.together$1$1, in place -/
noncomputable def X56_4 : Inl := inlOf (tyTab TL) ⟨lkup [], lkup [], mdL [], envL [], itr, inlL [], hasL [], 4000⟩ C84 [.tmp 3]
theorem O56_4 : InlOK Tryd.prog (tyTab TL) 84 X56_4 :=
 inl_ok TOKp EOKp MIXp lkup_nil inlL_nil (fn := Tryd.f84) Tryd.func84 (by kernel_rfl) (by kernel_rfl) (of_decide_eq_false (by kernel_rfl)) (by kernel_rfl)
/-- slices.IndexFunc[[]int,int], in place -/
noncomputable def X56_3 : Inl := inlOf (tyTab TL) ⟨lkup [(2, ⟨[.box 3 [.int .i64]], [(0, .srow 3), (1, .clo 84 [(0, 0)]), (7, .int .i64), (8, .int .i64), (2000000, .srow 3), (2000003, .clo 83 [])]⟩)], lkup [], mdL [], envL [], itr, inlL [(3004, 5, 84, X56_4)], hasL [(3004, 5, 84, X56_4)], 3000⟩ C101 [.tmp 4]
theorem O56_3 : InlOK Tryd.prog (tyTab TL) 101 X56_3 :=
 inl_ok TOKp EOKp MIXp lkup_nil (inlL_cons O56_4 inlL_nil) (fn := Tryd.f101) Tryd.func101 (by kernel_rfl) (by kernel_rfl) (of_decide_eq_false (by kernel_rfl)) (by kernel_rfl)
/-- slices.ContainsFunc[[]int,int], in place -/
noncomputable def X56_2 : Inl := inlOf (tyTab TL) ⟨lkup [], lkup [], mdL [], envL [], itr, inlL [(2001, 2, 101, X56_3)], hasL [(2001, 2, 101, X56_3)], 2000⟩ C85 [.tmp 4]
theorem O56_2 : InlOK Tryd.prog (tyTab TL) 85 X56_2 :=
 inl_ok TOKp EOKp MIXp lkup_nil (inlL_cons O56_3 inlL_nil) (fn := Tryd.f85) Tryd.func85 (by kernel_rfl) (by kernel_rfl) (of_decide_eq_false (by kernel_rfl)) (by kernel_rfl)
/-- interchange/reply.together$1, in place -/
noncomputable def X56_1 : Inl := inlOf (tyTab TL) ⟨lkup [], lkup [], mdL [], envL [], itr, inlL [], hasL [], 1000⟩ C83 [.tmp 2]
theorem O56_1 : InlOK Tryd.prog (tyTab TL) 83 X56_1 :=
 inl_ok TOKp EOKp MIXp lkup_nil inlL_nil (fn := Tryd.f83) Tryd.func83 (by kernel_rfl) (by kernel_rfl) (of_decide_eq_false (by kernel_rfl)) (by kernel_rfl)
theorem T56 : FunOK Tryd.prog (tyTab TL) 56 K56 :=
 fun_ok_i (loops := lkup []) (joins := lkup [(5, .full ⟨[], [(0, .srow 3), (3, .clo 83 []), (4, .bool)]⟩), (9, .full ⟨[], [(10, .bool)]⟩)]) (md := mdL []) (L := []) (I := [(2, 2, 83, X56_1), (2, 3, 85, X56_2), (4, 2, 83, X56_5), (4, 3, 85, X56_6)]) (res := [.tmp 2]) (code := C56) (fn := Tryd.f56) TOKp EOKp MIXp lkup_nil (inlL_cons O56_1 (inlL_cons O56_2 (inlL_cons O56_5 (inlL_cons O56_6 inlL_nil)))) Tryd.func56 (by kernel_rfl) (by kernel_rfl) (of_decide_eq_false (by kernel_rfl)) (by kernel_rfl) (fun k ds => by kernel_rfl)
def B81x0 (k0 : Nat) (rec1 : List D → Option (List D)) (ds2 : List D) : Option (List D) :=
 bif decide ((gt ds2 3).i < (gt ds2 2).i) then
  bif ((inRow ((gt ds2 3).i) (((gt ds2 1).r).length)) && true) then
   (F99 k0 [D.int (((elAt ((gt ds2 1).r) ((gt ds2 3).i)).c 0).i)]).bind fun ds3 =>
   bif (!(gt ds3 0).b) then
    some [D.int 4]
   else ((F31 k0 [D.int (((elAt ((gt ds2 1).r) ((gt ds2 3).i)).c 1).i), D.int 0, D.int 2000]).bind fun ds4 =>
    bif (gt ds4 0).b then
     some [D.bool true]
    else (F31 k0 [D.int (((elAt ((gt ds2 1).r) ((gt ds2 3).i)).c 2).i), D.int 0, D.int 51]).bind fun ds5 =>
    bif (gt ds5 0).b then
     some [D.bool true]
    else (F31 k0 [D.int (((elAt ((gt ds2 1).r) ((gt ds2 3).i)).c 3).i), D.int 0, D.int 21]).bind fun ds6 =>
    bif (gt ds6 0).b then
     some [D.bool true]
    else (F31 k0 [D.int (((elAt ((gt ds2 1).r) ((gt ds2 3).i)).c 4).i), D.int 0, D.int 21]).bind fun ds7 =>
    some [D.bool ((gt ds7 0).b)]).bind fun ds8 =>
   bif (gt ds8 0).b then
    some [D.int 1]
   else (bif (!((ByteArray.toList (((elAt ((gt ds2 1).r) ((gt ds2 3).i)).c 5).s)) == (ByteArray.toList (ByteArray.mk #[])))) then
     (F100 k0 [D.str (((elAt ((gt ds2 1).r) ((gt ds2 3).i)).c 5).s)]).bind fun ds9 =>
     bif (!(gt ds9 0).b) then
      (F82 k0 [D.str (((elAt ((gt ds2 1).r) ((gt ds2 3).i)).c 5).s)]).bind fun ds10 =>
      some [D.bool (!(gt ds10 0).b)]
     else some [D.bool false]
    else some [D.bool false]).bind fun ds11 =>
   bif (gt ds11 0).b then
    some [D.int 3]
   else (bif decide ((gt ds2 3).i > 0) then
     bif ((inRow (Go.IntKind.i64.wrap ((gt ds2 3).i - 1)) (((gt ds2 0).r).length)) && true) then
      some [D.bool (decide (((elAt ((gt ds2 1).r) ((gt ds2 3).i)).c 1).i < ((elAt ((gt ds2 0).r) (Go.IntKind.i64.wrap ((gt ds2 3).i - 1))).c 1).i))]
     else none
    else some [D.bool false]).bind fun ds12 =>
   bif (gt ds12 0).b then
    some [D.int 8]
   else rec1 [D.row ((gt ds2 0).r), D.row ((gt ds2 1).r), D.int ((gt ds2 2).i), D.int (Go.IntKind.i64.wrap ((gt ds2 3).i + 1))]
  else none
 else some [D.int 0]
/-- interchange/reply.flawsFault -/
def F81 (k : Nat) (ds : List D) : Option (List D) :=
 bif decide ((((gt ds 0).r).length : Int) > 500) then
  some [D.int 2]
 else iter B81x0 k [D.row ((gt ds 0).r), D.row ((gt ds 0).r), D.int (((gt ds 0).r).length : Int), D.int 0]
def K81 : Callee := ⟨[.seen 134], [.int .i64], F81⟩
noncomputable def C81 : Code := match Tryd.f81.body with | some c => c | none => .skip
theorem T81 : FunOK Tryd.prog (tyTab TL) 81 K81 :=
 fun_ok (loops := lkup [(4, ⟨[], [(0, .srow 134), (8, .srow 134), (9, .int .i64), (10, .int .i64)]⟩)]) (joins := lkup [(17, .light [(20, .bool)]), (21, .light [(42, .bool)]), (25, .light [(58, .bool)])]) (md := mdL []) (L := [(99, K99), (31, K31), (100, K100), (82, K82)]) (res := [.tmp 2]) (code := C81) (fn := Tryd.f81) TOKp EOKp MIXp (lkup_cons T99 (lkup_cons T31 (lkup_cons T100 (lkup_cons T82 lkup_nil)))) Tryd.func81 (by kernel_rfl) (by kernel_rfl) (of_decide_eq_false (by kernel_rfl)) (by kernel_rfl) (fun k ds => by kernel_rfl)
def B86x0 (k0 : Nat) (rec1 : List D → Option (List D)) (ds2 : List D) : Option (List D) :=
 bif decide ((gt ds2 1).i < (((gt ds2 0).r).length : Int)) then
  bif ((inRow ((gt ds2 1).i) (((gt ds2 0).r).length)) && true) then
   (F38 k0 [D.int (((elAt ((gt ds2 0).r) ((gt ds2 1).i)).c 0).i), D.int 1, D.int 12]).bind fun ds3 =>
   bif (!(gt ds3 0).b) then
    some [D.int 4]
   else ((F38 k0 [D.int (((elAt ((gt ds2 0).r) ((gt ds2 1).i)).c 1).i), D.int 0, D.int 2000]).bind fun ds4 =>
    bif (!(gt ds4 0).b) then
     some [D.bool true]
    else (F38 k0 [D.int (((elAt ((gt ds2 0).r) ((gt ds2 1).i)).c 2).i), D.int 0, D.int 51]).bind fun ds5 =>
    bif (!(gt ds5 0).b) then
     some [D.bool true]
    else (F38 k0 [D.int (((elAt ((gt ds2 0).r) ((gt ds2 1).i)).c 3).i), D.int 0, D.int 21]).bind fun ds6 =>
    bif (!(gt ds6 0).b) then
     some [D.bool true]
    else (F38 k0 [D.int (((elAt ((gt ds2 0).r) ((gt ds2 1).i)).c 4).i), D.int 0, D.int 21]).bind fun ds7 =>
    some [D.bool (!(gt ds7 0).b)]).bind fun ds8 =>
   bif (gt ds8 0).b then
    some [D.int 1]
   else (bif (!((ByteArray.toList (((elAt ((gt ds2 0).r) ((gt ds2 1).i)).c 5).s)) == (ByteArray.toList (ByteArray.mk #[])))) then
     (F102 k0 [D.str (((elAt ((gt ds2 0).r) ((gt ds2 1).i)).c 5).s)]).bind fun ds9 =>
     bif (!(gt ds9 0).b) then
      (F87 k0 [D.str (((elAt ((gt ds2 0).r) ((gt ds2 1).i)).c 5).s)]).bind fun ds10 =>
      some [D.bool (!(gt ds10 0).b)]
     else some [D.bool false]
    else some [D.bool false]).bind fun ds11 =>
   bif (gt ds11 0).b then
    some [D.int 3]
   else (bif decide ((gt ds2 1).i > 0) then
     bif ((inRow (Go.IntKind.i64.wrap ((gt ds2 1).i - 1)) (((gt ds2 0).r).length)) && true) then
      some [D.bool (decide (((elAt ((gt ds2 0).r) ((gt ds2 1).i)).c 1).i < ((elAt ((gt ds2 0).r) (Go.IntKind.i64.wrap ((gt ds2 1).i - 1))).c 1).i))]
     else none
    else some [D.bool false]).bind fun ds12 =>
   bif (gt ds12 0).b then
    some [D.int 8]
   else rec1 [D.row ((gt ds2 0).r), D.int (Go.IntKind.i64.wrap ((gt ds2 1).i + 1))]
  else none
 else some [D.int 0]
/-- interchange/interchangeref7.checkFlaws -/
def F86 (k : Nat) (ds : List D) : Option (List D) :=
 bif decide ((((gt ds 0).r).length : Int) > 500) then
  some [D.int 2]
 else iter B86x0 k [D.row ((gt ds 0).r), D.int 0]
def K86 : Callee := ⟨[.seen 134], [.int .i64], F86⟩
noncomputable def C86 : Code := match Tryd.f86.body with | some c => c | none => .skip
theorem T86 : FunOK Tryd.prog (tyTab TL) 86 K86 :=
 fun_ok (loops := lkup [(4, ⟨[], [(0, .srow 134), (3, .int .i64)]⟩)]) (joins := lkup [(19, .light [(46, .bool)]), (23, .light [(61, .bool)]), (27, .light [(74, .bool)])]) (md := mdL []) (L := [(38, K38), (102, K102), (87, K87)]) (res := [.tmp 2]) (code := C86) (fn := Tryd.f86) TOKp EOKp MIXp (lkup_cons T38 (lkup_cons T102 (lkup_cons T87 lkup_nil))) Tryd.func86 (by kernel_rfl) (by kernel_rfl) (of_decide_eq_false (by kernel_rfl)) (by kernel_rfl) (fun k ds => by kernel_rfl)
/-- interchange/reply.Book -/
def F10 (k : Nat) (ds : List D) : Option (List D) :=
 (F16 k [D.row ((gt ds 0).r)]).bind fun ds0 =>
 bif ((gt ds0 0).i != 0) then
  some [D.row [], D.row [], D.int ((gt ds0 0).i)]
 else (F27 k [D.row ((gt ds 0).r)]).bind fun ds1 =>
 some [D.row ((gt ds1 0).r), D.row ((gt ds1 1).r), D.int 0]
def K10 : Callee := ⟨[.seen 30], [.own 32, .own 3, .int .i64], F10⟩
noncomputable def C10 : Code := match Tryd.f10.body with | some c => c | none => .skip
theorem T10 : FunOK Tryd.prog (tyTab TL) 10 K10 :=
 fun_ok (loops := lkup []) (joins := lkup []) (md := mdL []) (L := [(16, K16), (27, K27)]) (res := [.tmp 2, .tmp 3, .tmp 4]) (code := C10) (fn := Tryd.f10) TOKp EOKp MIXp (lkup_cons T16 (lkup_cons T27 lkup_nil)) Tryd.func10 (by kernel_rfl) (by kernel_rfl) (of_decide_eq_false (by kernel_rfl)) (by kernel_rfl) (fun k ds => by kernel_rfl)
def B12x0 (k3 : Nat) (rec4 : List D → Option (List D)) (ds5 : List D) : Option (List D) :=
 bif decide ((gt ds5 2).i < (gt ds5 1).i) then
  (bif ((inRow ((gt ds5 2).i) (((gt ds5 15).r).length)) && true) then
    ((F30 k3 [D.str (((elAt ((gt ds5 15).r) ((gt ds5 2).i)).c 0).s), D.int (((elAt ((gt ds5 15).r) ((gt ds5 2).i)).c 1).i), D.int (((elAt ((gt ds5 15).r) ((gt ds5 2).i)).c 2).i), D.int (((elAt ((gt ds5 15).r) ((gt ds5 2).i)).c 3).i), D.int (((elAt ((gt ds5 15).r) ((gt ds5 2).i)).c 4).i), D.int ((gt ds5 0).i)]).bind fun ds6 =>
     bif ((gt ds6 0).i == 1) then
      some [D.int ((gt ds5 0).i), D.int ((gt ds5 1).i), D.int ((gt ds5 2).i), D.int ((gt ds5 3).i), D.int ((gt ds5 4).i), D.int ((gt ds5 5).i), D.int ((gt ds5 6).i), D.int ((gt ds5 7).i), D.int ((gt ds5 8).i), D.int (Go.IntKind.i64.wrap ((gt ds5 9).i + 1)), D.int ((gt ds5 10).i), D.int ((gt ds5 11).i), D.int ((gt ds5 12).i), D.int ((gt ds5 13).i), D.int ((gt ds5 14).i), D.str (((elAt ((gt ds5 15).r) ((gt ds5 2).i)).c 0).s), D.int (((elAt ((gt ds5 15).r) ((gt ds5 2).i)).c 1).i), D.int (((elAt ((gt ds5 15).r) ((gt ds5 2).i)).c 2).i), D.int (((elAt ((gt ds5 15).r) ((gt ds5 2).i)).c 3).i), D.int (((elAt ((gt ds5 15).r) ((gt ds5 2).i)).c 4).i), D.row ((gt ds5 15).r)]
     else bif ((gt ds6 0).i == 2) then
      some [D.int ((gt ds5 0).i), D.int ((gt ds5 1).i), D.int ((gt ds5 2).i), D.int ((gt ds5 3).i), D.int ((gt ds5 4).i), D.int ((gt ds5 5).i), D.int ((gt ds5 6).i), D.int ((gt ds5 7).i), D.int ((gt ds5 8).i), D.int ((gt ds5 9).i), D.int (Go.IntKind.i64.wrap ((gt ds5 10).i + 1)), D.int ((gt ds5 11).i), D.int ((gt ds5 12).i), D.int ((gt ds5 13).i), D.int ((gt ds5 14).i), D.str (((elAt ((gt ds5 15).r) ((gt ds5 2).i)).c 0).s), D.int (((elAt ((gt ds5 15).r) ((gt ds5 2).i)).c 1).i), D.int (((elAt ((gt ds5 15).r) ((gt ds5 2).i)).c 2).i), D.int (((elAt ((gt ds5 15).r) ((gt ds5 2).i)).c 3).i), D.int (((elAt ((gt ds5 15).r) ((gt ds5 2).i)).c 4).i), D.row ((gt ds5 15).r)]
     else some [D.int ((gt ds5 0).i), D.int ((gt ds5 1).i), D.int ((gt ds5 2).i), D.int ((gt ds5 3).i), D.int ((gt ds5 4).i), D.int ((gt ds5 5).i), D.int ((gt ds5 6).i), D.int ((gt ds5 7).i), D.int ((gt ds5 8).i), D.int ((gt ds5 9).i), D.int ((gt ds5 10).i), D.int ((gt ds5 11).i), D.int ((gt ds5 12).i), D.int ((gt ds5 13).i), D.int ((gt ds5 14).i), D.str (((elAt ((gt ds5 15).r) ((gt ds5 2).i)).c 0).s), D.int (((elAt ((gt ds5 15).r) ((gt ds5 2).i)).c 1).i), D.int (((elAt ((gt ds5 15).r) ((gt ds5 2).i)).c 2).i), D.int (((elAt ((gt ds5 15).r) ((gt ds5 2).i)).c 3).i), D.int (((elAt ((gt ds5 15).r) ((gt ds5 2).i)).c 4).i), D.row ((gt ds5 15).r)]).bind fun ds7 =>
    (bif ((gt ds7 19).i == 1) then
      some [D.int ((gt ds7 0).i), D.int ((gt ds7 1).i), D.int ((gt ds7 2).i), D.int ((gt ds7 3).i), D.int ((gt ds7 4).i), D.int ((gt ds7 5).i), D.int ((gt ds7 6).i), D.int ((gt ds7 7).i), D.int ((gt ds7 8).i), D.int ((gt ds7 9).i), D.int ((gt ds7 10).i), D.int (Go.IntKind.i64.wrap ((gt ds7 11).i + 1)), D.int ((gt ds7 12).i), D.int ((gt ds7 13).i), D.int ((gt ds7 14).i), D.str ((gt ds7 15).s), D.int ((gt ds7 16).i), D.int ((gt ds7 17).i), D.int ((gt ds7 18).i), D.int ((gt ds7 19).i), D.row ((gt ds7 20).r)]
     else bif ((gt ds7 19).i == 2) then
      some [D.int ((gt ds7 0).i), D.int ((gt ds7 1).i), D.int ((gt ds7 2).i), D.int ((gt ds7 3).i), D.int ((gt ds7 4).i), D.int ((gt ds7 5).i), D.int ((gt ds7 6).i), D.int ((gt ds7 7).i), D.int ((gt ds7 8).i), D.int ((gt ds7 9).i), D.int ((gt ds7 10).i), D.int ((gt ds7 11).i), D.int (Go.IntKind.i64.wrap ((gt ds7 12).i + 1)), D.int ((gt ds7 13).i), D.int ((gt ds7 14).i), D.str ((gt ds7 15).s), D.int ((gt ds7 16).i), D.int ((gt ds7 17).i), D.int ((gt ds7 18).i), D.int ((gt ds7 19).i), D.row ((gt ds7 20).r)]
     else bif ((gt ds7 19).i == 3) then
      some [D.int ((gt ds7 0).i), D.int ((gt ds7 1).i), D.int ((gt ds7 2).i), D.int ((gt ds7 3).i), D.int ((gt ds7 4).i), D.int ((gt ds7 5).i), D.int ((gt ds7 6).i), D.int ((gt ds7 7).i), D.int ((gt ds7 8).i), D.int ((gt ds7 9).i), D.int ((gt ds7 10).i), D.int ((gt ds7 11).i), D.int ((gt ds7 12).i), D.int (Go.IntKind.i64.wrap ((gt ds7 13).i + 1)), D.int ((gt ds7 14).i), D.str ((gt ds7 15).s), D.int ((gt ds7 16).i), D.int ((gt ds7 17).i), D.int ((gt ds7 18).i), D.int ((gt ds7 19).i), D.row ((gt ds7 20).r)]
     else some [D.int ((gt ds7 0).i), D.int ((gt ds7 1).i), D.int ((gt ds7 2).i), D.int ((gt ds7 3).i), D.int ((gt ds7 4).i), D.int ((gt ds7 5).i), D.int ((gt ds7 6).i), D.int ((gt ds7 7).i), D.int ((gt ds7 8).i), D.int ((gt ds7 9).i), D.int ((gt ds7 10).i), D.int ((gt ds7 11).i), D.int ((gt ds7 12).i), D.int ((gt ds7 13).i), D.int ((gt ds7 14).i), D.str ((gt ds7 15).s), D.int ((gt ds7 16).i), D.int ((gt ds7 17).i), D.int ((gt ds7 18).i), D.int ((gt ds7 19).i), D.row ((gt ds7 20).r)]).bind fun ds8 =>
    bif decide ((gt ds8 18).i > (gt ds8 17).i) then
     some [D.int ((gt ds8 0).i), D.int ((gt ds8 1).i), D.int ((gt ds8 2).i), D.int ((gt ds8 3).i), D.int ((gt ds8 4).i), D.int ((gt ds8 5).i), D.int ((gt ds8 6).i), D.int ((gt ds8 7).i), D.int ((gt ds8 8).i), D.int ((gt ds8 9).i), D.int ((gt ds8 10).i), D.int ((gt ds8 11).i), D.int ((gt ds8 12).i), D.int ((gt ds8 13).i), D.int (Go.IntKind.i64.wrap ((gt ds8 14).i + 1)), D.row ((gt ds8 20).r)]
    else some [D.int ((gt ds8 0).i), D.int ((gt ds8 1).i), D.int ((gt ds8 2).i), D.int ((gt ds8 3).i), D.int ((gt ds8 4).i), D.int ((gt ds8 5).i), D.int ((gt ds8 6).i), D.int ((gt ds8 7).i), D.int ((gt ds8 8).i), D.int ((gt ds8 9).i), D.int ((gt ds8 10).i), D.int ((gt ds8 11).i), D.int ((gt ds8 12).i), D.int ((gt ds8 13).i), D.int ((gt ds8 14).i), D.row ((gt ds8 20).r)]
   else none).bind fun ds9 =>
  rec4 [D.int ((gt ds9 0).i), D.int ((gt ds9 1).i), D.int (Go.IntKind.i64.wrap ((gt ds9 2).i + 1)), D.int ((gt ds9 3).i), D.int ((gt ds9 4).i), D.int ((gt ds9 5).i), D.int ((gt ds9 6).i), D.int ((gt ds9 7).i), D.int ((gt ds9 8).i), D.int ((gt ds9 9).i), D.int ((gt ds9 10).i), D.int ((gt ds9 11).i), D.int ((gt ds9 12).i), D.int ((gt ds9 13).i), D.int ((gt ds9 14).i), D.row ((gt ds9 15).r)]
 else some [D.int ((gt ds5 9).i), D.int ((gt ds5 10).i), D.int ((gt ds5 11).i), D.int ((gt ds5 12).i), D.int ((gt ds5 13).i), D.int ((gt ds5 14).i), D.int 0]
/-- interchange/reply.StandingAt -/
def F12 (k : Nat) (ds : List D) : Option (List D) :=
 (F16 k [D.row ((gt ds 0).r)]).bind fun ds0 =>
 bif ((gt ds0 0).i != 0) then
  some [D.int 0, D.int 0, D.int 0, D.int 0, D.int 0, D.int 0, D.int ((gt ds0 0).i)]
 else (F28 k [D.int ((gt ds 1).i)]).bind fun ds1 =>
 bif (!(gt ds1 0).b) then
  some [D.int 0, D.int 0, D.int 0, D.int 0, D.int 0, D.int 0, D.int 1]
 else (F29 k [D.row ((gt ds 0).r), D.int ((gt ds 1).i)]).bind fun ds2 =>
 iter B12x0 k [D.int ((gt ds 1).i), D.int (((gt ds2 0).r).length : Int), D.int 0, D.int 0, D.int 0, D.int 0, D.int 0, D.int 0, D.int 0, D.int 0, D.int 0, D.int 0, D.int 0, D.int 0, D.int 0, D.row ((gt ds2 0).r)]
def K12 : Callee := ⟨[.seen 30, .int .i64], [.agg [.int .i64, .int .i64, .int .i64, .int .i64, .int .i64, .int .i64], .int .i64], F12⟩
noncomputable def C12 : Code := match Tryd.f12.body with | some c => c | none => .skip
theorem T12 : FunOK Tryd.prog (tyTab TL) 12 K12 :=
 fun_ok (loops := lkup [(8, ⟨[.box 35 [.int .i64, .int .i64, .int .i64, .int .i64, .int .i64, .int .i64], .box 35 [.int .i64, .int .i64, .int .i64, .int .i64, .int .i64, .int .i64], .row 32 false], [(1, .int .i64), (4, .ptr 0 0), (7, .ptr 1 0), (23, .orow 2), (24, .int .i64), (25, .int .i64)]⟩)]) (joins := lkup [(30, .full ⟨[.box 35 [.int .i64, .int .i64, .int .i64, .int .i64, .int .i64, .int .i64], .box 35 [.int .i64, .int .i64, .int .i64, .int .i64, .int .i64, .int .i64], .box 32 [.str, .int .i64, .int .i64, .int .i64, .int .i64], .row 32 false], [(1, .int .i64), (4, .ptr 0 0), (7, .ptr 1 0), (9, .ptr 2 0), (23, .orow 3), (24, .int .i64), (25, .int .i64)]⟩), (44, .full ⟨[.box 35 [.int .i64, .int .i64, .int .i64, .int .i64, .int .i64, .int .i64], .box 35 [.int .i64, .int .i64, .int .i64, .int .i64, .int .i64, .int .i64], .box 32 [.str, .int .i64, .int .i64, .int .i64, .int .i64], .row 32 false], [(1, .int .i64), (4, .ptr 0 0), (7, .ptr 1 0), (9, .ptr 2 0), (23, .orow 3), (24, .int .i64), (25, .int .i64)]⟩), (48, .full ⟨[.box 35 [.int .i64, .int .i64, .int .i64, .int .i64, .int .i64, .int .i64], .box 35 [.int .i64, .int .i64, .int .i64, .int .i64, .int .i64, .int .i64], .row 32 false], [(1, .int .i64), (4, .ptr 0 0), (7, .ptr 1 0), (23, .orow 2), (24, .int .i64), (25, .int .i64)]⟩)]) (md := mdL []) (L := [(16, K16), (28, K28), (29, K29), (30, K30)]) (res := [.cell 4 35, .tmp 5]) (code := C12) (fn := Tryd.f12) TOKp EOKp MIXp (lkup_cons T16 (lkup_cons T28 (lkup_cons T29 (lkup_cons T30 lkup_nil)))) Tryd.func12 (by kernel_rfl) (by kernel_rfl) (of_decide_eq_false (by kernel_rfl)) (by kernel_rfl) (fun k ds => by kernel_rfl)
/-- interchange/reply.StateAt -/
def F13 (k : Nat) (ds : List D) : Option (List D) :=
 (F16 k [D.row ((gt ds 0).r)]).bind fun ds0 =>
 bif ((gt ds0 0).i != 0) then
  some [D.int 0, D.int ((gt ds0 0).i)]
 else (F29 k [D.row ((gt ds 0).r), D.int ((gt ds 2).i)]).bind fun ds1 =>
 ((F31 k [D.int ((gt ds 1).i), D.int 0, D.int (Go.IntKind.i64.wrap ((((gt ds1 0).r).length : Int) - 1))]).bind fun ds2 =>
  bif (gt ds2 0).b then
   some [D.bool true]
  else (F28 k [D.int ((gt ds 2).i)]).bind fun ds3 =>
  some [D.bool (!(gt ds3 0).b)]).bind fun ds4 =>
 bif (gt ds4 0).b then
  some [D.int 0, D.int 1]
 else bif ((inRow ((gt ds 1).i) (((gt ds1 0).r).length)) && true) then
  (F30 k [D.str (((elAt ((gt ds1 0).r) ((gt ds 1).i)).c 0).s), D.int (((elAt ((gt ds1 0).r) ((gt ds 1).i)).c 1).i), D.int (((elAt ((gt ds1 0).r) ((gt ds 1).i)).c 2).i), D.int (((elAt ((gt ds1 0).r) ((gt ds 1).i)).c 3).i), D.int (((elAt ((gt ds1 0).r) ((gt ds 1).i)).c 4).i), D.int ((gt ds 2).i)]).bind fun ds5 =>
  some [D.int ((gt ds5 0).i), D.int 0]
 else none
def K13 : Callee := ⟨[.seen 30, .int .i64, .int .i64], [.int .i64, .int .i64], F13⟩
noncomputable def C13 : Code := match Tryd.f13.body with | some c => c | none => .skip
theorem T13 : FunOK Tryd.prog (tyTab TL) 13 K13 :=
 fun_ok (loops := lkup []) (joins := lkup [(11, .light [(27, .bool)])]) (md := mdL []) (L := [(16, K16), (29, K29), (31, K31), (28, K28), (30, K30)]) (res := [.tmp 6, .tmp 7]) (code := C13) (fn := Tryd.f13) TOKp EOKp MIXp (lkup_cons T16 (lkup_cons T29 (lkup_cons T31 (lkup_cons T28 (lkup_cons T30 lkup_nil))))) Tryd.func13 (by kernel_rfl) (by kernel_rfl) (of_decide_eq_false (by kernel_rfl)) (by kernel_rfl) (fun k ds => by kernel_rfl)
/-- interchange/interchangeref7.Book -/
def F14 (k : Nat) (ds : List D) : Option (List D) :=
 (F15 k [D.row ((gt ds 0).r)]).bind fun ds0 =>
 bif ((gt ds0 0).i != 0) then
  some [D.row [], D.row [], D.int ((gt ds0 0).i)]
 else (F32 k [D.row ((gt ds 0).r), D.int 1000000000000000]).bind fun ds1 =>
 some [D.row ((gt ds1 0).r), D.row ((gt ds1 1).r), D.int 0]
def K14 : Callee := ⟨[.seen 30], [.own 32, .own 3, .int .i64], F14⟩
noncomputable def C14 : Code := match Tryd.f14.body with | some c => c | none => .skip
theorem T14 : FunOK Tryd.prog (tyTab TL) 14 K14 :=
 fun_ok (loops := lkup []) (joins := lkup []) (md := mdL []) (L := [(15, K15), (32, K32)]) (res := [.tmp 2, .tmp 3, .tmp 4]) (code := C14) (fn := Tryd.f14) TOKp EOKp MIXp (lkup_cons T15 (lkup_cons T32 lkup_nil)) Tryd.func14 (by kernel_rfl) (by kernel_rfl) (of_decide_eq_false (by kernel_rfl)) (by kernel_rfl) (fun k ds => by kernel_rfl)
def B46x0 (k0 : Nat) (rec1 : List D → Option (List D)) (ds2 : List D) : Option (List D) :=
 bif decide ((gt ds2 2).i < (gt ds2 1).i) then
  bif ((inRow ((gt ds2 2).i) (((gt ds2 0).r).length)) && true) then
   bif (needOk (((gt ds2 3).r).length + [D.int (((elAt ((gt ds2 0).r) ((gt ds2 2).i)).c 1).i)].length) 8) then
    rec1 [D.row ((gt ds2 0).r), D.int ((gt ds2 1).i), D.int (Go.IntKind.i64.wrap ((gt ds2 2).i + 1)), D.row ((gt ds2 3).r ++ [D.int (((elAt ((gt ds2 0).r) ((gt ds2 2).i)).c 1).i)])]
   else none
  else none
 else (F56 k0 [D.row ((gt ds2 3).r)]).bind fun ds3 =>
 some [D.int ((gt ds3 0).i)]
/-- interchange/reply.verdictOf -/
def F46 (k : Nat) (ds : List D) : Option (List D) :=
 iter B46x0 k [D.row ((gt ds 2).r), D.int (((gt ds 2).r).length : Int), D.int 0, D.row []]
def K46 : Callee := ⟨[.agg [.str, .int .i64, .seen 77]], [.int .i64], F46⟩
noncomputable def C46 : Code := match Tryd.f46.body with | some c => c | none => .skip
theorem T46 : FunOK Tryd.prog (tyTab TL) 46 K46 :=
 fun_ok (loops := lkup [(3, ⟨[.row 3 false], [(3, .orow 0), (7, .srow 77), (8, .int .i64), (9, .int .i64)]⟩)]) (joins := lkup []) (md := mdL []) (L := [(56, K56)]) (res := [.tmp 2]) (code := C46) (fn := Tryd.f46) TOKp EOKp MIXp (lkup_cons T56 lkup_nil) Tryd.func46 (by kernel_rfl) (by kernel_rfl) (of_decide_eq_false (by kernel_rfl)) (by kernel_rfl) (fun k ds => by kernel_rfl)
def B54x0 (k3 : Nat) (rec4 : List D → Option (List D)) (ds5 : List D) : Option (List D) :=
 bif decide ((gt ds5 2).i < (gt ds5 1).i) then
  bif ((inRow ((gt ds5 2).i) (((gt ds5 0).r).length)) && true) then
   bif ((ByteArray.toList (((elAt ((gt ds5 0).r) ((gt ds5 2).i)).c 0).s)) == (ByteArray.toList ((gt ds5 4).s))) then
    some [D.bool ((gt ds5 3).b), D.bool (decide ((gt ds5 2).i ≥ 0)), D.str ((gt ds5 4).s), D.int ((gt ds5 5).i), D.bool ((gt ds5 6).b), D.row ((gt ds5 7).r), D.row ((gt ds5 8).r)]
   else rec4 [D.row ((gt ds5 0).r), D.int ((gt ds5 1).i), D.int (Go.IntKind.i64.wrap ((gt ds5 2).i + 1)), D.bool ((gt ds5 3).b), D.str ((gt ds5 4).s), D.int ((gt ds5 5).i), D.bool ((gt ds5 6).b), D.row ((gt ds5 7).r), D.row ((gt ds5 8).r)]
  else none
 else some [D.bool ((gt ds5 3).b), D.bool false, D.str ((gt ds5 4).s), D.int ((gt ds5 5).i), D.bool ((gt ds5 6).b), D.row ((gt ds5 7).r), D.row ((gt ds5 8).r)]
def B54x1 (k9 : Nat) (rec10 : List D → Option (List D)) (ds11 : List D) : Option (List D) :=
 bif decide ((gt ds11 3).i < (gt ds11 2).i) then
  bif ((inRow ((gt ds11 3).i) (((gt ds11 1).r).length)) && true) then
   (F82 k9 [D.str ((elAt ((gt ds11 1).r) ((gt ds11 3).i)).s)]).bind fun ds12 =>
   bif (!(gt ds12 0).b) then
    some [D.int 5]
   else (bif decide ((gt ds11 3).i > 0) then
     bif ((inRow (Go.IntKind.i64.wrap ((gt ds11 3).i - 1)) (((gt ds11 8).r).length)) && true) then
      some [D.bool ((Go.Op.bytesLess (ByteArray.toList ((elAt ((gt ds11 1).r) ((gt ds11 3).i)).s)) (ByteArray.toList ((elAt ((gt ds11 8).r) (Go.IntKind.i64.wrap ((gt ds11 3).i - 1))).s))) || ((ByteArray.toList ((elAt ((gt ds11 1).r) ((gt ds11 3).i)).s)) == (ByteArray.toList ((elAt ((gt ds11 8).r) (Go.IntKind.i64.wrap ((gt ds11 3).i - 1))).s))))]
     else none
    else some [D.bool false]).bind fun ds13 =>
   bif (gt ds13 0).b then
    some [D.int 8]
   else rec10 [D.bool ((gt ds11 0).b), D.row ((gt ds11 1).r), D.int ((gt ds11 2).i), D.int (Go.IntKind.i64.wrap ((gt ds11 3).i + 1)), D.str ((gt ds11 4).s), D.int ((gt ds11 5).i), D.bool ((gt ds11 6).b), D.row ((gt ds11 7).r), D.row ((gt ds11 8).r)]
  else none
 else (bif ((gt ds11 5).i == 1) then
   some [D.bool ((gt ds11 0).b)]
  else some [D.bool false]).bind fun ds14 =>
 bif (gt ds14 0).b then
  some [D.int 12]
 else some [D.int 0]
/-- interchange/reply.messageFault -/
def F54 (k : Nat) (ds : List D) : Option (List D) :=
 (bif decide ((((gt ds 3).r).length : Int) > 0) then
   some [D.bool true]
  else some [D.bool (decide ((((gt ds 4).r).length : Int) > 0))]).bind fun ds0 =>
 (F43 k [D.str ((gt ds 0).s)]).bind fun ds1 =>
 bif (!(gt ds1 0).b) then
  some [D.int 3]
 else (F44 k [D.int ((gt ds 1).i)]).bind fun ds2 =>
 bif (!(gt ds2 0).b) then
  some [D.int 4]
 else (iter B54x0 k [D.row ((gt ds 5).r), D.int (((gt ds 5).r).length : Int), D.int 0, D.bool ((gt ds0 0).b), D.str ((gt ds 0).s), D.int ((gt ds 1).i), D.bool ((gt ds 2).b), D.row ((gt ds 3).r), D.row ((gt ds 4).r)]).bind fun ds6 =>
 bif (gt ds6 1).b then
  some [D.int 7]
 else (bif (gt ds6 4).b then
   bif ((gt ds6 3).i != 3) then
    some [D.bool true]
   else some [D.bool ((gt ds6 0).b)]
  else some [D.bool false]).bind fun ds7 =>
 bif (gt ds7 0).b then
  some [D.int 12]
 else (F81 k [D.row ((gt ds6 5).r)]).bind fun ds8 =>
 bif ((gt ds8 0).i != 0) then
  some [D.int ((gt ds8 0).i)]
 else bif decide ((((gt ds6 6).r).length : Int) > 200) then
  some [D.int 2]
 else iter B54x1 k [D.bool ((gt ds6 0).b), D.row ((gt ds6 6).r), D.int (((gt ds6 6).r).length : Int), D.int 0, D.str ((gt ds6 2).s), D.int ((gt ds6 3).i), D.bool ((gt ds6 4).b), D.row ((gt ds6 5).r), D.row ((gt ds6 6).r)]
def K54 : Callee := ⟨[.agg [.str, .int .i64, .bool, .seen 134, .seen 9], .seen 89], [.int .i64], F54⟩
noncomputable def C54 : Code := match Tryd.f54.body with | some c => c | none => .skip
noncomputable def C80 : Code := match Tryd.f80.body with | some c => c | none => .skip
/-- interchange/reply.messageFault$1, in place -/
noncomputable def X54_3 : Inl := inlOf (tyTab TL) ⟨lkup [], lkup [], mdL [], envL [(43, K43), (44, K44), (81, K81), (82, K82)], itr, inlL [], hasL [], 3000⟩ C80 [.tmp 3]
theorem O54_3 : InlOK Tryd.prog (tyTab TL) 80 X54_3 :=
 inl_ok TOKp EOKp MIXp (lkup_cons T43 (lkup_cons T44 (lkup_cons T81 (lkup_cons T82 lkup_nil)))) inlL_nil (fn := Tryd.f80) Tryd.func80 (by kernel_rfl) (by kernel_rfl) (of_decide_eq_false (by kernel_rfl)) (by kernel_rfl)
noncomputable def C98 : Code := match Tryd.f98.body with | some c => c | none => .skip
/-- slices.IndexFunc[[]interchange/api.MessageReply,interchange/api.MessageReply], in place -/
noncomputable def X54_2 : Inl := inlOf (tyTab TL) ⟨lkup [(2, ⟨[.box 89 [.str, .int .i64, .bool, .srow 134, .srow 9]], [(0, .srow 89), (1, .clo 80 [(0, 0)]), (7, .int .i64), (8, .int .i64), (2000002, .ptr 0 0), (2000005, .bool)]⟩)], lkup [], mdL [], envL [(43, K43), (44, K44), (81, K81), (82, K82)], itr, inlL [(2004, 5, 80, X54_3)], hasL [(2004, 5, 80, X54_3)], 2000⟩ C98 [.tmp 4]
theorem O54_2 : InlOK Tryd.prog (tyTab TL) 98 X54_2 :=
 inl_ok TOKp EOKp MIXp (lkup_cons T43 (lkup_cons T44 (lkup_cons T81 (lkup_cons T82 lkup_nil)))) (inlL_cons O54_3 inlL_nil) (fn := Tryd.f98) Tryd.func98 (by kernel_rfl) (by kernel_rfl) (of_decide_eq_false (by kernel_rfl)) (by kernel_rfl)
noncomputable def C79 : Code := match Tryd.f79.body with | some c => c | none => .skip
/-- slices.ContainsFunc[[]interchange/api.MessageReply,interchange/api.MessageReply], in place -/
noncomputable def X54_1 : Inl := inlOf (tyTab TL) ⟨lkup [], lkup [], mdL [], envL [(43, K43), (44, K44), (81, K81), (82, K82)], itr, inlL [(1001, 2, 98, X54_2)], hasL [(1001, 2, 98, X54_2)], 1000⟩ C79 [.tmp 4]
theorem O54_1 : InlOK Tryd.prog (tyTab TL) 79 X54_1 :=
 inl_ok TOKp EOKp MIXp (lkup_cons T43 (lkup_cons T44 (lkup_cons T81 (lkup_cons T82 lkup_nil)))) (inlL_cons O54_2 inlL_nil) (fn := Tryd.f79) Tryd.func79 (by kernel_rfl) (by kernel_rfl) (of_decide_eq_false (by kernel_rfl)) (by kernel_rfl)
theorem T54 : FunOK Tryd.prog (tyTab TL) 54 K54 :=
 fun_ok_i (loops := lkup [(16, ⟨[.box 89 [.str, .int .i64, .bool, .srow 134, .srow 9]], [(2, .ptr 0 0), (5, .bool), (55, .srow 9), (56, .int .i64), (57, .int .i64)]⟩)]) (joins := lkup [(3, .light [(5, .bool)]), (13, .full ⟨[.box 89 [.str, .int .i64, .bool, .srow 134, .srow 9]], [(2, .ptr 0 0), (5, .bool), (29, .bool)]⟩), (17, .light [(33, .bool)]), (41, .light [(76, .bool)]), (47, .light [(83, .bool)])]) (md := mdL []) (L := [(43, K43), (44, K44), (81, K81), (82, K82)]) (I := [(6, 2, 79, X54_1)]) (res := [.tmp 4]) (code := C54) (fn := Tryd.f54) TOKp EOKp MIXp (lkup_cons T43 (lkup_cons T44 (lkup_cons T81 (lkup_cons T82 lkup_nil)))) (inlL_cons O54_1 inlL_nil) Tryd.func54 (by kernel_rfl) (by kernel_rfl) (of_decide_eq_false (by kernel_rfl)) (by kernel_rfl) (fun k ds => by kernel_rfl)
def B55x0 (k0 : Nat) (rec1 : List D → Option (List D)) (ds2 : List D) : Option (List D) :=
 bif decide ((gt ds2 2).i < (gt ds2 1).i) then
  bif ((inRow ((gt ds2 2).i) (((gt ds2 0).r).length)) && true) then
   bif (needOk (((gt ds2 3).r).length + [D.int (((elAt ((gt ds2 0).r) ((gt ds2 2).i)).c 1).i)].length) 8) then
    rec1 [D.row ((gt ds2 0).r), D.int ((gt ds2 1).i), D.int (Go.IntKind.i64.wrap ((gt ds2 2).i + 1)), D.row ((gt ds2 3).r ++ [D.int (((elAt ((gt ds2 0).r) ((gt ds2 2).i)).c 1).i)])]
   else none
  else none
 else (F56 k0 [D.row ((gt ds2 3).r)]).bind fun ds3 =>
 some [D.int ((gt ds3 0).i)]
/-- interchange/reply.verdictOfGroup -/
def F55 (k : Nat) (ds : List D) : Option (List D) :=
 iter B55x0 k [D.row ((gt ds 2).r), D.int (((gt ds 2).r).length : Int), D.int 0, D.row []]
def K55 : Callee := ⟨[.agg [.str, .int .i64, .seen 89]], [.int .i64], F55⟩
noncomputable def C55 : Code := match Tryd.f55.body with | some c => c | none => .skip
theorem T55 : FunOK Tryd.prog (tyTab TL) 55 K55 :=
 fun_ok (loops := lkup [(3, ⟨[.row 3 false], [(3, .orow 0), (7, .srow 89), (8, .int .i64), (9, .int .i64)]⟩)]) (joins := lkup []) (md := mdL []) (L := [(56, K56)]) (res := [.tmp 2]) (code := C55) (fn := Tryd.f55) TOKp EOKp MIXp (lkup_cons T56 lkup_nil) Tryd.func55 (by kernel_rfl) (by kernel_rfl) (of_decide_eq_false (by kernel_rfl)) (by kernel_rfl) (fun k ds => by kernel_rfl)
def B57x0 (k7 : Nat) (rec8 : List D → Option (List D)) (ds9 : List D) : Option (List D) :=
 bif decide ((gt ds9 0).i < (((gt ds9 5).r).length : Int)) then
  bif ((inRow ((gt ds9 0).i) (((gt ds9 5).r).length)) && true) then
   (F87 k7 [D.str ((elAt ((gt ds9 5).r) ((gt ds9 0).i)).s)]).bind fun ds10 =>
   bif (!(gt ds10 0).b) then
    some [D.int 5]
   else (bif decide ((gt ds9 0).i > 0) then
     bif ((inRow ((gt ds9 0).i) (((gt ds9 5).r).length)) && true) then
      bif ((inRow (Go.IntKind.i64.wrap ((gt ds9 0).i - 1)) (((gt ds9 5).r).length)) && true) then
       some [D.bool ((Go.Op.bytesLess (ByteArray.toList ((elAt ((gt ds9 5).r) ((gt ds9 0).i)).s)) (ByteArray.toList ((elAt ((gt ds9 5).r) (Go.IntKind.i64.wrap ((gt ds9 0).i - 1))).s))) || ((ByteArray.toList ((elAt ((gt ds9 5).r) ((gt ds9 0).i)).s)) == (ByteArray.toList ((elAt ((gt ds9 5).r) (Go.IntKind.i64.wrap ((gt ds9 0).i - 1))).s))))]
      else none
     else none
    else some [D.bool false]).bind fun ds11 =>
   bif (gt ds11 0).b then
    some [D.int 8]
   else rec8 [D.int (Go.IntKind.i64.wrap ((gt ds9 0).i + 1)), D.str ((gt ds9 1).s), D.int ((gt ds9 2).i), D.bool ((gt ds9 3).b), D.row ((gt ds9 4).r), D.row ((gt ds9 5).r)]
  else none
 else (bif ((gt ds9 2).i == 1) then
   bif decide ((((gt ds9 4).r).length : Int) > 0) then
    some [D.bool true]
   else some [D.bool (decide ((((gt ds9 5).r).length : Int) > 0))]
  else some [D.bool false]).bind fun ds12 =>
 bif (gt ds12 0).b then
  some [D.int 12]
 else some [D.int 0]
def B57x1 (k2 : Nat) (rec3 : List D → Option (List D)) (ds4 : List D) : Option (List D) :=
 bif decide ((gt ds4 2).i < (gt ds4 1).i) then
  bif ((inRow ((gt ds4 2).i) (((gt ds4 0).r).length)) && true) then
   bif ((ByteArray.toList (((elAt ((gt ds4 0).r) ((gt ds4 2).i)).c 0).s)) == (ByteArray.toList ((gt ds4 3).s))) then
    some [D.int 7]
   else rec3 [D.row ((gt ds4 0).r), D.int ((gt ds4 1).i), D.int (Go.IntKind.i64.wrap ((gt ds4 2).i + 1)), D.str ((gt ds4 3).s), D.int ((gt ds4 4).i), D.bool ((gt ds4 5).b), D.row ((gt ds4 6).r), D.row ((gt ds4 7).r)]
  else none
 else (bif (gt ds4 5).b then
   bif ((gt ds4 4).i != 3) then
    some [D.bool true]
   else bif decide ((((gt ds4 6).r).length : Int) > 0) then
    some [D.bool true]
   else some [D.bool (decide ((((gt ds4 7).r).length : Int) > 0))]
  else some [D.bool false]).bind fun ds5 =>
 bif (gt ds5 0).b then
  some [D.int 12]
 else (F86 k2 [D.row ((gt ds4 6).r)]).bind fun ds6 =>
 bif ((gt ds6 0).i != 0) then
  some [D.int ((gt ds6 0).i)]
 else bif decide ((((gt ds4 7).r).length : Int) > 200) then
  some [D.int 2]
 else iter B57x0 k2 [D.int 0, D.str ((gt ds4 3).s), D.int ((gt ds4 4).i), D.bool ((gt ds4 5).b), D.row ((gt ds4 6).r), D.row ((gt ds4 7).r)]
/-- interchange/interchangeref7.checkMessage -/
def F57 (k : Nat) (ds : List D) : Option (List D) :=
 bif ((inRow ((gt ds 1).i) (((gt ds 0).r).length)) && true) then
  (F41 k [D.str (((elAt ((gt ds 0).r) ((gt ds 1).i)).c 0).s)]).bind fun ds0 =>
  bif (!(gt ds0 0).b) then
   some [D.int 3]
  else (F42 k [D.int (((elAt ((gt ds 0).r) ((gt ds 1).i)).c 1).i)]).bind fun ds1 =>
  bif (!(gt ds1 0).b) then
   some [D.int 4]
  else iter B57x1 k [D.row ((gt ds 0).r), D.int ((gt ds 1).i), D.int 0, D.str (((elAt ((gt ds 0).r) ((gt ds 1).i)).c 0).s), D.int (((elAt ((gt ds 0).r) ((gt ds 1).i)).c 1).i), D.bool (((elAt ((gt ds 0).r) ((gt ds 1).i)).c 2).b), D.row (((elAt ((gt ds 0).r) ((gt ds 1).i)).c 3).r), D.row (((elAt ((gt ds 0).r) ((gt ds 1).i)).c 4).r)]
 else none
def K57 : Callee := ⟨[.seen 89, .int .i64], [.int .i64], F57⟩
noncomputable def C57 : Code := match Tryd.f57.body with | some c => c | none => .skip
theorem T57 : FunOK Tryd.prog (tyTab TL) 57 K57 :=
 fun_ok (loops := lkup [(7, ⟨[.box 89 [.str, .int .i64, .bool, .srow 134, .srow 9]], [(0, .srow 89), (1, .int .i64), (5, .ptr 0 0), (6, .int .i64)]⟩), (19, ⟨[.box 89 [.str, .int .i64, .bool, .srow 134, .srow 9]], [(5, .ptr 0 0), (8, .int .i64)]⟩)]) (joins := lkup [(23, .light [(52, .bool)]), (47, .light [(92, .bool)]), (51, .light [(107, .bool)])]) (md := mdL []) (L := [(41, K41), (42, K42), (86, K86), (87, K87)]) (res := [.tmp 4]) (code := C57) (fn := Tryd.f57) TOKp EOKp MIXp (lkup_cons T41 (lkup_cons T42 (lkup_cons T86 (lkup_cons T87 lkup_nil)))) Tryd.func57 (by kernel_rfl) (by kernel_rfl) (of_decide_eq_false (by kernel_rfl)) (by kernel_rfl) (fun k ds => by kernel_rfl)
/-- interchange/interchangelaw7.awake -/
def F11 (k : Nat) (ds : List D) : Option (List D) :=
 (F12 k [D.row [D.agg [D.int 1, D.int 0, D.int 0, D.str (ByteArray.mk #[65]), D.int 0]], D.int 0]).bind fun ds0 =>
 bif ((gt ds0 6).i == 0) then
  some [D.bool ((gt ds0 0).i == 1)]
 else some [D.bool false]
def K11 : Callee := ⟨[], [.bool], F11⟩
noncomputable def C11 : Code := match Tryd.f11.body with | some c => c | none => .skip
theorem T11 : FunOK Tryd.prog (tyTab TL) 11 K11 :=
 fun_ok (loops := lkup []) (joins := lkup []) (md := mdL []) (L := [(12, K12)]) (res := [.tmp 0]) (code := C11) (fn := Tryd.f11) TOKp EOKp MIXp (lkup_cons T12 lkup_nil) Tryd.func11 (by kernel_rfl) (by kernel_rfl) (of_decide_eq_false (by kernel_rfl)) (by kernel_rfl) (fun k ds => by kernel_rfl)
def B45x0 (k2 : Nat) (rec3 : List D → Option (List D)) (ds4 : List D) : Option (List D) :=
 bif decide ((gt ds4 2).i < (gt ds4 1).i) then
  bif ((inRow ((gt ds4 2).i) (((gt ds4 0).r).length)) && true) then
   bif ((ByteArray.toList (((elAt ((gt ds4 0).r) ((gt ds4 2).i)).c 0).s)) == (ByteArray.toList ((gt ds4 3).s))) then
    some [D.bool (decide ((gt ds4 2).i ≥ 0)), D.str ((gt ds4 3).s), D.int ((gt ds4 4).i), D.row ((gt ds4 5).r)]
   else rec3 [D.row ((gt ds4 0).r), D.int ((gt ds4 1).i), D.int (Go.IntKind.i64.wrap ((gt ds4 2).i + 1)), D.str ((gt ds4 3).s), D.int ((gt ds4 4).i), D.row ((gt ds4 5).r)]
  else none
 else some [D.bool false, D.str ((gt ds4 3).s), D.int ((gt ds4 4).i), D.row ((gt ds4 5).r)]
def B45x1 (k6 : Nat) (rec7 : List D → Option (List D)) (ds8 : List D) : Option (List D) :=
 bif decide ((gt ds8 2).i < (gt ds8 1).i) then
  bif ((inRow ((gt ds8 2).i) (((gt ds8 0).r).length)) && true) then
   bif (decide (0 ≤ (gt ds8 2).i) && decide ((gt ds8 2).i ≤ (((gt ds8 5).r).length : Int))) then
    (F54 k6 [D.str (((elAt ((gt ds8 0).r) ((gt ds8 2).i)).c 0).s), D.int (((elAt ((gt ds8 0).r) ((gt ds8 2).i)).c 1).i), D.bool (((elAt ((gt ds8 0).r) ((gt ds8 2).i)).c 2).b), D.row (((elAt ((gt ds8 0).r) ((gt ds8 2).i)).c 3).r), D.row (((elAt ((gt ds8 0).r) ((gt ds8 2).i)).c 4).r), D.row (List.drop 0 (List.take (Int.toNat ((gt ds8 2).i)) ((gt ds8 5).r)))]).bind fun ds9 =>
    bif ((gt ds9 0).i != 0) then
     some [D.int ((gt ds9 0).i)]
    else rec7 [D.row ((gt ds8 0).r), D.int ((gt ds8 1).i), D.int (Go.IntKind.i64.wrap ((gt ds8 2).i + 1)), D.str ((gt ds8 3).s), D.int ((gt ds8 4).i), D.row ((gt ds8 5).r)]
   else none
  else none
 else (F55 k6 [D.str ((gt ds8 3).s), D.int ((gt ds8 4).i), D.row ((gt ds8 5).r)]).bind fun ds10 =>
 bif ((gt ds10 0).i != (gt ds8 4).i) then
  some [D.int 12]
 else some [D.int 0]
/-- interchange/reply.groupFault -/
def F45 (k : Nat) (ds : List D) : Option (List D) :=
 (F43 k [D.str ((gt ds 0).s)]).bind fun ds0 =>
 bif (!(gt ds0 0).b) then
  some [D.int 3]
 else (F44 k [D.int ((gt ds 1).i)]).bind fun ds1 =>
 bif (!(gt ds1 0).b) then
  some [D.int 4]
 else (iter B45x0 k [D.row ((gt ds 3).r), D.int (((gt ds 3).r).length : Int), D.int 0, D.str ((gt ds 0).s), D.int ((gt ds 1).i), D.row ((gt ds 2).r)]).bind fun ds5 =>
 bif (gt ds5 0).b then
  some [D.int 7]
 else iter B45x1 k [D.row ((gt ds5 3).r), D.int (((gt ds5 3).r).length : Int), D.int 0, D.str ((gt ds5 1).s), D.int ((gt ds5 2).i), D.row ((gt ds5 3).r)]
def K45 : Callee := ⟨[.agg [.str, .int .i64, .seen 89], .seen 77], [.int .i64], F45⟩
noncomputable def C45 : Code := match Tryd.f45.body with | some c => c | none => .skip
noncomputable def C53 : Code := match Tryd.f53.body with | some c => c | none => .skip
/-- interchange/reply.groupFault$1, in place -/
noncomputable def X45_3 : Inl := inlOf (tyTab TL) ⟨lkup [], lkup [], mdL [], envL [(43, K43), (44, K44), (54, K54), (55, K55)], itr, inlL [], hasL [], 3000⟩ C53 [.tmp 3]
theorem O45_3 : InlOK Tryd.prog (tyTab TL) 53 X45_3 :=
 inl_ok TOKp EOKp MIXp (lkup_cons T43 (lkup_cons T44 (lkup_cons T54 (lkup_cons T55 lkup_nil)))) inlL_nil (fn := Tryd.f53) Tryd.func53 (by kernel_rfl) (by kernel_rfl) (of_decide_eq_false (by kernel_rfl)) (by kernel_rfl)
noncomputable def C78 : Code := match Tryd.f78.body with | some c => c | none => .skip
/-- slices.IndexFunc[[]interchange/api.GroupReply,interchange/api.GroupReply], in place -/
noncomputable def X45_2 : Inl := inlOf (tyTab TL) ⟨lkup [(2, ⟨[.box 77 [.str, .int .i64, .srow 89]], [(0, .srow 77), (1, .clo 53 [(0, 0)]), (7, .int .i64), (8, .int .i64), (2000002, .ptr 0 0)]⟩)], lkup [], mdL [], envL [(43, K43), (44, K44), (54, K54), (55, K55)], itr, inlL [(2004, 5, 53, X45_3)], hasL [(2004, 5, 53, X45_3)], 2000⟩ C78 [.tmp 4]
theorem O45_2 : InlOK Tryd.prog (tyTab TL) 78 X45_2 :=
 inl_ok TOKp EOKp MIXp (lkup_cons T43 (lkup_cons T44 (lkup_cons T54 (lkup_cons T55 lkup_nil)))) (inlL_cons O45_3 inlL_nil) (fn := Tryd.f78) Tryd.func78 (by kernel_rfl) (by kernel_rfl) (of_decide_eq_false (by kernel_rfl)) (by kernel_rfl)
noncomputable def C52 : Code := match Tryd.f52.body with | some c => c | none => .skip
/-- slices.ContainsFunc[[]interchange/api.GroupReply,interchange/api.GroupReply], in place -/
noncomputable def X45_1 : Inl := inlOf (tyTab TL) ⟨lkup [], lkup [], mdL [], envL [(43, K43), (44, K44), (54, K54), (55, K55)], itr, inlL [(1001, 2, 78, X45_2)], hasL [(1001, 2, 78, X45_2)], 1000⟩ C52 [.tmp 4]
theorem O45_1 : InlOK Tryd.prog (tyTab TL) 52 X45_1 :=
 inl_ok TOKp EOKp MIXp (lkup_cons T43 (lkup_cons T44 (lkup_cons T54 (lkup_cons T55 lkup_nil)))) (inlL_cons O45_2 inlL_nil) (fn := Tryd.f52) Tryd.func52 (by kernel_rfl) (by kernel_rfl) (of_decide_eq_false (by kernel_rfl)) (by kernel_rfl)
theorem T45 : FunOK Tryd.prog (tyTab TL) 45 K45 :=
 fun_ok_i (loops := lkup [(8, ⟨[.box 77 [.str, .int .i64, .srow 89]], [(2, .ptr 0 0), (23, .srow 89), (24, .int .i64), (25, .int .i64)]⟩)]) (joins := lkup [(11, .full ⟨[.box 77 [.str, .int .i64, .srow 89]], [(2, .ptr 0 0), (18, .bool)]⟩)]) (md := mdL []) (L := [(43, K43), (44, K44), (54, K54), (55, K55)]) (I := [(5, 2, 52, X45_1)]) (res := [.tmp 4]) (code := C45) (fn := Tryd.f45) TOKp EOKp MIXp (lkup_cons T43 (lkup_cons T44 (lkup_cons T54 (lkup_cons T55 lkup_nil)))) (inlL_cons O45_1 inlL_nil) Tryd.func45 (by kernel_rfl) (by kernel_rfl) (of_decide_eq_false (by kernel_rfl)) (by kernel_rfl) (fun k ds => by kernel_rfl)
def B47x0 (k5 : Nat) (rec6 : List D → Option (List D)) (ds7 : List D) : Option (List D) :=
 bif decide ((gt ds7 0).i < (((gt ds7 3).r).length : Int)) then
  (F57 k5 [D.row ((gt ds7 3).r), D.int ((gt ds7 0).i)]).bind fun ds8 =>
  bif ((gt ds8 0).i != 0) then
   some [D.int ((gt ds8 0).i)]
  else rec6 [D.int (Go.IntKind.i64.wrap ((gt ds7 0).i + 1)), D.str ((gt ds7 1).s), D.int ((gt ds7 2).i), D.row ((gt ds7 3).r)]
 else (F58 k5 [D.str ((gt ds7 1).s), D.int ((gt ds7 2).i), D.row ((gt ds7 3).r)]).bind fun ds9 =>
 bif ((gt ds7 2).i != (gt ds9 0).i) then
  some [D.int 12]
 else some [D.int 0]
def B47x1 (k2 : Nat) (rec3 : List D → Option (List D)) (ds4 : List D) : Option (List D) :=
 bif decide ((gt ds4 2).i < (gt ds4 1).i) then
  bif ((inRow ((gt ds4 2).i) (((gt ds4 0).r).length)) && true) then
   bif ((ByteArray.toList (((elAt ((gt ds4 0).r) ((gt ds4 2).i)).c 0).s)) == (ByteArray.toList ((gt ds4 3).s))) then
    some [D.int 7]
   else rec3 [D.row ((gt ds4 0).r), D.int ((gt ds4 1).i), D.int (Go.IntKind.i64.wrap ((gt ds4 2).i + 1)), D.str ((gt ds4 3).s), D.int ((gt ds4 4).i), D.row ((gt ds4 5).r)]
  else none
 else iter B47x0 k2 [D.int 0, D.str ((gt ds4 3).s), D.int ((gt ds4 4).i), D.row ((gt ds4 5).r)]
/-- interchange/interchangeref7.checkGroup -/
def F47 (k : Nat) (ds : List D) : Option (List D) :=
 bif ((inRow ((gt ds 1).i) (((gt ds 0).r).length)) && true) then
  (F41 k [D.str (((elAt ((gt ds 0).r) ((gt ds 1).i)).c 0).s)]).bind fun ds0 =>
  bif (!(gt ds0 0).b) then
   some [D.int 3]
  else (F42 k [D.int (((elAt ((gt ds 0).r) ((gt ds 1).i)).c 1).i)]).bind fun ds1 =>
  bif (!(gt ds1 0).b) then
   some [D.int 4]
  else iter B47x1 k [D.row ((gt ds 0).r), D.int ((gt ds 1).i), D.int 0, D.str (((elAt ((gt ds 0).r) ((gt ds 1).i)).c 0).s), D.int (((elAt ((gt ds 0).r) ((gt ds 1).i)).c 1).i), D.row (((elAt ((gt ds 0).r) ((gt ds 1).i)).c 2).r)]
 else none
def K47 : Callee := ⟨[.seen 77, .int .i64], [.int .i64], F47⟩
noncomputable def C47 : Code := match Tryd.f47.body with | some c => c | none => .skip
theorem T47 : FunOK Tryd.prog (tyTab TL) 47 K47 :=
 fun_ok (loops := lkup [(7, ⟨[.box 77 [.str, .int .i64, .srow 89]], [(0, .srow 77), (1, .int .i64), (5, .ptr 0 0), (6, .int .i64)]⟩), (12, ⟨[.box 77 [.str, .int .i64, .srow 89]], [(5, .ptr 0 0), (7, .int .i64)]⟩)]) (joins := lkup []) (md := mdL []) (L := [(41, K41), (42, K42), (57, K57), (58, K58)]) (res := [.tmp 4]) (code := C47) (fn := Tryd.f47) TOKp EOKp MIXp (lkup_cons T41 (lkup_cons T42 (lkup_cons T57 (lkup_cons T58 lkup_nil)))) Tryd.func47 (by kernel_rfl) (by kernel_rfl) (of_decide_eq_false (by kernel_rfl)) (by kernel_rfl) (fun k ds => by kernel_rfl)
def B3x0 (rec16 : List D → Option (List D)) (k28 : Nat) (rec29 : List D → Option (List D)) (ds30 : List D) : Option (List D) :=
 bif decide ((gt ds30 6).i < (((gt ds30 8).r).length : Int)) then
  (bif ((inRow ((gt ds30 6).i) (((gt ds30 8).r).length)) && true) then
    bif ((inRow ((elAt ((gt ds30 8).r) ((gt ds30 6).i)).i) (((gt ds30 0).r).length)) && true) then
     bif ((inRow ((gt ds30 4).i) (((gt ds30 0).r).length)) && true) then
      bif ((ByteArray.toList (((elAt ((gt ds30 0).r) ((elAt ((gt ds30 8).r) ((gt ds30 6).i)).i)).c 3).s)) == (ByteArray.toList (((elAt ((gt ds30 0).r) ((gt ds30 4).i)).c 3).s))) then
       some [D.int (Go.IntKind.i64.wrap ((gt ds30 5).i - 1))]
      else some [D.int ((gt ds30 5).i)]
     else none
    else none
   else none).bind fun ds31 =>
  rec29 [D.row ((gt ds30 0).r), D.int ((gt ds30 1).i), D.int ((gt ds30 2).i), D.int ((gt ds30 3).i), D.int ((gt ds30 4).i), D.int ((gt ds31 0).i), D.int (Go.IntKind.i64.wrap ((gt ds30 6).i + 1)), D.row ((gt ds30 7).r), D.row ((gt ds30 8).r)]
 else bif ((gt ds30 5).i != 0) then
  some [D.bool false]
 else rec16 [D.row ((gt ds30 0).r), D.int ((gt ds30 1).i), D.int ((gt ds30 2).i), D.int ((gt ds30 3).i), D.int (Go.IntKind.i64.wrap ((gt ds30 4).i + 1)), D.row ((gt ds30 7).r), D.row ((gt ds30 8).r)]
def B3x1 (rec16 : List D → Option (List D)) (k23 : Nat) (rec24 : List D → Option (List D)) (ds25 : List D) : Option (List D) :=
 bif decide ((gt ds25 6).i < (((gt ds25 7).r).length : Int)) then
  ((bif ((inRow ((gt ds25 6).i) (((gt ds25 7).r).length)) && true) then
     bif ((inRow ((gt ds25 4).i) (((gt ds25 0).r).length)) && true) then
      bif ((ByteArray.toList (((elAt ((gt ds25 7).r) ((gt ds25 6).i)).c 0).s)) == (ByteArray.toList (((elAt ((gt ds25 0).r) ((gt ds25 4).i)).c 3).s))) then
       bif ((inRow ((gt ds25 6).i) (((gt ds25 7).r).length)) && true) then
        some [D.bool (decide (((elAt ((gt ds25 7).r) ((gt ds25 6).i)).c 3).i ≥ 0))]
       else none
      else some [D.bool false]
     else none
    else none).bind fun ds26 =>
   bif (gt ds26 0).b then
    some [D.int (Go.IntKind.i64.wrap ((gt ds25 5).i - 1))]
   else some [D.int ((gt ds25 5).i)]).bind fun ds27 =>
  rec24 [D.row ((gt ds25 0).r), D.int ((gt ds25 1).i), D.int ((gt ds25 2).i), D.int ((gt ds25 3).i), D.int ((gt ds25 4).i), D.int ((gt ds27 0).i), D.int (Go.IntKind.i64.wrap ((gt ds25 6).i + 1)), D.row ((gt ds25 7).r), D.row ((gt ds25 8).r)]
 else iter (B3x0 rec16) k23 [D.row ((gt ds25 0).r), D.int ((gt ds25 1).i), D.int ((gt ds25 2).i), D.int ((gt ds25 3).i), D.int ((gt ds25 4).i), D.int ((gt ds25 5).i), D.int 0, D.row ((gt ds25 7).r), D.row ((gt ds25 8).r)]
def B3x2 (rec16 : List D → Option (List D)) (k18 : Nat) (rec19 : List D → Option (List D)) (ds20 : List D) : Option (List D) :=
 bif decide ((gt ds20 6).i < (((gt ds20 0).r).length : Int)) then
  ((bif ((inRow ((gt ds20 6).i) (((gt ds20 0).r).length)) && true) then
     bif (((elAt ((gt ds20 0).r) ((gt ds20 6).i)).c 0).i == 2) then
      bif ((inRow ((gt ds20 6).i) (((gt ds20 0).r).length)) && true) then
       bif ((inRow ((gt ds20 4).i) (((gt ds20 0).r).length)) && true) then
        some [D.bool ((ByteArray.toList (((elAt ((gt ds20 0).r) ((gt ds20 6).i)).c 3).s)) == (ByteArray.toList (((elAt ((gt ds20 0).r) ((gt ds20 4).i)).c 3).s)))]
       else none
      else none
     else some [D.bool false]
    else none).bind fun ds21 =>
   bif (gt ds21 0).b then
    some [D.int (Go.IntKind.i64.wrap ((gt ds20 5).i + 1))]
   else some [D.int ((gt ds20 5).i)]).bind fun ds22 =>
  rec19 [D.row ((gt ds20 0).r), D.int ((gt ds20 1).i), D.int ((gt ds20 2).i), D.int ((gt ds20 3).i), D.int ((gt ds20 4).i), D.int ((gt ds22 0).i), D.int (Go.IntKind.i64.wrap ((gt ds20 6).i + 1)), D.row ((gt ds20 7).r), D.row ((gt ds20 8).r)]
 else iter (B3x1 rec16) k18 [D.row ((gt ds20 0).r), D.int ((gt ds20 1).i), D.int ((gt ds20 2).i), D.int ((gt ds20 3).i), D.int ((gt ds20 4).i), D.int ((gt ds20 5).i), D.int 0, D.row ((gt ds20 7).r), D.row ((gt ds20 8).r)]
def B3x3 (k15 : Nat) (rec16 : List D → Option (List D)) (ds17 : List D) : Option (List D) :=
 bif decide ((gt ds17 4).i < (((gt ds17 0).r).length : Int)) then
  iter (B3x2 rec16) k15 [D.row ((gt ds17 0).r), D.int ((gt ds17 1).i), D.int ((gt ds17 2).i), D.int ((gt ds17 3).i), D.int ((gt ds17 4).i), D.int 0, D.int 0, D.row ((gt ds17 5).r), D.row ((gt ds17 6).r)]
 else bif ((gt ds17 1).i == (((gt ds17 5).r).length : Int)) then
  bif ((Go.IntKind.i64.wrap ((gt ds17 3).i + (((gt ds17 6).r).length : Int))) == (gt ds17 2).i) then
   (F11 k15 []).bind fun ds32 =>
   some [D.bool ((gt ds32 0).b)]
  else some [D.bool false]
 else some [D.bool false]
def B3x4 (k11 : Nat) (rec12 : List D → Option (List D)) (ds13 : List D) : Option (List D) :=
 bif decide ((gt ds13 4).i < (((gt ds13 6).r).length : Int)) then
  (bif ((inRow ((gt ds13 4).i) (((gt ds13 6).r).length)) && true) then
    bif decide ((elAt ((gt ds13 6).r) ((gt ds13 4).i)).i < 0) then
     some [D.bool true]
    else bif ((inRow ((gt ds13 4).i) (((gt ds13 6).r).length)) && true) then
     bif decide ((elAt ((gt ds13 6).r) ((gt ds13 4).i)).i ≥ (((gt ds13 0).r).length : Int)) then
      some [D.bool true]
     else bif ((inRow ((gt ds13 4).i) (((gt ds13 6).r).length)) && true) then
      bif ((inRow ((elAt ((gt ds13 6).r) ((gt ds13 4).i)).i) (((gt ds13 0).r).length)) && true) then
       some [D.bool (((elAt ((gt ds13 0).r) ((elAt ((gt ds13 6).r) ((gt ds13 4).i)).i)).c 0).i != 2)]
      else none
     else none
    else none
   else none).bind fun ds14 =>
  bif (gt ds14 0).b then
   some [D.bool false]
  else rec12 [D.row ((gt ds13 0).r), D.int ((gt ds13 1).i), D.int ((gt ds13 2).i), D.int ((gt ds13 3).i), D.int (Go.IntKind.i64.wrap ((gt ds13 4).i + 1)), D.row ((gt ds13 5).r), D.row ((gt ds13 6).r)]
 else iter B3x3 k11 [D.row ((gt ds13 0).r), D.int ((gt ds13 1).i), D.int ((gt ds13 2).i), D.int ((gt ds13 3).i), D.int 0, D.row ((gt ds13 5).r), D.row ((gt ds13 6).r)]
def B3x5 (k6 : Nat) (rec7 : List D → Option (List D)) (ds8 : List D) : Option (List D) :=
 bif decide ((gt ds8 4).i < (((gt ds8 5).r).length : Int)) then
  bif ((inRow ((gt ds8 4).i) (((gt ds8 5).r).length)) && true) then
   bif decide (((elAt ((gt ds8 5).r) ((gt ds8 4).i)).c 3).i ≥ 0) then
    (bif ((inRow ((gt ds8 4).i) (((gt ds8 5).r).length)) && true) then
      bif ((inRow ((gt ds8 4).i) (((gt ds8 5).r).length)) && true) then
       bif decide (((elAt ((gt ds8 5).r) ((gt ds8 4).i)).c 3).i < ((elAt ((gt ds8 5).r) ((gt ds8 4).i)).c 1).i) then
        some [D.bool true]
       else bif ((inRow ((gt ds8 4).i) (((gt ds8 5).r).length)) && true) then
        some [D.bool (((elAt ((gt ds8 5).r) ((gt ds8 4).i)).c 4).i == 0)]
       else none
      else none
     else none).bind fun ds9 =>
    bif (gt ds9 0).b then
     some [D.bool false]
    else rec7 [D.row ((gt ds8 0).r), D.int ((gt ds8 1).i), D.int ((gt ds8 2).i), D.int (Go.IntKind.i64.wrap ((gt ds8 3).i + 1)), D.int (Go.IntKind.i64.wrap ((gt ds8 4).i + 1)), D.row ((gt ds8 5).r), D.row ((gt ds8 6).r)]
   else (bif ((inRow ((gt ds8 4).i) (((gt ds8 5).r).length)) && true) then
     bif (((elAt ((gt ds8 5).r) ((gt ds8 4).i)).c 3).i != (-1)) then
      some [D.bool true]
     else bif ((inRow ((gt ds8 4).i) (((gt ds8 5).r).length)) && true) then
      some [D.bool (((elAt ((gt ds8 5).r) ((gt ds8 4).i)).c 4).i != 0)]
     else none
    else none).bind fun ds10 =>
   bif (gt ds10 0).b then
    some [D.bool false]
   else rec7 [D.row ((gt ds8 0).r), D.int ((gt ds8 1).i), D.int ((gt ds8 2).i), D.int ((gt ds8 3).i), D.int (Go.IntKind.i64.wrap ((gt ds8 4).i + 1)), D.row ((gt ds8 5).r), D.row ((gt ds8 6).r)]
  else none
 else iter B3x4 k6 [D.row ((gt ds8 0).r), D.int ((gt ds8 1).i), D.int ((gt ds8 2).i), D.int ((gt ds8 3).i), D.int 0, D.row ((gt ds8 5).r), D.row ((gt ds8 6).r)]
def B3x6 (k2 : Nat) (rec3 : List D → Option (List D)) (ds4 : List D) : Option (List D) :=
 bif decide ((gt ds4 4).i < (((gt ds4 0).r).length : Int)) then
  bif ((inRow ((gt ds4 4).i) (((gt ds4 0).r).length)) && true) then
   bif (((elAt ((gt ds4 0).r) ((gt ds4 4).i)).c 0).i == 1) then
    (bif decide ((gt ds4 1).i ≥ (((gt ds4 5).r).length : Int)) then
      some [D.bool true]
     else bif ((inRow ((gt ds4 1).i) (((gt ds4 5).r).length)) && true) then
      bif ((inRow ((gt ds4 4).i) (((gt ds4 0).r).length)) && true) then
       bif (!((ByteArray.toList (((elAt ((gt ds4 5).r) ((gt ds4 1).i)).c 0).s)) == (ByteArray.toList (((elAt ((gt ds4 0).r) ((gt ds4 4).i)).c 3).s)))) then
        some [D.bool true]
       else bif ((inRow ((gt ds4 1).i) (((gt ds4 5).r).length)) && true) then
        bif ((inRow ((gt ds4 4).i) (((gt ds4 0).r).length)) && true) then
         bif (((elAt ((gt ds4 5).r) ((gt ds4 1).i)).c 1).i != ((elAt ((gt ds4 0).r) ((gt ds4 4).i)).c 1).i) then
          some [D.bool true]
         else bif ((inRow ((gt ds4 1).i) (((gt ds4 5).r).length)) && true) then
          bif ((inRow ((gt ds4 4).i) (((gt ds4 0).r).length)) && true) then
           some [D.bool (((elAt ((gt ds4 5).r) ((gt ds4 1).i)).c 2).i != ((elAt ((gt ds4 0).r) ((gt ds4 4).i)).c 2).i)]
          else none
         else none
        else none
       else none
      else none
     else none).bind fun ds5 =>
    bif (gt ds5 0).b then
     some [D.bool false]
    else rec3 [D.row ((gt ds4 0).r), D.int (Go.IntKind.i64.wrap ((gt ds4 1).i + 1)), D.int ((gt ds4 2).i), D.int ((gt ds4 3).i), D.int (Go.IntKind.i64.wrap ((gt ds4 4).i + 1)), D.row ((gt ds4 5).r), D.row ((gt ds4 6).r)]
   else rec3 [D.row ((gt ds4 0).r), D.int ((gt ds4 1).i), D.int (Go.IntKind.i64.wrap ((gt ds4 2).i + 1)), D.int ((gt ds4 3).i), D.int (Go.IntKind.i64.wrap ((gt ds4 4).i + 1)), D.row ((gt ds4 5).r), D.row ((gt ds4 6).r)]
  else none
 else iter B3x5 k2 [D.row ((gt ds4 0).r), D.int ((gt ds4 1).i), D.int ((gt ds4 2).i), D.int ((gt ds4 3).i), D.int 0, D.row ((gt ds4 5).r), D.row ((gt ds4 6).r)]
/-- interchange/interchangelaw7.ReplyBooksBelong -/
def F3 (k : Nat) (ds : List D) : Option (List D) :=
 (F10 k [D.row ((gt ds 0).r)]).bind fun ds0 =>
 bif ((gt ds0 2).i != 0) then
  bif ((((gt ds0 0).r).length : Int) == 0) then
   bif ((((gt ds0 1).r).length : Int) == 0) then
    (F11 k []).bind fun ds1 =>
    some [D.bool ((gt ds1 0).b)]
   else some [D.bool false]
  else some [D.bool false]
 else iter B3x6 k [D.row ((gt ds 0).r), D.int 0, D.int 0, D.int 0, D.int 0, D.row ((gt ds0 0).r), D.row ((gt ds0 1).r)]
def K3 : Callee := ⟨[.seen 30], [.bool], F3⟩
noncomputable def C3 : Code := match Tryd.f3.body with | some c => c | none => .skip
theorem T3 : FunOK Tryd.prog (tyTab TL) 3 K3 :=
 fun_ok (loops := lkup [(6, ⟨[.row 32 false, .row 3 false], [(0, .srow 30), (3, .orow 0), (4, .orow 1), (6, .int .i64), (7, .int .i64), (8, .int .i64), (9, .int .i64)]⟩), (14, ⟨[.row 32 false, .row 3 false], [(0, .srow 30), (3, .orow 0), (4, .orow 1), (6, .int .i64), (7, .int .i64), (8, .int .i64), (10, .int .i64)]⟩), (23, ⟨[.row 32 false, .row 3 false], [(0, .srow 30), (3, .orow 0), (4, .orow 1), (6, .int .i64), (7, .int .i64), (8, .int .i64), (11, .int .i64)]⟩), (32, ⟨[.row 32 false, .row 3 false], [(0, .srow 30), (3, .orow 0), (4, .orow 1), (6, .int .i64), (7, .int .i64), (8, .int .i64), (12, .int .i64), (13, .int .i64), (14, .int .i64)]⟩), (37, ⟨[.row 32 false, .row 3 false], [(0, .srow 30), (3, .orow 0), (4, .orow 1), (6, .int .i64), (7, .int .i64), (8, .int .i64), (12, .int .i64), (13, .int .i64), (15, .int .i64)]⟩), (42, ⟨[.row 32 false, .row 3 false], [(0, .srow 30), (3, .orow 0), (4, .orow 1), (6, .int .i64), (7, .int .i64), (8, .int .i64), (12, .int .i64), (13, .int .i64), (16, .int .i64)]⟩), (28, ⟨[.row 32 false, .row 3 false], [(0, .srow 30), (3, .orow 0), (4, .orow 1), (6, .int .i64), (7, .int .i64), (8, .int .i64), (12, .int .i64)]⟩)]) (joins := lkup [(19, .light [(90, .bool)]), (37, .light [(127, .bool)]), (41, .light [(141, .bool)]), (51, .light [(172, .bool)]), (69, .light [(203, .bool)]), (66, .light [(13, .int .i64)]), (79, .light [(230, .bool)]), (76, .light [(13, .int .i64)]), (86, .light [(13, .int .i64)])]) (md := mdL []) (L := [(10, K10), (11, K11)]) (res := [.tmp 2]) (code := C3) (fn := Tryd.f3) TOKp EOKp MIXp (lkup_cons T10 (lkup_cons T11 lkup_nil)) Tryd.func3 (by kernel_rfl) (by kernel_rfl) (of_decide_eq_false (by kernel_rfl)) (by kernel_rfl) (fun k ds => by kernel_rfl)
def B4x0 (k7 : Nat) (rec8 : List D → Option (List D)) (ds9 : List D) : Option (List D) :=
 bif decide ((gt ds9 3).i < (gt ds9 2).i) then
  (F13 k7 [D.row ((gt ds9 0).r), D.int ((gt ds9 3).i), D.int ((gt ds9 1).i)]).bind fun ds10 =>
  (bif ((gt ds10 1).i != 0) then
    some [D.bool true]
   else bif decide ((gt ds10 0).i < 1) then
    some [D.bool true]
   else some [D.bool (decide ((gt ds10 0).i > 3))]).bind fun ds11 =>
  bif (gt ds11 0).b then
   some [D.bool false]
  else bif decide ((gt ds10 0).i = (0 : Int)) then
   bif decide ((gt ds10 0).i = (0 : Int)) then
    rec8 [D.row ((gt ds9 0).r), D.int ((gt ds9 1).i), D.int ((gt ds9 2).i), D.int (Go.IntKind.i64.wrap ((gt ds9 3).i + 1)), D.int ((gt ds9 4).i), D.int ((gt ds9 5).i), D.int ((gt ds9 6).i), D.int ((gt ds9 7).i), D.int ((gt ds9 8).i), D.int ((gt ds9 9).i), D.int (Go.IntKind.i64.wrap ((gt ds9 10).i + 1)), D.int ((gt ds9 11).i), D.int ((gt ds9 12).i), D.int ((gt ds9 13).i)]
   else bif decide ((gt ds10 0).i = (1 : Int)) then
    rec8 [D.row ((gt ds9 0).r), D.int ((gt ds9 1).i), D.int ((gt ds9 2).i), D.int (Go.IntKind.i64.wrap ((gt ds9 3).i + 1)), D.int ((gt ds9 4).i), D.int ((gt ds9 5).i), D.int ((gt ds9 6).i), D.int ((gt ds9 7).i), D.int ((gt ds9 8).i), D.int ((gt ds9 9).i), D.int ((gt ds9 10).i), D.int (Go.IntKind.i64.wrap ((gt ds9 10).i + 1)), D.int ((gt ds9 12).i), D.int ((gt ds9 13).i)]
   else bif decide ((gt ds10 0).i = (2 : Int)) then
    rec8 [D.row ((gt ds9 0).r), D.int ((gt ds9 1).i), D.int ((gt ds9 2).i), D.int (Go.IntKind.i64.wrap ((gt ds9 3).i + 1)), D.int ((gt ds9 4).i), D.int ((gt ds9 5).i), D.int ((gt ds9 6).i), D.int ((gt ds9 7).i), D.int ((gt ds9 8).i), D.int ((gt ds9 9).i), D.int ((gt ds9 10).i), D.int ((gt ds9 11).i), D.int (Go.IntKind.i64.wrap ((gt ds9 10).i + 1)), D.int ((gt ds9 13).i)]
   else bif decide ((gt ds10 0).i = (3 : Int)) then
    rec8 [D.row ((gt ds9 0).r), D.int ((gt ds9 1).i), D.int ((gt ds9 2).i), D.int (Go.IntKind.i64.wrap ((gt ds9 3).i + 1)), D.int ((gt ds9 4).i), D.int ((gt ds9 5).i), D.int ((gt ds9 6).i), D.int ((gt ds9 7).i), D.int ((gt ds9 8).i), D.int ((gt ds9 9).i), D.int ((gt ds9 10).i), D.int ((gt ds9 11).i), D.int ((gt ds9 12).i), D.int (Go.IntKind.i64.wrap ((gt ds9 10).i + 1))]
   else none
  else bif decide ((gt ds10 0).i = (1 : Int)) then
   bif decide ((gt ds10 0).i = (0 : Int)) then
    rec8 [D.row ((gt ds9 0).r), D.int ((gt ds9 1).i), D.int ((gt ds9 2).i), D.int (Go.IntKind.i64.wrap ((gt ds9 3).i + 1)), D.int ((gt ds9 4).i), D.int ((gt ds9 5).i), D.int ((gt ds9 6).i), D.int ((gt ds9 7).i), D.int ((gt ds9 8).i), D.int ((gt ds9 9).i), D.int (Go.IntKind.i64.wrap ((gt ds9 11).i + 1)), D.int ((gt ds9 11).i), D.int ((gt ds9 12).i), D.int ((gt ds9 13).i)]
   else bif decide ((gt ds10 0).i = (1 : Int)) then
    rec8 [D.row ((gt ds9 0).r), D.int ((gt ds9 1).i), D.int ((gt ds9 2).i), D.int (Go.IntKind.i64.wrap ((gt ds9 3).i + 1)), D.int ((gt ds9 4).i), D.int ((gt ds9 5).i), D.int ((gt ds9 6).i), D.int ((gt ds9 7).i), D.int ((gt ds9 8).i), D.int ((gt ds9 9).i), D.int ((gt ds9 10).i), D.int (Go.IntKind.i64.wrap ((gt ds9 11).i + 1)), D.int ((gt ds9 12).i), D.int ((gt ds9 13).i)]
   else bif decide ((gt ds10 0).i = (2 : Int)) then
    rec8 [D.row ((gt ds9 0).r), D.int ((gt ds9 1).i), D.int ((gt ds9 2).i), D.int (Go.IntKind.i64.wrap ((gt ds9 3).i + 1)), D.int ((gt ds9 4).i), D.int ((gt ds9 5).i), D.int ((gt ds9 6).i), D.int ((gt ds9 7).i), D.int ((gt ds9 8).i), D.int ((gt ds9 9).i), D.int ((gt ds9 10).i), D.int ((gt ds9 11).i), D.int (Go.IntKind.i64.wrap ((gt ds9 11).i + 1)), D.int ((gt ds9 13).i)]
   else bif decide ((gt ds10 0).i = (3 : Int)) then
    rec8 [D.row ((gt ds9 0).r), D.int ((gt ds9 1).i), D.int ((gt ds9 2).i), D.int (Go.IntKind.i64.wrap ((gt ds9 3).i + 1)), D.int ((gt ds9 4).i), D.int ((gt ds9 5).i), D.int ((gt ds9 6).i), D.int ((gt ds9 7).i), D.int ((gt ds9 8).i), D.int ((gt ds9 9).i), D.int ((gt ds9 10).i), D.int ((gt ds9 11).i), D.int ((gt ds9 12).i), D.int (Go.IntKind.i64.wrap ((gt ds9 11).i + 1))]
   else none
  else bif decide ((gt ds10 0).i = (2 : Int)) then
   bif decide ((gt ds10 0).i = (0 : Int)) then
    rec8 [D.row ((gt ds9 0).r), D.int ((gt ds9 1).i), D.int ((gt ds9 2).i), D.int (Go.IntKind.i64.wrap ((gt ds9 3).i + 1)), D.int ((gt ds9 4).i), D.int ((gt ds9 5).i), D.int ((gt ds9 6).i), D.int ((gt ds9 7).i), D.int ((gt ds9 8).i), D.int ((gt ds9 9).i), D.int (Go.IntKind.i64.wrap ((gt ds9 12).i + 1)), D.int ((gt ds9 11).i), D.int ((gt ds9 12).i), D.int ((gt ds9 13).i)]
   else bif decide ((gt ds10 0).i = (1 : Int)) then
    rec8 [D.row ((gt ds9 0).r), D.int ((gt ds9 1).i), D.int ((gt ds9 2).i), D.int (Go.IntKind.i64.wrap ((gt ds9 3).i + 1)), D.int ((gt ds9 4).i), D.int ((gt ds9 5).i), D.int ((gt ds9 6).i), D.int ((gt ds9 7).i), D.int ((gt ds9 8).i), D.int ((gt ds9 9).i), D.int ((gt ds9 10).i), D.int (Go.IntKind.i64.wrap ((gt ds9 12).i + 1)), D.int ((gt ds9 12).i), D.int ((gt ds9 13).i)]
   else bif decide ((gt ds10 0).i = (2 : Int)) then
    rec8 [D.row ((gt ds9 0).r), D.int ((gt ds9 1).i), D.int ((gt ds9 2).i), D.int (Go.IntKind.i64.wrap ((gt ds9 3).i + 1)), D.int ((gt ds9 4).i), D.int ((gt ds9 5).i), D.int ((gt ds9 6).i), D.int ((gt ds9 7).i), D.int ((gt ds9 8).i), D.int ((gt ds9 9).i), D.int ((gt ds9 10).i), D.int ((gt ds9 11).i), D.int (Go.IntKind.i64.wrap ((gt ds9 12).i + 1)), D.int ((gt ds9 13).i)]
   else bif decide ((gt ds10 0).i = (3 : Int)) then
    rec8 [D.row ((gt ds9 0).r), D.int ((gt ds9 1).i), D.int ((gt ds9 2).i), D.int (Go.IntKind.i64.wrap ((gt ds9 3).i + 1)), D.int ((gt ds9 4).i), D.int ((gt ds9 5).i), D.int ((gt ds9 6).i), D.int ((gt ds9 7).i), D.int ((gt ds9 8).i), D.int ((gt ds9 9).i), D.int ((gt ds9 10).i), D.int ((gt ds9 11).i), D.int ((gt ds9 12).i), D.int (Go.IntKind.i64.wrap ((gt ds9 12).i + 1))]
   else none
  else bif decide ((gt ds10 0).i = (3 : Int)) then
   bif decide ((gt ds10 0).i = (0 : Int)) then
    rec8 [D.row ((gt ds9 0).r), D.int ((gt ds9 1).i), D.int ((gt ds9 2).i), D.int (Go.IntKind.i64.wrap ((gt ds9 3).i + 1)), D.int ((gt ds9 4).i), D.int ((gt ds9 5).i), D.int ((gt ds9 6).i), D.int ((gt ds9 7).i), D.int ((gt ds9 8).i), D.int ((gt ds9 9).i), D.int (Go.IntKind.i64.wrap ((gt ds9 13).i + 1)), D.int ((gt ds9 11).i), D.int ((gt ds9 12).i), D.int ((gt ds9 13).i)]
   else bif decide ((gt ds10 0).i = (1 : Int)) then
    rec8 [D.row ((gt ds9 0).r), D.int ((gt ds9 1).i), D.int ((gt ds9 2).i), D.int (Go.IntKind.i64.wrap ((gt ds9 3).i + 1)), D.int ((gt ds9 4).i), D.int ((gt ds9 5).i), D.int ((gt ds9 6).i), D.int ((gt ds9 7).i), D.int ((gt ds9 8).i), D.int ((gt ds9 9).i), D.int ((gt ds9 10).i), D.int (Go.IntKind.i64.wrap ((gt ds9 13).i + 1)), D.int ((gt ds9 12).i), D.int ((gt ds9 13).i)]
   else bif decide ((gt ds10 0).i = (2 : Int)) then
    rec8 [D.row ((gt ds9 0).r), D.int ((gt ds9 1).i), D.int ((gt ds9 2).i), D.int (Go.IntKind.i64.wrap ((gt ds9 3).i + 1)), D.int ((gt ds9 4).i), D.int ((gt ds9 5).i), D.int ((gt ds9 6).i), D.int ((gt ds9 7).i), D.int ((gt ds9 8).i), D.int ((gt ds9 9).i), D.int ((gt ds9 10).i), D.int ((gt ds9 11).i), D.int (Go.IntKind.i64.wrap ((gt ds9 13).i + 1)), D.int ((gt ds9 13).i)]
   else bif decide ((gt ds10 0).i = (3 : Int)) then
    rec8 [D.row ((gt ds9 0).r), D.int ((gt ds9 1).i), D.int ((gt ds9 2).i), D.int (Go.IntKind.i64.wrap ((gt ds9 3).i + 1)), D.int ((gt ds9 4).i), D.int ((gt ds9 5).i), D.int ((gt ds9 6).i), D.int ((gt ds9 7).i), D.int ((gt ds9 8).i), D.int ((gt ds9 9).i), D.int ((gt ds9 10).i), D.int ((gt ds9 11).i), D.int ((gt ds9 12).i), D.int (Go.IntKind.i64.wrap ((gt ds9 13).i + 1))]
   else none
  else none
 else bif ((gt ds9 4).i == (gt ds9 11).i) then
  bif ((gt ds9 5).i == (gt ds9 12).i) then
   bif ((Go.IntKind.i64.wrap ((Go.IntKind.i64.wrap ((gt ds9 6).i + (gt ds9 7).i)) + (gt ds9 8).i)) == (gt ds9 13).i) then
    bif decide ((gt ds9 9).i ≤ (gt ds9 13).i) then
     (F11 k7 []).bind fun ds12 =>
     some [D.bool ((gt ds12 0).b)]
    else some [D.bool false]
   else some [D.bool false]
  else some [D.bool false]
 else some [D.bool false]
def B4x1 (k2 : Nat) (rec3 : List D → Option (List D)) (ds4 : List D) : Option (List D) :=
 bif decide ((gt ds4 3).i < (((gt ds4 0).r).length : Int)) then
  ((bif ((inRow ((gt ds4 3).i) (((gt ds4 0).r).length)) && true) then
     bif (((elAt ((gt ds4 0).r) ((gt ds4 3).i)).c 0).i == 1) then
      bif ((inRow ((gt ds4 3).i) (((gt ds4 0).r).length)) && true) then
       some [D.bool (decide (((elAt ((gt ds4 0).r) ((gt ds4 3).i)).c 1).i ≤ (gt ds4 1).i))]
      else none
     else some [D.bool false]
    else none).bind fun ds5 =>
   bif (gt ds5 0).b then
    some [D.int (Go.IntKind.i64.wrap ((gt ds4 2).i + 1))]
   else some [D.int ((gt ds4 2).i)]).bind fun ds6 =>
  rec3 [D.row ((gt ds4 0).r), D.int ((gt ds4 1).i), D.int ((gt ds6 0).i), D.int (Go.IntKind.i64.wrap ((gt ds4 3).i + 1)), D.int ((gt ds4 4).i), D.int ((gt ds4 5).i), D.int ((gt ds4 6).i), D.int ((gt ds4 7).i), D.int ((gt ds4 8).i), D.int ((gt ds4 9).i)]
 else iter B4x0 k2 [D.row ((gt ds4 0).r), D.int ((gt ds4 1).i), D.int ((gt ds4 2).i), D.int 0, D.int ((gt ds4 4).i), D.int ((gt ds4 5).i), D.int ((gt ds4 6).i), D.int ((gt ds4 7).i), D.int ((gt ds4 8).i), D.int ((gt ds4 9).i), D.int 0, D.int 0, D.int 0, D.int 0]
/-- interchange/interchangelaw7.ReplyStatesAddUp -/
def F4 (k : Nat) (ds : List D) : Option (List D) :=
 (F12 k [D.row ((gt ds 0).r), D.int ((gt ds 1).i)]).bind fun ds0 =>
 bif ((gt ds0 6).i != 0) then
  bif (((gt ds0 0).i == 0) && (((gt ds0 1).i == 0) && (((gt ds0 2).i == 0) && (((gt ds0 3).i == 0) && (((gt ds0 4).i == 0) && (((gt ds0 5).i == 0) && true)))))) then
   (F11 k []).bind fun ds1 =>
   some [D.bool ((gt ds1 0).b)]
  else some [D.bool false]
 else iter B4x1 k [D.row ((gt ds 0).r), D.int ((gt ds 1).i), D.int 0, D.int 0, D.int ((gt ds0 0).i), D.int ((gt ds0 1).i), D.int ((gt ds0 2).i), D.int ((gt ds0 3).i), D.int ((gt ds0 4).i), D.int ((gt ds0 5).i)]
def K4 : Callee := ⟨[.seen 30, .int .i64], [.bool], F4⟩
noncomputable def C4 : Code := match Tryd.f4.body with | some c => c | none => .skip
theorem T4 : FunOK Tryd.prog (tyTab TL) 4 K4 :=
 fun_ok (loops := lkup [(6, ⟨[.box 35 [.int .i64, .int .i64, .int .i64, .int .i64, .int .i64, .int .i64]], [(0, .srow 30), (1, .int .i64), (5, .ptr 0 0), (7, .int .i64), (8, .int .i64)]⟩), (12, ⟨[.box 35 [.int .i64, .int .i64, .int .i64, .int .i64, .int .i64, .int .i64], .box 38 [.int .i64, .int .i64, .int .i64, .int .i64]], [(0, .srow 30), (1, .int .i64), (5, .ptr 0 0), (7, .int .i64), (9, .ptr 1 0), (10, .int .i64)]⟩)]) (joins := lkup [(17, .light [(47, .bool)]), (14, .light [(7, .int .i64)]), (31, .light [(72, .bool)])]) (md := mdL []) (L := [(12, K12), (11, K11), (13, K13)]) (res := [.tmp 4]) (code := C4) (fn := Tryd.f4) TOKp EOKp MIXp (lkup_cons T12 (lkup_cons T11 (lkup_cons T13 lkup_nil))) Tryd.func4 (by kernel_rfl) (by kernel_rfl) (of_decide_eq_false (by kernel_rfl)) (by kernel_rfl) (fun k ds => by kernel_rfl)
/-- interchange/interchangelaw7.ReplyBooksMatchSpec -/
def F5 (k : Nat) (ds : List D) : Option (List D) :=
 (F14 k [D.row ((gt ds 0).r)]).bind fun ds0 =>
 (F10 k [D.row ((gt ds 0).r)]).bind fun ds1 =>
 (F15 k [D.row ((gt ds 0).r)]).bind fun ds2 =>
 (F16 k [D.row ((gt ds 0).r)]).bind fun ds3 =>
 bif ((gt ds2 0).i == (gt ds3 0).i) then
  (F17 k [D.row ((gt ds1 0).r), D.row ((gt ds0 0).r)]).bind fun ds4 =>
  bif (gt ds4 0).b then
   (F18 k [D.row ((gt ds1 1).r), D.row ((gt ds0 1).r)]).bind fun ds5 =>
   bif (gt ds5 0).b then
    bif ((gt ds1 2).i == (gt ds0 2).i) then
     (F11 k []).bind fun ds6 =>
     some [D.bool ((gt ds6 0).b)]
    else some [D.bool false]
   else some [D.bool false]
  else some [D.bool false]
 else some [D.bool false]
def K5 : Callee := ⟨[.seen 30], [.bool], F5⟩
noncomputable def C5 : Code := match Tryd.f5.body with | some c => c | none => .skip
theorem T5 : FunOK Tryd.prog (tyTab TL) 5 K5 :=
 fun_ok (loops := lkup []) (joins := lkup []) (md := mdL []) (L := [(14, K14), (10, K10), (15, K15), (16, K16), (17, K17), (18, K18), (11, K11)]) (res := [.tmp 2]) (code := C5) (fn := Tryd.f5) TOKp EOKp MIXp (lkup_cons T14 (lkup_cons T10 (lkup_cons T15 (lkup_cons T16 (lkup_cons T17 (lkup_cons T18 (lkup_cons T11 lkup_nil))))))) Tryd.func5 (by kernel_rfl) (by kernel_rfl) (of_decide_eq_false (by kernel_rfl)) (by kernel_rfl) (fun k ds => by kernel_rfl)
def B35x0 (k2 : Nat) (rec3 : List D → Option (List D)) (ds4 : List D) : Option (List D) :=
 bif decide ((gt ds4 3).i < (gt ds4 2).i) then
  bif ((inRow ((gt ds4 3).i) (((gt ds4 1).r).length)) && true) then
   bif (decide (0 ≤ (gt ds4 3).i) && decide ((gt ds4 3).i ≤ (((gt ds4 6).r).length : Int))) then
    (F45 k2 [D.str (((elAt ((gt ds4 1).r) ((gt ds4 3).i)).c 0).s), D.int (((elAt ((gt ds4 1).r) ((gt ds4 3).i)).c 1).i), D.row (((elAt ((gt ds4 1).r) ((gt ds4 3).i)).c 2).r), D.row (List.drop 0 (List.take (Int.toNat ((gt ds4 3).i)) ((gt ds4 6).r)))]).bind fun ds5 =>
    bif ((gt ds5 0).i != 0) then
     some [D.int ((gt ds5 0).i)]
    else rec3 [D.int (Go.IntKind.i64.wrap ((gt ds4 0).i + ((((elAt ((gt ds4 1).r) ((gt ds4 3).i)).c 2).r).length : Int))), D.row ((gt ds4 1).r), D.int ((gt ds4 2).i), D.int (Go.IntKind.i64.wrap ((gt ds4 3).i + 1)), D.str ((gt ds4 4).s), D.int ((gt ds4 5).i), D.row ((gt ds4 6).r)]
   else none
  else none
 else bif decide ((gt ds4 0).i > 200) then
  some [D.int 2]
 else (F46 k2 [D.str ((gt ds4 4).s), D.int ((gt ds4 5).i), D.row ((gt ds4 6).r)]).bind fun ds6 =>
 bif ((gt ds6 0).i != (gt ds4 5).i) then
  some [D.int 12]
 else some [D.int 0]
/-- interchange/reply.CheckReply -/
def F35 (k : Nat) (ds : List D) : Option (List D) :=
 (F43 k [D.str ((gt ds 0).s)]).bind fun ds0 =>
 bif (!(gt ds0 0).b) then
  some [D.int 3]
 else (F44 k [D.int ((gt ds 1).i)]).bind fun ds1 =>
 bif (!(gt ds1 0).b) then
  some [D.int 4]
 else bif decide ((((gt ds 2).r).length : Int) > 50) then
  some [D.int 2]
 else iter B35x0 k [D.int 0, D.row ((gt ds 2).r), D.int (((gt ds 2).r).length : Int), D.int 0, D.str ((gt ds 0).s), D.int ((gt ds 1).i), D.row ((gt ds 2).r)]
def K35 : Callee := ⟨[.agg [.str, .int .i64, .seen 77]], [.int .i64], F35⟩
noncomputable def C35 : Code := match Tryd.f35.body with | some c => c | none => .skip
theorem T35 : FunOK Tryd.prog (tyTab TL) 35 K35 :=
 fun_ok (loops := lkup [(9, ⟨[.box 47 [.str, .int .i64, .srow 77]], [(1, .ptr 0 0), (3, .int .i64), (23, .srow 77), (24, .int .i64), (25, .int .i64)]⟩)]) (joins := lkup []) (md := mdL []) (L := [(43, K43), (44, K44), (45, K45), (46, K46)]) (res := [.tmp 2]) (code := C35) (fn := Tryd.f35) TOKp EOKp MIXp (lkup_cons T43 (lkup_cons T44 (lkup_cons T45 (lkup_cons T46 lkup_nil)))) Tryd.func35 (by kernel_rfl) (by kernel_rfl) (of_decide_eq_false (by kernel_rfl)) (by kernel_rfl) (fun k ds => by kernel_rfl)
def B37x0 (k2 : Nat) (rec3 : List D → Option (List D)) (ds4 : List D) : Option (List D) :=
 bif decide ((gt ds4 1).i < (((gt ds4 4).r).length : Int)) then
  (F47 k2 [D.row ((gt ds4 4).r), D.int ((gt ds4 1).i)]).bind fun ds5 =>
  bif ((gt ds5 0).i != 0) then
   some [D.int ((gt ds5 0).i)]
  else bif ((inRow ((gt ds4 1).i) (((gt ds4 4).r).length)) && true) then
   rec3 [D.int (Go.IntKind.i64.wrap ((gt ds4 0).i + ((((elAt ((gt ds4 4).r) ((gt ds4 1).i)).c 2).r).length : Int))), D.int (Go.IntKind.i64.wrap ((gt ds4 1).i + 1)), D.str ((gt ds4 2).s), D.int ((gt ds4 3).i), D.row ((gt ds4 4).r)]
  else none
 else bif decide ((gt ds4 0).i > 200) then
  some [D.int 2]
 else (F48 k2 [D.str ((gt ds4 2).s), D.int ((gt ds4 3).i), D.row ((gt ds4 4).r)]).bind fun ds6 =>
 bif ((gt ds4 3).i != (gt ds6 0).i) then
  some [D.int 12]
 else some [D.int 0]
/-- interchange/interchangeref7.CheckReply -/
def F37 (k : Nat) (ds : List D) : Option (List D) :=
 (F41 k [D.str ((gt ds 0).s)]).bind fun ds0 =>
 bif (!(gt ds0 0).b) then
  some [D.int 3]
 else (F42 k [D.int ((gt ds 1).i)]).bind fun ds1 =>
 bif (!(gt ds1 0).b) then
  some [D.int 4]
 else bif decide ((((gt ds 2).r).length : Int) > 50) then
  some [D.int 2]
 else iter B37x0 k [D.int 0, D.int 0, D.str ((gt ds 0).s), D.int ((gt ds 1).i), D.row ((gt ds 2).r)]
def K37 : Callee := ⟨[.agg [.str, .int .i64, .seen 77]], [.int .i64], F37⟩
noncomputable def C37 : Code := match Tryd.f37.body with | some c => c | none => .skip
theorem T37 : FunOK Tryd.prog (tyTab TL) 37 K37 :=
 fun_ok (loops := lkup [(9, ⟨[.box 47 [.str, .int .i64, .srow 77]], [(1, .ptr 0 0), (3, .int .i64), (4, .int .i64)]⟩)]) (joins := lkup []) (md := mdL []) (L := [(41, K41), (42, K42), (47, K47), (48, K48)]) (res := [.tmp 2]) (code := C37) (fn := Tryd.f37) TOKp EOKp MIXp (lkup_cons T41 (lkup_cons T42 (lkup_cons T47 (lkup_cons T48 lkup_nil)))) Tryd.func37 (by kernel_rfl) (by kernel_rfl) (of_decide_eq_false (by kernel_rfl)) (by kernel_rfl) (fun k ds => by kernel_rfl)
/-- interchange/reply.Answered -/
def F19 (k : Nat) (ds : List D) : Option (List D) :=
 (F16 k [D.row ((gt ds 0).r)]).bind fun ds0 =>
 bif ((gt ds0 0).i != 0) then
  some [D.row [], D.int ((gt ds0 0).i)]
 else (F35 k [D.str ((gt ds 1).s), D.int ((gt ds 2).i), D.row ((gt ds 3).r)]).bind fun ds1 =>
 bif ((gt ds1 0).i != 0) then
  some [D.row [], D.int ((gt ds1 0).i)]
 else (F28 k [D.int ((gt ds 4).i)]).bind fun ds2 =>
 bif (!(gt ds2 0).b) then
  some [D.row [], D.int 1]
 else (F36 k [D.row ((gt ds 0).r)]).bind fun ds3 =>
 bif (needOk (((gt ds3 0).r).length + [D.agg [D.int 2, D.int ((gt ds 4).i), D.int 0, D.str ((gt ds 1).s), D.int ((gt ds 2).i)]].length) 48) then
  (F16 k [D.row ((gt ds3 0).r ++ [D.agg [D.int 2, D.int ((gt ds 4).i), D.int 0, D.str ((gt ds 1).s), D.int ((gt ds 2).i)]])]).bind fun ds4 =>
  bif ((gt ds4 0).i != 0) then
   some [D.row [], D.int ((gt ds4 0).i)]
  else some [D.row ((gt ds3 0).r ++ [D.agg [D.int 2, D.int ((gt ds 4).i), D.int 0, D.str ((gt ds 1).s), D.int ((gt ds 2).i)]]), D.int 0]
 else none
def K19 : Callee := ⟨[.seen 30, .agg [.str, .int .i64, .seen 77], .int .i64], [.own 30, .int .i64], F19⟩
noncomputable def C19 : Code := match Tryd.f19.body with | some c => c | none => .skip
theorem T19 : FunOK Tryd.prog (tyTab TL) 19 K19 :=
 fun_ok (loops := lkup []) (joins := lkup []) (md := mdL []) (L := [(16, K16), (35, K35), (28, K28), (36, K36)]) (res := [.tmp 6, .tmp 7]) (code := C19) (fn := Tryd.f19) TOKp EOKp MIXp (lkup_cons T16 (lkup_cons T35 (lkup_cons T28 (lkup_cons T36 lkup_nil)))) Tryd.func19 (by kernel_rfl) (by kernel_rfl) (of_decide_eq_false (by kernel_rfl)) (by kernel_rfl) (fun k ds => by kernel_rfl)
/-- interchange/interchangeref7.Answered -/
def F20 (k : Nat) (ds : List D) : Option (List D) :=
 (F15 k [D.row ((gt ds 0).r)]).bind fun ds0 =>
 bif ((gt ds0 0).i != 0) then
  some [D.row [], D.int ((gt ds0 0).i)]
 else (F37 k [D.str ((gt ds 1).s), D.int ((gt ds 2).i), D.row ((gt ds 3).r)]).bind fun ds1 =>
 bif ((gt ds1 0).i != 0) then
  some [D.row [], D.int ((gt ds1 0).i)]
 else (F38 k [D.int ((gt ds 4).i), D.int 0, D.int 1000000000000000]).bind fun ds2 =>
 bif (!(gt ds2 0).b) then
  some [D.row [], D.int 1]
 else bif (needOk (((gt ds 0).r).length) 48) then
  bif (needOk (((gt ds 0).r).length + [D.agg [D.int 2, D.int ((gt ds 4).i), D.int 0, D.str ((gt ds 1).s), D.int ((gt ds 2).i)]].length) 48) then
   (F15 k [D.row ((gt ds 0).r ++ [D.agg [D.int 2, D.int ((gt ds 4).i), D.int 0, D.str ((gt ds 1).s), D.int ((gt ds 2).i)]])]).bind fun ds3 =>
   bif ((gt ds3 0).i != 0) then
    some [D.row [], D.int ((gt ds3 0).i)]
   else some [D.row ((gt ds 0).r ++ [D.agg [D.int 2, D.int ((gt ds 4).i), D.int 0, D.str ((gt ds 1).s), D.int ((gt ds 2).i)]]), D.int 0]
  else none
 else none
def K20 : Callee := ⟨[.seen 30, .agg [.str, .int .i64, .seen 77], .int .i64], [.own 30, .int .i64], F20⟩
noncomputable def C20 : Code := match Tryd.f20.body with | some c => c | none => .skip
theorem T20 : FunOK Tryd.prog (tyTab TL) 20 K20 :=
 fun_ok (loops := lkup []) (joins := lkup []) (md := mdL []) (L := [(15, K15), (37, K37), (38, K38)]) (res := [.tmp 6, .tmp 7]) (code := C20) (fn := Tryd.f20) TOKp EOKp MIXp (lkup_cons T15 (lkup_cons T37 (lkup_cons T38 lkup_nil))) Tryd.func20 (by kernel_rfl) (by kernel_rfl) (of_decide_eq_false (by kernel_rfl)) (by kernel_rfl) (fun k ds => by kernel_rfl)
def B6x0 (k5 : Nat) (rec6 : List D → Option (List D)) (ds7 : List D) : Option (List D) :=
 bif decide ((gt ds7 2).i < (((gt ds7 6).r).length : Int)) then
  bif ((inRow ((gt ds7 2).i) (((gt ds7 6).r).length)) && true) then
   bif ((inRow ((gt ds7 2).i) (((gt ds7 8).r).length)) && true) then
    bif (!((((elAt ((gt ds7 6).r) ((gt ds7 2).i)).c 0).s == ((elAt ((gt ds7 8).r) ((gt ds7 2).i)).c 0).s) && ((((elAt ((gt ds7 6).r) ((gt ds7 2).i)).c 1).i == ((elAt ((gt ds7 8).r) ((gt ds7 2).i)).c 1).i) && ((((elAt ((gt ds7 6).r) ((gt ds7 2).i)).c 2).i == ((elAt ((gt ds7 8).r) ((gt ds7 2).i)).c 2).i) && ((((elAt ((gt ds7 6).r) ((gt ds7 2).i)).c 3).i == ((elAt ((gt ds7 8).r) ((gt ds7 2).i)).c 3).i) && ((((elAt ((gt ds7 6).r) ((gt ds7 2).i)).c 4).i == ((elAt ((gt ds7 8).r) ((gt ds7 2).i)).c 4).i) && true)))))) then
     (bif ((inRow ((gt ds7 2).i) (((gt ds7 6).r).length)) && true) then
       bif (!((ByteArray.toList (((elAt ((gt ds7 6).r) ((gt ds7 2).i)).c 0).s)) == (ByteArray.toList ((gt ds7 3).s)))) then
        some [D.bool true]
       else bif ((inRow ((gt ds7 2).i) (((gt ds7 6).r).length)) && true) then
        bif (((elAt ((gt ds7 6).r) ((gt ds7 2).i)).c 3).i != (-1)) then
         some [D.bool true]
        else bif ((inRow ((gt ds7 2).i) (((gt ds7 8).r).length)) && true) then
         bif (((elAt ((gt ds7 8).r) ((gt ds7 2).i)).c 3).i != (gt ds7 0).i) then
          some [D.bool true]
         else bif ((inRow ((gt ds7 2).i) (((gt ds7 8).r).length)) && true) then
          some [D.bool (((elAt ((gt ds7 8).r) ((gt ds7 2).i)).c 4).i != (gt ds7 4).i)]
         else none
        else none
       else none
      else none).bind fun ds8 =>
     bif (gt ds8 0).b then
      some [D.bool false]
     else rec6 [D.int ((gt ds7 0).i), D.int (Go.IntKind.i64.wrap ((gt ds7 1).i + 1)), D.int (Go.IntKind.i64.wrap ((gt ds7 2).i + 1)), D.str ((gt ds7 3).s), D.int ((gt ds7 4).i), D.row ((gt ds7 5).r), D.row ((gt ds7 6).r), D.row ((gt ds7 7).r), D.row ((gt ds7 8).r), D.row ((gt ds7 9).r)]
    else rec6 [D.int ((gt ds7 0).i), D.int ((gt ds7 1).i), D.int (Go.IntKind.i64.wrap ((gt ds7 2).i + 1)), D.str ((gt ds7 3).s), D.int ((gt ds7 4).i), D.row ((gt ds7 5).r), D.row ((gt ds7 6).r), D.row ((gt ds7 7).r), D.row ((gt ds7 8).r), D.row ((gt ds7 9).r)]
   else none
  else none
 else bif decide ((gt ds7 1).i ≤ 1) then
  bif ((Go.IntKind.i64.wrap ((gt ds7 1).i + (((gt ds7 9).r).length : Int))) == (Go.IntKind.i64.wrap (1 + (((gt ds7 7).r).length : Int)))) then
   (F11 k5 []).bind fun ds9 =>
   some [D.bool ((gt ds9 0).b)]
  else some [D.bool false]
 else some [D.bool false]
/-- interchange/interchangelaw7.ReplyAnswersCount -/
def F6 (k : Nat) (ds : List D) : Option (List D) :=
 (F19 k [D.row ((gt ds 0).r), D.str ((gt ds 1).s), D.int ((gt ds 2).i), D.row ((gt ds 3).r), D.int ((gt ds 4).i)]).bind fun ds0 =>
 bif ((gt ds0 1).i != 0) then
  bif ((((gt ds0 0).r).length : Int) == 0) then
   (F11 k []).bind fun ds1 =>
   some [D.bool ((gt ds1 0).b)]
  else some [D.bool false]
 else (F10 k [D.row ((gt ds 0).r)]).bind fun ds2 =>
 (F10 k [D.row ((gt ds0 0).r)]).bind fun ds3 =>
 (bif ((gt ds2 2).i != 0) then
   some [D.bool true]
  else bif ((gt ds3 2).i != 0) then
   some [D.bool true]
  else some [D.bool ((((gt ds2 0).r).length : Int) != (((gt ds3 0).r).length : Int))]).bind fun ds4 =>
 bif (gt ds4 0).b then
  some [D.bool false]
 else iter B6x0 k [D.int ((gt ds 4).i), D.int 0, D.int 0, D.str ((gt ds 1).s), D.int ((gt ds 2).i), D.row ((gt ds 3).r), D.row ((gt ds2 0).r), D.row ((gt ds2 1).r), D.row ((gt ds3 0).r), D.row ((gt ds3 1).r)]
def K6 : Callee := ⟨[.seen 30, .agg [.str, .int .i64, .seen 77], .int .i64], [.bool], F6⟩
noncomputable def C6 : Code := match Tryd.f6.body with | some c => c | none => .skip
theorem T6 : FunOK Tryd.prog (tyTab TL) 6 K6 :=
 fun_ok (loops := lkup [(10, ⟨[.box 47 [.str, .int .i64, .srow 77], .row 32 false, .row 3 false, .row 32 false, .row 3 false], [(2, .int .i64), (4, .ptr 0 0), (9, .orow 1), (10, .orow 2), (11, .orow 3), (12, .orow 4), (14, .int .i64), (15, .int .i64)]⟩)]) (joins := lkup [(13, .light [(55, .bool)]), (29, .light [(107, .bool)])]) (md := mdL []) (L := [(19, K19), (11, K11), (10, K10)]) (res := [.tmp 6]) (code := C6) (fn := Tryd.f6) TOKp EOKp MIXp (lkup_cons T19 (lkup_cons T11 (lkup_cons T10 lkup_nil))) Tryd.func6 (by kernel_rfl) (by kernel_rfl) (of_decide_eq_false (by kernel_rfl)) (by kernel_rfl) (fun k ds => by kernel_rfl)
/-- interchange/interchangelaw7.ReplyAnswersMatchSpec -/
def F7 (k : Nat) (ds : List D) : Option (List D) :=
 (F20 k [D.row ((gt ds 0).r), D.str ((gt ds 1).s), D.int ((gt ds 2).i), D.row ((gt ds 3).r), D.int ((gt ds 4).i)]).bind fun ds0 =>
 (F19 k [D.row ((gt ds 0).r), D.str ((gt ds 1).s), D.int ((gt ds 2).i), D.row ((gt ds 3).r), D.int ((gt ds 4).i)]).bind fun ds1 =>
 (F21 k [D.row ((gt ds1 0).r), D.row ((gt ds0 0).r)]).bind fun ds2 =>
 bif (gt ds2 0).b then
  bif ((gt ds1 1).i == (gt ds0 1).i) then
   (F11 k []).bind fun ds3 =>
   some [D.bool ((gt ds3 0).b)]
  else some [D.bool false]
 else some [D.bool false]
def K7 : Callee := ⟨[.seen 30, .agg [.str, .int .i64, .seen 77], .int .i64], [.bool], F7⟩
noncomputable def C7 : Code := match Tryd.f7.body with | some c => c | none => .skip
theorem T7 : FunOK Tryd.prog (tyTab TL) 7 K7 :=
 fun_ok (loops := lkup []) (joins := lkup []) (md := mdL []) (L := [(20, K20), (19, K19), (21, K21), (11, K11)]) (res := [.tmp 6]) (code := C7) (fn := Tryd.f7) TOKp EOKp MIXp (lkup_cons T20 (lkup_cons T19 (lkup_cons T21 (lkup_cons T11 lkup_nil)))) Tryd.func7 (by kernel_rfl) (by kernel_rfl) (of_decide_eq_false (by kernel_rfl)) (by kernel_rfl) (fun k ds => by kernel_rfl)
end Go.Sx
