import Derived.Test.YtlhbonpdlghlbaaDoorSxItoa
import Derived.Test.YtlhbonpdlghlbaaDoorShelfI
import Derived.Test.YtlhbonpdlghlbaaDoorSxShelf
import Derived.Test.YtlhbonpdlghlbaaDoorSxClone
import Derived.WalkKit
import Derived.Test.YtlhbonpdlghlbaaDoorProg
import Derived.Test.YtlhbonpdlghlbaaDoorShelf
set_option linter.unusedVariables false
set_option linter.unusedSimpArgs false
namespace Go.Sx
open Go.Proofs
set_option maxRecDepth 100000
def TL : List (Nat × TyI) := [(3, ⟨false, [.int .i64], [], 8, false, none⟩), (4, ⟨false, [.bool], [], 1, false, none⟩), (5, ⟨false, [.int .u8], [], 1, false, none⟩), (9, ⟨false, [.str], [], 16, false, none⟩), (24, ⟨false, [.sl 53], [], 24, false, none⟩), (25, ⟨false, [.int .i64], [], 8, false, none⟩), (41, ⟨true, [.int .i64, .int .i64, .int .i64], [(0, 3), (1, 3), (2, 3)], 24, true, none⟩), (51, ⟨false, [.sl 76], [], 24, false, none⟩), (53, ⟨true, [.str, .sl 76], [(0, 9), (1, 51)], 40, false, none⟩), (55, ⟨false, [.sl 104], [], 24, false, none⟩), (57, ⟨true, [.str, .int .i64, .sl 104], [(0, 9), (1, 3), (2, 55)], 48, false, none⟩), (74, ⟨false, [.sl 100], [], 24, false, none⟩), (76, ⟨true, [.sl 100], [(0, 74)], 24, false, none⟩), (85, ⟨false, [.sl 3], [], 24, false, none⟩), (100, ⟨false, [.sl 9], [], 24, false, none⟩), (102, ⟨false, [.sl 107], [], 24, false, none⟩), (104, ⟨true, [.str, .int .i64, .sl 107], [(0, 9), (1, 3), (2, 102)], 48, false, none⟩), (105, ⟨false, [.sl 110], [], 24, false, none⟩), (107, ⟨true, [.str, .int .i64, .bool, .sl 110, .sl 9], [(0, 9), (1, 3), (2, 4), (3, 105), (4, 100)], 80, false, none⟩), (110, ⟨true, [.int .i64, .int .i64, .int .i64, .int .i64, .int .i64, .str], [(0, 3), (1, 3), (2, 41), (5, 9)], 56, false, none⟩), (112, ⟨false, [.fn], [], 8, false, none⟩), (118, ⟨true, [.int .i64, .int .i64, .int .i64, .int .i64, .int .i64, .int .i64], [(0, 3), (1, 3), (2, 3), (3, 3), (4, 3), (5, 3)], 48, false, none⟩), (122, ⟨true, [.int .i64, .int .i64, .int .i64, .str, .int .i64], [(0, 3), (1, 3), (2, 3), (3, 9), (4, 3)], 48, false, none⟩), (123, ⟨false, [.sl 122], [], 24, false, none⟩), (140, ⟨false, [.fn], [], 8, false, none⟩), (144, ⟨false, [.sl 147], [], 24, false, none⟩), (147, ⟨true, [.str, .int .i64, .int .i64, .int .i64, .int .i64], [(0, 9), (1, 3), (2, 3), (3, 3), (4, 3)], 48, false, none⟩), (165, ⟨false, [.fn], [], 8, false, none⟩), (183, ⟨false, [.map 9 85], [], 8, false, none⟩), (4000000, ⟨false, [], [(1, 0)], 0, false, none⟩)]
theorem TOKp : TOK Tryd.prog (tyTab TL) := tok_of (by kernel_rfl)
theorem EOKp : EOK Tryd.prog (tyTab TL) := eok_of (show ∀ t ∈ [41], EqOK Tryd.prog (tyTab TL) t from (List.forall_mem_cons.2 ⟨eqOK_of Tryd.stoodInHeld41 Tryd.eqGuardType41 (by kernel_rfl), (fun _ h => nomatch h)⟩))
theorem MIXp : Tryd.prog.follows .mixedOrders = true := by kernel_rfl
/-- strconv.Itoa: by hand -/
def F53 : Nat → List D → Option (List D) := itoaK.f
def K53 : Callee := itoaK
theorem T53 : FunOK Tryd.prog (tyTab TL) 53 K53 := itoa_ok Tryd.laysM171 (g := 1) (by kernel_rfl) (by kernel_rfl) Tryd.func53 (of_decide_eq_false (by kernel_rfl)) (Option.isSome_iff_ne_none.1 (by kernel_rfl))
/-- strings.IndexByte: by hand -/
def F74 : Nat → List D → Option (List D) := indexByteK.f
def K74 : Callee := indexByteK
theorem T74 : FunOK Tryd.prog (tyTab TL) 74 K74 := index_byte_ok Tryd.lays137 Tryd.func74 (of_decide_eq_false (by kernel_rfl)) (Option.isSome_iff_ne_none.1 (by kernel_rfl))
/-- strings.Trim: by hand -/
def F87 : Nat → List D → Option (List D) := trimK.f
def K87 : Callee := trimK
theorem T87 : FunOK Tryd.prog (tyTab TL) 87 K87 := trim_ok Tryd.lays160 (by kernel_rfl) Tryd.func87 (of_decide_eq_false (by kernel_rfl)) (Option.isSome_iff_ne_none.1 (by kernel_rfl))
/-- interchange/kit.Outside -/
def F46 (k : Nat) (ds : List D) : Option (List D) :=
 bif decide ((gt ds 0).i < (gt ds 1).i) then
  some [D.bool true]
 else some [D.bool (decide ((gt ds 0).i > (gt ds 2).i))]
def K46 : Callee := ⟨[.int .i64, .int .i64, .int .i64], [.bool], F46⟩
noncomputable def C46 : Code := match Tryd.f46.body with | some c => c | none => .skip
theorem T46 : FunOK Tryd.prog (tyTab TL) 46 K46 :=
 fun_ok (loops := lkup []) (joins := lkup []) (md := mdL []) (L := []) (res := [.tmp 6]) (code := C46) (fn := Tryd.f46) TOKp EOKp MIXp lkup_nil Tryd.func46 (by kernel_rfl) (by kernel_rfl) (of_decide_eq_false (by kernel_rfl)) (by kernel_rfl) (fun k ds => by kernel_rfl)
def B52x0 (k0 : Nat) (rec1 : List D → Option (List D)) (ds2 : List D) : Option (List D) :=
 bif decide ((gt ds2 1).i < (((gt ds2 0).r).length : Int)) then
  bif ((inRow ((gt ds2 1).i) (((gt ds2 0).r).length)) && true) then
   bif (needOk (((gt ds2 4).r).length + [D.agg [D.row [D.row ((elAt ((gt ds2 0).r) ((gt ds2 1).i)).r)]]].length) 24) then
    rec1 [D.row ((gt ds2 0).r), D.int (Go.IntKind.i64.wrap ((gt ds2 1).i + 1)), D.str ((gt ds2 2).s), D.str ((gt ds2 3).s), D.row ((gt ds2 4).r ++ [D.agg [D.row [D.row ((elAt ((gt ds2 0).r) ((gt ds2 1).i)).r)]]])]
   else none
  else none
 else some [D.str ((gt ds2 3).s), D.row ((gt ds2 4).r)]
/-- interchange/interchangeref7.segment -/
def F52 (k : Nat) (ds : List D) : Option (List D) :=
 iter B52x0 k [D.row ((gt ds 1).r), D.int 0, D.str (ByteArray.mk #[]), D.str ((gt ds 0).s), D.row []]
def K52 : Callee := ⟨[.str, .seen 100], [.agg [.str, .own 76]], F52⟩
noncomputable def C52 : Code := match Tryd.f52.body with | some c => c | none => .skip
theorem T52 : FunOK Tryd.prog (tyTab TL) 52 K52 :=
 fun_ok (loops := lkup [(3, ⟨[.box 53 [.str, .nilsl], .box 53 [.str, .orow 2], .row 76 false], [(1, .srow 100), (4, .ptr 0 0), (5, .ptr 1 0), (6, .int .i64)]⟩)]) (joins := lkup []) (md := mdL []) (L := []) (res := [.cell 4 53]) (code := C52) (fn := Tryd.f52) TOKp EOKp MIXp lkup_nil Tryd.func52 (by kernel_rfl) (by kernel_rfl) (of_decide_eq_false (by kernel_rfl)) (by kernel_rfl) (fun k ds => by kernel_rfl)
/-- interchange/interchangeref7.flawSegment -/
def F54 (k : Nat) (ds : List D) : Option (List D) :=
 (F53 k [D.int ((gt ds 0).i)]).bind fun ds0 =>
 (F53 k [D.int ((gt ds 1).i)]).bind fun ds1 =>
 (bif (!(((gt ds 2).i == 0) && (((gt ds 3).i == 0) && (((gt ds 4).i == 0) && true)))) then
   (F53 k [D.int ((gt ds 2).i)]).bind fun ds2 =>
   (F53 k [D.int ((gt ds 3).i)]).bind fun ds3 =>
   (F53 k [D.int ((gt ds 4).i)]).bind fun ds4 =>
   some [D.int ((gt ds 0).i), D.int ((gt ds 1).i), D.int ((gt ds 2).i), D.int ((gt ds 3).i), D.int ((gt ds 4).i), D.str ((gt ds 5).s), D.str (ByteArray.mk #[]), D.row ([D.row [D.str ((gt ds0 0).s)], D.row [D.str ((gt ds1 0).s)]] ++ [D.row [D.str ((gt ds2 0).s), D.str ((gt ds3 0).s), D.str ((gt ds4 0).s)]])]
  else bif (!((ByteArray.toList ((gt ds 5).s)) == (ByteArray.toList (ByteArray.mk #[])))) then
   some [D.int ((gt ds 0).i), D.int ((gt ds 1).i), D.int ((gt ds 2).i), D.int ((gt ds 3).i), D.int ((gt ds 4).i), D.str ((gt ds 5).s), D.str (ByteArray.mk #[]), D.row ([D.row [D.str ((gt ds0 0).s)], D.row [D.str ((gt ds1 0).s)]] ++ [D.row [D.str (ByteArray.mk #[])]])]
  else some [D.int ((gt ds 0).i), D.int ((gt ds 1).i), D.int ((gt ds 2).i), D.int ((gt ds 3).i), D.int ((gt ds 4).i), D.str ((gt ds 5).s), D.str (ByteArray.mk #[]), D.row [D.row [D.str ((gt ds0 0).s)], D.row [D.str ((gt ds1 0).s)]]]).bind fun ds5 =>
 (bif (!((ByteArray.toList ((gt ds5 5).s)) == (ByteArray.toList (ByteArray.mk #[])))) then
   bif (needOk (((gt ds5 7).r).length + [D.row [D.str ((gt ds5 5).s)]].length) 24) then
    some [D.str ((gt ds5 6).s), D.row ((gt ds5 7).r ++ [D.row [D.str ((gt ds5 5).s)]])]
   else none
  else some [D.str ((gt ds5 6).s), D.row ((gt ds5 7).r)]).bind fun ds6 =>
 (F52 k [D.str (ByteArray.mk #[65, 75, 70]), D.row ((gt ds6 1).r)]).bind fun ds7 =>
 some [D.str ((gt ds7 0).s), D.row ((gt ds7 1).r)]
def K54 : Callee := ⟨[.agg [.int .i64, .int .i64, .int .i64, .int .i64, .int .i64, .str]], [.agg [.str, .own 76]], F54⟩
noncomputable def C54 : Code := match Tryd.f54.body with | some c => c | none => .skip
theorem T54 : FunOK Tryd.prog (tyTab TL) 54 K54 :=
 fun_ok (loops := lkup []) (joins := lkup [(12, .full ⟨[.box 110 [.int .i64, .int .i64, .int .i64, .int .i64, .int .i64, .str], .box 53 [.str, .nilsl], .row 100 false], [(1, .ptr 0 0), (2, .ptr 1 0), (3, .orow 2)]⟩), (16, .full ⟨[.box 53 [.str, .nilsl], .row 100 false], [(2, .ptr 0 0), (3, .orow 1)]⟩)]) (md := mdL []) (L := [(53, K53), (52, K52)]) (res := [.cell 2 53]) (code := C54) (fn := Tryd.f54) TOKp EOKp MIXp (lkup_cons T53 (lkup_cons T52 lkup_nil)) Tryd.func54 (by kernel_rfl) (by kernel_rfl) (of_decide_eq_false (by kernel_rfl)) (by kernel_rfl) (fun k ds => by kernel_rfl)
def B56x0 (k0 : Nat) (rec1 : List D → Option (List D)) (ds2 : List D) : Option (List D) :=
 bif decide ((gt ds2 1).i < ((ByteArray.size ((gt ds2 0).s)) : Int)) then
  (bif (((inRow ((gt ds2 1).i) (ByteArray.size ((gt ds2 0).s))) && true) && true) then
    bif decide (((UInt8.toNat (List.getD (ByteArray.toList ((gt ds2 0).s)) (Int.toNat ((gt ds2 1).i)) 0)) : Int) ≥ 65) then
     bif (((inRow ((gt ds2 1).i) (ByteArray.size ((gt ds2 0).s))) && true) && true) then
      bif decide (((UInt8.toNat (List.getD (ByteArray.toList ((gt ds2 0).s)) (Int.toNat ((gt ds2 1).i)) 0)) : Int) ≤ 90) then
       some [D.bool false]
      else bif (((inRow ((gt ds2 1).i) (ByteArray.size ((gt ds2 0).s))) && true) && true) then
       bif decide (((UInt8.toNat (List.getD (ByteArray.toList ((gt ds2 0).s)) (Int.toNat ((gt ds2 1).i)) 0)) : Int) ≥ 48) then
        bif (((inRow ((gt ds2 1).i) (ByteArray.size ((gt ds2 0).s))) && true) && true) then
         bif decide (((UInt8.toNat (List.getD (ByteArray.toList ((gt ds2 0).s)) (Int.toNat ((gt ds2 1).i)) 0)) : Int) ≤ 57) then
          some [D.bool false]
         else bif (((inRow ((gt ds2 1).i) (ByteArray.size ((gt ds2 0).s))) && true) && true) then
          some [D.bool (!(((UInt8.toNat (List.getD (ByteArray.toList ((gt ds2 0).s)) (Int.toNat ((gt ds2 1).i)) 0)) : Int) == 45))]
         else none
        else none
       else bif (((inRow ((gt ds2 1).i) (ByteArray.size ((gt ds2 0).s))) && true) && true) then
        some [D.bool (!(((UInt8.toNat (List.getD (ByteArray.toList ((gt ds2 0).s)) (Int.toNat ((gt ds2 1).i)) 0)) : Int) == 45))]
       else none
      else none
     else none
    else bif (((inRow ((gt ds2 1).i) (ByteArray.size ((gt ds2 0).s))) && true) && true) then
     bif decide (((UInt8.toNat (List.getD (ByteArray.toList ((gt ds2 0).s)) (Int.toNat ((gt ds2 1).i)) 0)) : Int) ≥ 48) then
      bif (((inRow ((gt ds2 1).i) (ByteArray.size ((gt ds2 0).s))) && true) && true) then
       bif decide (((UInt8.toNat (List.getD (ByteArray.toList ((gt ds2 0).s)) (Int.toNat ((gt ds2 1).i)) 0)) : Int) ≤ 57) then
        some [D.bool false]
       else bif (((inRow ((gt ds2 1).i) (ByteArray.size ((gt ds2 0).s))) && true) && true) then
        some [D.bool (!(((UInt8.toNat (List.getD (ByteArray.toList ((gt ds2 0).s)) (Int.toNat ((gt ds2 1).i)) 0)) : Int) == 45))]
       else none
      else none
     else bif (((inRow ((gt ds2 1).i) (ByteArray.size ((gt ds2 0).s))) && true) && true) then
      some [D.bool (!(((UInt8.toNat (List.getD (ByteArray.toList ((gt ds2 0).s)) (Int.toNat ((gt ds2 1).i)) 0)) : Int) == 45))]
     else none
    else none
   else none).bind fun ds3 =>
  bif (gt ds3 0).b then
   some [D.bool false]
  else rec1 [D.str ((gt ds2 0).s), D.int (Go.IntKind.i64.wrap ((gt ds2 1).i + 1))]
 else bif (!((ByteArray.toList ((gt ds2 0).s)) == (ByteArray.toList (ByteArray.mk #[])))) then
  some [D.bool (decide (((ByteArray.size ((gt ds2 0).s)) : Int) ≤ 14))]
 else some [D.bool false]
/-- interchange/interchangeref2.IsReference -/
def F56 (k : Nat) (ds : List D) : Option (List D) :=
 iter B56x0 k [D.str ((gt ds 0).s), D.int 0]
def K56 : Callee := ⟨[.str], [.bool], F56⟩
noncomputable def C56 : Code := match Tryd.f56.body with | some c => c | none => .skip
theorem T56 : FunOK Tryd.prog (tyTab TL) 56 K56 :=
 fun_ok (loops := lkup [(2, ⟨[], [(0, .str), (3, .int .i64)]⟩)]) (joins := lkup [(9, .light [(38, .bool)])]) (md := mdL []) (L := []) (res := [.tmp 2]) (code := C56) (fn := Tryd.f56) TOKp EOKp MIXp lkup_nil Tryd.func56 (by kernel_rfl) (by kernel_rfl) (of_decide_eq_false (by kernel_rfl)) (by kernel_rfl) (fun k ds => by kernel_rfl)
/-- interchange/kit.IsRef -/
def F60 (k : Nat) (ds : List D) : Option (List D) :=
 bif decide (((ByteArray.size ((gt ds 0).s)) : Int) ≥ 1) then
  bif decide (((ByteArray.size ((gt ds 0).s)) : Int) ≤ 14) then
   (F87 k [D.str ((gt ds 0).s), D.str (ByteArray.mk #[65, 66, 67, 68, 69, 70, 71, 72, 73, 74, 75, 76, 77, 78, 79, 80, 81, 82, 83, 84, 85, 86, 87, 88, 89, 90, 48, 49, 50, 51, 52, 53, 54, 55, 56, 57, 45])]).bind fun ds0 =>
   some [D.bool ((ByteArray.toList ((gt ds0 0).s)) == (ByteArray.toList (ByteArray.mk #[])))]
  else some [D.bool false]
 else some [D.bool false]
def K60 : Callee := ⟨[.str], [.bool], F60⟩
noncomputable def C60 : Code := match Tryd.f60.body with | some c => c | none => .skip
theorem T60 : FunOK Tryd.prog (tyTab TL) 60 K60 :=
 fun_ok (loops := lkup []) (joins := lkup []) (md := mdL []) (L := [(87, K87)]) (res := [.tmp 2]) (code := C60) (fn := Tryd.f60) TOKp EOKp MIXp (lkup_cons T87 lkup_nil) Tryd.func60 (by kernel_rfl) (by kernel_rfl) (of_decide_eq_false (by kernel_rfl)) (by kernel_rfl) (fun k ds => by kernel_rfl)
/-- interchange/reply.isVerdict -/
def F61 (k : Nat) (ds : List D) : Option (List D) :=
 (F46 k [D.int ((gt ds 0).i), D.int 1, D.int 3]).bind fun ds0 =>
 some [D.bool (!(gt ds0 0).b)]
def K61 : Callee := ⟨[.int .i64], [.bool], F61⟩
noncomputable def C61 : Code := match Tryd.f61.body with | some c => c | none => .skip
theorem T61 : FunOK Tryd.prog (tyTab TL) 61 K61 :=
 fun_ok (loops := lkup []) (joins := lkup []) (md := mdL []) (L := [(46, K46)]) (res := [.tmp 2]) (code := C61) (fn := Tryd.f61) TOKp EOKp MIXp (lkup_cons T46 lkup_nil) Tryd.func61 (by kernel_rfl) (by kernel_rfl) (of_decide_eq_false (by kernel_rfl)) (by kernel_rfl) (fun k ds => by kernel_rfl)
/-- interchange/kit.IsTagPart -/
def F68 (k : Nat) (ds : List D) : Option (List D) :=
 (F87 k [D.str ((gt ds 0).s), D.str (ByteArray.mk #[65, 66, 67, 68, 69, 70, 71, 72, 73, 74, 75, 76, 77, 78, 79, 80, 81, 82, 83, 84, 85, 86, 87, 88, 89, 90, 48, 49, 50, 51, 52, 53, 54, 55, 56, 57])]).bind fun ds0 =>
 some [D.bool ((ByteArray.toList ((gt ds0 0).s)) == (ByteArray.toList (ByteArray.mk #[])))]
def K68 : Callee := ⟨[.str], [.bool], F68⟩
noncomputable def C68 : Code := match Tryd.f68.body with | some c => c | none => .skip
theorem T68 : FunOK Tryd.prog (tyTab TL) 68 K68 :=
 fun_ok (loops := lkup []) (joins := lkup []) (md := mdL []) (L := [(87, K87)]) (res := [.tmp 2]) (code := C68) (fn := Tryd.f68) TOKp EOKp MIXp (lkup_cons T87 lkup_nil) Tryd.func68 (by kernel_rfl) (by kernel_rfl) (of_decide_eq_false (by kernel_rfl)) (by kernel_rfl) (fun k ds => by kernel_rfl)
def B81x0 (k0 : Nat) (rec1 : List D → Option (List D)) (ds2 : List D) : Option (List D) :=
 bif decide ((gt ds2 2).i < (gt ds2 1).i) then
  bif ((inRow ((gt ds2 2).i) (((gt ds2 0).r).length)) && true) then
   bif (needOk (((gt ds2 5).r).length + [D.agg [D.row [D.row [D.str ((elAt ((gt ds2 0).r) ((gt ds2 2).i)).s)]]]].length) 24) then
    rec1 [D.row ((gt ds2 0).r), D.int ((gt ds2 1).i), D.int (Go.IntKind.i64.wrap ((gt ds2 2).i + 1)), D.str ((gt ds2 3).s), D.str ((gt ds2 4).s), D.row ((gt ds2 5).r ++ [D.agg [D.row [D.row [D.str ((elAt ((gt ds2 0).r) ((gt ds2 2).i)).s)]]]])]
   else none
  else none
 else some [D.str ((gt ds2 4).s), D.row ((gt ds2 5).r)]
/-- interchange/wire.Made -/
def F81 (k : Nat) (ds : List D) : Option (List D) :=
 iter B81x0 k [D.row ((gt ds 1).r), D.int (((gt ds 1).r).length : Int), D.int 0, D.str (ByteArray.mk #[]), D.str ((gt ds 0).s), D.row []]
def K81 : Callee := ⟨[.str, .seen 9], [.agg [.str, .own 76]], F81⟩
noncomputable def C81 : Code := match Tryd.f81.body with | some c => c | none => .skip
theorem T81 : FunOK Tryd.prog (tyTab TL) 81 K81 :=
 fun_ok (loops := lkup [(3, ⟨[.box 53 [.str, .nilsl], .box 53 [.str, .orow 2], .row 76 false], [(4, .ptr 0 0), (5, .ptr 1 0), (10, .srow 9), (11, .int .i64), (12, .int .i64)]⟩)]) (joins := lkup []) (md := mdL []) (L := []) (res := [.cell 4 53]) (code := C81) (fn := Tryd.f81) TOKp EOKp MIXp lkup_nil Tryd.func81 (by kernel_rfl) (by kernel_rfl) (of_decide_eq_false (by kernel_rfl)) (by kernel_rfl) (fun k ds => by kernel_rfl)
/-- interchange/interchangeref7.within -/
def F83 (k : Nat) (ds : List D) : Option (List D) :=
 bif decide ((gt ds 0).i ≥ (gt ds 1).i) then
  some [D.bool (decide ((gt ds 0).i ≤ (gt ds 2).i))]
 else some [D.bool false]
def K83 : Callee := ⟨[.int .i64, .int .i64, .int .i64], [.bool], F83⟩
noncomputable def C83 : Code := match Tryd.f83.body with | some c => c | none => .skip
theorem T83 : FunOK Tryd.prog (tyTab TL) 83 K83 :=
 fun_ok (loops := lkup []) (joins := lkup []) (md := mdL []) (L := []) (res := [.tmp 6]) (code := C83) (fn := Tryd.f83) TOKp EOKp MIXp lkup_nil Tryd.func83 (by kernel_rfl) (by kernel_rfl) (of_decide_eq_false (by kernel_rfl)) (by kernel_rfl) (fun k ds => by kernel_rfl)
def B86x0 (k0 : Nat) (rec1 : List D → Option (List D)) (ds2 : List D) : Option (List D) :=
 bif decide ((gt ds2 3).i < (((gt ds2 0).r).length : Int)) then
  (bif (gt ds2 1).b then
    bif (gt ds2 1).b then
     bif (gt ds2 1).b then
      bif ((inRow ((gt ds2 3).i) (((gt ds2 0).r).length)) && true) then
       bif (gt ds2 1).b then
        bif (gt ds2 1).b then
         some [D.bool (bif (gt ds2 1).b then ((elAt ((gt ds2 0).r) ((gt ds2 3).i)).i == 1) else false)]
        else bif (gt ds2 1).b then
         none
        else some [D.bool false]
       else bif (gt ds2 1).b then
        none
       else bif (gt ds2 1).b then
        none
       else some [D.bool false]
      else none
     else bif (gt ds2 1).b then
      none
     else bif (gt ds2 1).b then
      none
     else bif (gt ds2 1).b then
      none
     else some [D.bool false]
    else bif (gt ds2 1).b then
     none
    else bif (gt ds2 1).b then
     none
    else bif (gt ds2 1).b then
     none
    else bif (gt ds2 1).b then
     none
    else some [D.bool false]
   else bif (gt ds2 1).b then
    bif (gt ds2 1).b then
     none
    else bif (gt ds2 1).b then
     none
    else bif (gt ds2 1).b then
     none
    else bif (gt ds2 1).b then
     none
    else some [D.bool false]
   else bif (gt ds2 1).b then
    none
   else bif (gt ds2 1).b then
    none
   else bif (gt ds2 1).b then
    none
   else bif (gt ds2 1).b then
    none
   else some [D.bool false]).bind fun ds3 =>
  bif (gt ds2 2).b then
   bif (gt ds2 2).b then
    bif (gt ds2 2).b then
     bif ((inRow ((gt ds2 3).i) (((gt ds2 0).r).length)) && true) then
      bif (gt ds2 2).b then
       bif (gt ds2 2).b then
        rec1 [D.row ((gt ds2 0).r), D.bool ((gt ds3 0).b), D.bool (bif (gt ds2 2).b then ((elAt ((gt ds2 0).r) ((gt ds2 3).i)).i == 3) else false), D.int (Go.IntKind.i64.wrap ((gt ds2 3).i + 1))]
       else bif (gt ds2 2).b then
        none
       else rec1 [D.row ((gt ds2 0).r), D.bool ((gt ds3 0).b), D.bool false, D.int (Go.IntKind.i64.wrap ((gt ds2 3).i + 1))]
      else bif (gt ds2 2).b then
       none
      else bif (gt ds2 2).b then
       none
      else rec1 [D.row ((gt ds2 0).r), D.bool ((gt ds3 0).b), D.bool false, D.int (Go.IntKind.i64.wrap ((gt ds2 3).i + 1))]
     else none
    else bif (gt ds2 2).b then
     none
    else bif (gt ds2 2).b then
     none
    else bif (gt ds2 2).b then
     none
    else rec1 [D.row ((gt ds2 0).r), D.bool ((gt ds3 0).b), D.bool false, D.int (Go.IntKind.i64.wrap ((gt ds2 3).i + 1))]
   else bif (gt ds2 2).b then
    none
   else bif (gt ds2 2).b then
    none
   else bif (gt ds2 2).b then
    none
   else bif (gt ds2 2).b then
    none
   else rec1 [D.row ((gt ds2 0).r), D.bool ((gt ds3 0).b), D.bool false, D.int (Go.IntKind.i64.wrap ((gt ds2 3).i + 1))]
  else bif (gt ds2 2).b then
   bif (gt ds2 2).b then
    none
   else bif (gt ds2 2).b then
    none
   else bif (gt ds2 2).b then
    none
   else bif (gt ds2 2).b then
    none
   else rec1 [D.row ((gt ds2 0).r), D.bool ((gt ds3 0).b), D.bool false, D.int (Go.IntKind.i64.wrap ((gt ds2 3).i + 1))]
  else bif (gt ds2 2).b then
   none
  else bif (gt ds2 2).b then
   none
  else bif (gt ds2 2).b then
   none
  else bif (gt ds2 2).b then
   none
  else rec1 [D.row ((gt ds2 0).r), D.bool ((gt ds3 0).b), D.bool false, D.int (Go.IntKind.i64.wrap ((gt ds2 3).i + 1))]
 else bif (gt ds2 1).b then
  some [D.int 1]
 else bif (gt ds2 2).b then
  some [D.int 3]
 else some [D.int 2]
/-- interchange/interchangeref7.together -/
def F86 (k : Nat) (ds : List D) : Option (List D) :=
 iter B86x0 k [D.row ((gt ds 0).r), D.bool true, D.bool true, D.int 0]
def K86 : Callee := ⟨[.seen 3], [.int .i64], F86⟩
noncomputable def C86 : Code := match Tryd.f86.body with | some c => c | none => .skip
theorem T86 : FunOK Tryd.prog (tyTab TL) 86 K86 :=
 fun_ok (loops := lkup [(3, ⟨[], [(0, .srow 3), (3, .bool), (4, .bool), (5, .int .i64)]⟩)]) (joins := lkup [(11, .light [(3, .bool)])]) (md := mdL []) (L := []) (res := [.tmp 2]) (code := C86) (fn := Tryd.f86) TOKp EOKp MIXp lkup_nil Tryd.func86 (by kernel_rfl) (by kernel_rfl) (of_decide_eq_false (by kernel_rfl)) (by kernel_rfl) (fun k ds => by kernel_rfl)
def B93x0 (k0 : Nat) (rec1 : List D → Option (List D)) (ds2 : List D) : Option (List D) :=
 bif decide ((gt ds2 2).i < (((gt ds2 0).r).length : Int)) then
  bif ((inRow ((gt ds2 2).i) (((gt ds2 0).r).length)) && true) then
   bif ((inRow ((gt ds2 2).i) (((gt ds2 1).r).length)) && true) then
    bif (!((ByteArray.toList ((elAt ((gt ds2 0).r) ((gt ds2 2).i)).s)) == (ByteArray.toList ((elAt ((gt ds2 1).r) ((gt ds2 2).i)).s)))) then
     some [D.bool false]
    else rec1 [D.row ((gt ds2 0).r), D.row ((gt ds2 1).r), D.int (Go.IntKind.i64.wrap ((gt ds2 2).i + 1))]
   else none
  else none
 else some [D.bool true]
/-- interchange/interchangeref2.SameTexts -/
def F93 (k : Nat) (ds : List D) : Option (List D) :=
 bif ((((gt ds 0).r).length : Int) != (((gt ds 1).r).length : Int)) then
  some [D.bool false]
 else iter B93x0 k [D.row ((gt ds 0).r), D.row ((gt ds 1).r), D.int 0]
def K93 : Callee := ⟨[.seen 9, .seen 9], [.bool], F93⟩
noncomputable def C93 : Code := match Tryd.f93.body with | some c => c | none => .skip
theorem T93 : FunOK Tryd.prog (tyTab TL) 93 K93 :=
 fun_ok (loops := lkup [(4, ⟨[], [(0, .srow 9), (1, .srow 9), (5, .int .i64)]⟩)]) (joins := lkup []) (md := mdL []) (L := []) (res := [.tmp 4]) (code := C93) (fn := Tryd.f93) TOKp EOKp MIXp lkup_nil Tryd.func93 (by kernel_rfl) (by kernel_rfl) (of_decide_eq_false (by kernel_rfl)) (by kernel_rfl) (fun k ds => by kernel_rfl)
/-- interchange/kit.IsMoment -/
def F95 (k : Nat) (ds : List D) : Option (List D) :=
 (F46 k [D.int ((gt ds 0).i), D.int 0, D.int 1000000000000000]).bind fun ds0 =>
 some [D.bool (!(gt ds0 0).b)]
def K95 : Callee := ⟨[.int .i64], [.bool], F95⟩
noncomputable def C95 : Code := match Tryd.f95.body with | some c => c | none => .skip
theorem T95 : FunOK Tryd.prog (tyTab TL) 95 K95 :=
 fun_ok (loops := lkup []) (joins := lkup []) (md := mdL []) (L := [(46, K46)]) (res := [.tmp 2]) (code := C95) (fn := Tryd.f95) TOKp EOKp MIXp (lkup_cons T46 lkup_nil) Tryd.func95 (by kernel_rfl) (by kernel_rfl) (of_decide_eq_false (by kernel_rfl)) (by kernel_rfl) (fun k ds => by kernel_rfl)
/-- interchange/reply.stateOf -/
def F97 (k : Nat) (ds : List D) : Option (List D) :=
 bif decide ((gt ds 3).i ≥ 0) then
  some [D.int 3]
 else bif decide ((gt ds 5).i > (gt ds 2).i) then
  some [D.int 2]
 else some [D.int 1]
def K97 : Callee := ⟨[.agg [.str, .int .i64, .int .i64, .int .i64, .int .i64], .int .i64], [.int .i64], F97⟩
noncomputable def C97 : Code := match Tryd.f97.body with | some c => c | none => .skip
theorem T97 : FunOK Tryd.prog (tyTab TL) 97 K97 :=
 fun_ok (loops := lkup []) (joins := lkup []) (md := mdL []) (L := []) (res := [.tmp 4]) (code := C97) (fn := Tryd.f97) TOKp EOKp MIXp lkup_nil Tryd.func97 (by kernel_rfl) (by kernel_rfl) (of_decide_eq_false (by kernel_rfl)) (by kernel_rfl) (fun k ds => by kernel_rfl)
def B101x0 (k0 : Nat) (rec1 : List D → Option (List D)) (ds2 : List D) : Option (List D) :=
 bif decide ((gt ds2 1).i < ((ByteArray.size ((gt ds2 0).s)) : Int)) then
  (bif (((inRow ((gt ds2 1).i) (ByteArray.size ((gt ds2 0).s))) && true) && true) then
    bif decide (((UInt8.toNat (List.getD (ByteArray.toList ((gt ds2 0).s)) (Int.toNat ((gt ds2 1).i)) 0)) : Int) ≥ 65) then
     bif (((inRow ((gt ds2 1).i) (ByteArray.size ((gt ds2 0).s))) && true) && true) then
      some [D.bool (decide (((UInt8.toNat (List.getD (ByteArray.toList ((gt ds2 0).s)) (Int.toNat ((gt ds2 1).i)) 0)) : Int) ≤ 90))]
     else none
    else some [D.bool false]
   else none).bind fun ds3 =>
  (bif (!(gt ds3 0).b) then
    bif ((gt ds2 1).i == 0) then
     some [D.bool true]
    else bif (((inRow ((gt ds2 1).i) (ByteArray.size ((gt ds2 0).s))) && true) && true) then
     bif decide (((UInt8.toNat (List.getD (ByteArray.toList ((gt ds2 0).s)) (Int.toNat ((gt ds2 1).i)) 0)) : Int) < 48) then
      some [D.bool true]
     else bif (((inRow ((gt ds2 1).i) (ByteArray.size ((gt ds2 0).s))) && true) && true) then
      some [D.bool (decide (((UInt8.toNat (List.getD (ByteArray.toList ((gt ds2 0).s)) (Int.toNat ((gt ds2 1).i)) 0)) : Int) > 57))]
     else none
    else none
   else some [D.bool false]).bind fun ds4 =>
  bif (gt ds4 0).b then
   some [D.bool false]
  else rec1 [D.str ((gt ds2 0).s), D.int (Go.IntKind.i64.wrap ((gt ds2 1).i + 1))]
 else some [D.bool (decide (((ByteArray.size ((gt ds2 0).s)) : Int) ≤ 6))]
/-- interchange/interchangeref2.beginsTag -/
def F101 (k : Nat) (ds : List D) : Option (List D) :=
 iter B101x0 k [D.str ((gt ds 0).s), D.int 0]
def K101 : Callee := ⟨[.str], [.bool], F101⟩
noncomputable def C101 : Code := match Tryd.f101.body with | some c => c | none => .skip
theorem T101 : FunOK Tryd.prog (tyTab TL) 101 K101 :=
 fun_ok (loops := lkup [(2, ⟨[], [(0, .str), (3, .int .i64)]⟩)]) (joins := lkup [(9, .light [(4, .bool)]), (11, .light [(38, .bool)])]) (md := mdL []) (L := []) (res := [.tmp 2]) (code := C101) (fn := Tryd.f101) TOKp EOKp MIXp lkup_nil Tryd.func101 (by kernel_rfl) (by kernel_rfl) (of_decide_eq_false (by kernel_rfl)) (by kernel_rfl) (fun k ds => by kernel_rfl)
/-- interchange/reply.element -/
def F108 (k : Nat) (ds : List D) : Option (List D) :=
 some [D.row [D.row ((gt ds 0).r)]]
def K108 : Callee := ⟨[.seen 9], [.agg [.own 100]], F108⟩
noncomputable def C108 : Code := match Tryd.f108.body with | some c => c | none => .skip
theorem T108 : FunOK Tryd.prog (tyTab TL) 108 K108 :=
 fun_ok (loops := lkup []) (joins := lkup []) (md := mdL []) (L := []) (res := [.cell 2 76]) (code := C108) (fn := Tryd.f108) TOKp EOKp MIXp lkup_nil Tryd.func108 (by kernel_rfl) (by kernel_rfl) (of_decide_eq_false (by kernel_rfl)) (by kernel_rfl) (fun k ds => by kernel_rfl)
def B110x0 (k0 : Nat) (rec1 : List D → Option (List D)) (ds2 : List D) : Option (List D) :=
 bif decide ((gt ds2 1).i < ((ByteArray.size ((gt ds2 0).s)) : Int)) then
  bif (((inRow ((gt ds2 1).i) (ByteArray.size ((gt ds2 0).s))) && true) && true) then
   (bif decide (((UInt8.toNat (List.getD (ByteArray.toList ((gt ds2 0).s)) (Int.toNat ((gt ds2 1).i)) 0)) : Int) ≥ 97) then
     some [D.bool (decide (((UInt8.toNat (List.getD (ByteArray.toList ((gt ds2 0).s)) (Int.toNat ((gt ds2 1).i)) 0)) : Int) ≤ 122))]
    else some [D.bool false]).bind fun ds3 =>
   (bif (!(gt ds3 0).b) then
     bif ((gt ds2 1).i == 0) then
      some [D.bool true]
     else bif (((UInt8.toNat (List.getD (ByteArray.toList ((gt ds2 0).s)) (Int.toNat ((gt ds2 1).i)) 0)) : Int) != 45) then
      bif decide (((UInt8.toNat (List.getD (ByteArray.toList ((gt ds2 0).s)) (Int.toNat ((gt ds2 1).i)) 0)) : Int) ≥ 48) then
       some [D.bool (!decide (((UInt8.toNat (List.getD (ByteArray.toList ((gt ds2 0).s)) (Int.toNat ((gt ds2 1).i)) 0)) : Int) ≤ 57))]
      else some [D.bool true]
     else some [D.bool false]
    else some [D.bool false]).bind fun ds4 =>
   bif (gt ds4 0).b then
    some [D.bool false]
   else rec1 [D.str ((gt ds2 0).s), D.int (Go.IntKind.i64.wrap ((gt ds2 1).i + 1))]
  else none
 else bif (!((ByteArray.toList ((gt ds2 0).s)) == (ByteArray.toList (ByteArray.mk #[])))) then
  some [D.bool (decide (((ByteArray.size ((gt ds2 0).s)) : Int) ≤ 40))]
 else some [D.bool false]
/-- interchange/interchangeref2.IsName -/
def F110 (k : Nat) (ds : List D) : Option (List D) :=
 iter B110x0 k [D.str ((gt ds 0).s), D.int 0]
def K110 : Callee := ⟨[.str], [.bool], F110⟩
noncomputable def C110 : Code := match Tryd.f110.body with | some c => c | none => .skip
theorem T110 : FunOK Tryd.prog (tyTab TL) 110 K110 :=
 fun_ok (loops := lkup [(2, ⟨[], [(0, .str), (3, .int .i64)]⟩)]) (joins := lkup [(11, .light [(5, .bool)]), (13, .light [(39, .bool)])]) (md := mdL []) (L := []) (res := [.tmp 2]) (code := C110) (fn := Tryd.f110) TOKp EOKp MIXp lkup_nil Tryd.func110 (by kernel_rfl) (by kernel_rfl) (of_decide_eq_false (by kernel_rfl)) (by kernel_rfl) (fun k ds => by kernel_rfl)
/-- interchange/kit.IsName -/
def F122 (k : Nat) (ds : List D) : Option (List D) :=
 (bif decide (((ByteArray.size ((gt ds 0).s)) : Int) < 1) then
   some [D.bool true]
  else bif decide (((ByteArray.size ((gt ds 0).s)) : Int) > 40) then
   some [D.bool true]
  else bif (((inRow 0 (ByteArray.size ((gt ds 0).s))) && true) && true) then
   bif decide (((UInt8.toNat (List.getD (ByteArray.toList ((gt ds 0).s)) 0 0)) : Int) < 97) then
    some [D.bool true]
   else bif (((inRow 0 (ByteArray.size ((gt ds 0).s))) && true) && true) then
    some [D.bool (decide (((UInt8.toNat (List.getD (ByteArray.toList ((gt ds 0).s)) 0 0)) : Int) > 122))]
   else none
  else none).bind fun ds0 =>
 bif (gt ds0 0).b then
  some [D.bool false]
 else (F87 k [D.str ((gt ds 0).s), D.str (ByteArray.mk #[97, 98, 99, 100, 101, 102, 103, 104, 105, 106, 107, 108, 109, 110, 111, 112, 113, 114, 115, 116, 117, 118, 119, 120, 121, 122, 48, 49, 50, 51, 52, 53, 54, 55, 56, 57, 45])]).bind fun ds1 =>
 some [D.bool ((ByteArray.toList ((gt ds1 0).s)) == (ByteArray.toList (ByteArray.mk #[])))]
def K122 : Callee := ⟨[.str], [.bool], F122⟩
noncomputable def C122 : Code := match Tryd.f122.body with | some c => c | none => .skip
theorem T122 : FunOK Tryd.prog (tyTab TL) 122 K122 :=
 fun_ok (loops := lkup []) (joins := lkup [(3, .light [(20, .bool)])]) (md := mdL []) (L := [(87, K87)]) (res := [.tmp 2]) (code := C122) (fn := Tryd.f122) TOKp EOKp MIXp (lkup_cons T87 lkup_nil) Tryd.func122 (by kernel_rfl) (by kernel_rfl) (of_decide_eq_false (by kernel_rfl)) (by kernel_rfl) (fun k ds => by kernel_rfl)
/-- interchange/reply.eventFault -/
def F126 (k : Nat) (ds : List D) : Option (List D) :=
 bif ((inRow ((gt ds 1).i) (((gt ds 0).r).length)) && true) then
  (F46 k [D.int (((elAt ((gt ds 0).r) ((gt ds 1).i)).c 0).i), D.int 1, D.int 2]).bind fun ds0 =>
  bif (gt ds0 0).b then
   some [D.int 4]
  else (F95 k [D.int (((elAt ((gt ds 0).r) ((gt ds 1).i)).c 1).i)]).bind fun ds1 =>
  bif (!(gt ds1 0).b) then
   some [D.int 1]
  else (F60 k [D.str (((elAt ((gt ds 0).r) ((gt ds 1).i)).c 3).s)]).bind fun ds2 =>
  bif (!(gt ds2 0).b) then
   some [D.int 3]
  else (bif (((elAt ((gt ds 0).r) ((gt ds 1).i)).c 0).i == 1) then
    some [D.bool (((elAt ((gt ds 0).r) ((gt ds 1).i)).c 4).i != 0)]
   else some [D.bool false]).bind fun ds3 =>
  bif (gt ds3 0).b then
   some [D.int 3]
  else (bif (((elAt ((gt ds 0).r) ((gt ds 1).i)).c 0).i == 1) then
    (F46 k [D.int (((elAt ((gt ds 0).r) ((gt ds 1).i)).c 2).i), D.int (((elAt ((gt ds 0).r) ((gt ds 1).i)).c 1).i), D.int (Go.IntKind.i64.wrap (((elAt ((gt ds 0).r) ((gt ds 1).i)).c 1).i + 10000000))]).bind fun ds4 =>
    some [D.bool ((gt ds4 0).b)]
   else some [D.bool false]).bind fun ds5 =>
  bif (gt ds5 0).b then
   some [D.int 1]
  else (bif (((elAt ((gt ds 0).r) ((gt ds 1).i)).c 0).i == 2) then
    some [D.bool (((elAt ((gt ds 0).r) ((gt ds 1).i)).c 2).i != 0)]
   else some [D.bool false]).bind fun ds6 =>
  bif (gt ds6 0).b then
   some [D.int 3]
  else (bif (((elAt ((gt ds 0).r) ((gt ds 1).i)).c 0).i == 2) then
    (F61 k [D.int (((elAt ((gt ds 0).r) ((gt ds 1).i)).c 4).i)]).bind fun ds7 =>
    some [D.bool (!(gt ds7 0).b)]
   else some [D.bool false]).bind fun ds8 =>
  bif (gt ds8 0).b then
   some [D.int 4]
  else (bif decide ((gt ds 1).i > 0) then
    bif ((inRow (Go.IntKind.i64.wrap ((gt ds 1).i - 1)) (((gt ds 0).r).length)) && true) then
     some [D.bool (decide (((elAt ((gt ds 0).r) ((gt ds 1).i)).c 1).i < ((elAt ((gt ds 0).r) (Go.IntKind.i64.wrap ((gt ds 1).i - 1))).c 1).i))]
    else none
   else some [D.bool false]).bind fun ds9 =>
  bif (gt ds9 0).b then
   some [D.int 8]
  else some [D.int 0]
 else none
def K126 : Callee := ⟨[.seen 122, .int .i64], [.int .i64], F126⟩
noncomputable def C126 : Code := match Tryd.f126.body with | some c => c | none => .skip
theorem T126 : FunOK Tryd.prog (tyTab TL) 126 K126 :=
 fun_ok (loops := lkup []) (joins := lkup [(17, .light [(21, .bool)]), (21, .light [(30, .bool)]), (25, .light [(44, .bool)]), (29, .light [(53, .bool)]), (33, .light [(63, .bool)])]) (md := mdL []) (L := [(46, K46), (95, K95), (60, K60), (61, K61)]) (res := [.tmp 4]) (code := C126) (fn := Tryd.f126) TOKp EOKp MIXp (lkup_cons T46 (lkup_cons T95 (lkup_cons T60 (lkup_cons T61 lkup_nil)))) Tryd.func126 (by kernel_rfl) (by kernel_rfl) (of_decide_eq_false (by kernel_rfl)) (by kernel_rfl) (fun k ds => by kernel_rfl)
def B127x0 (k0 : Nat) (rec1 : List D → Option (List D)) (ds2 : List D) : Option (List D) :=
 bif decide ((gt ds2 2).i < (gt ds2 1).i) then
  (bif ((inRow ((gt ds2 2).i) (((gt ds2 0).r).length)) && true) then
    bif (((elAt ((gt ds2 0).r) ((gt ds2 2).i)).c 0).i == 1) then
     bif decide ((ByteArray.size (((elAt ((gt ds2 0).r) ((gt ds2 2).i)).c 3).s)) ≤ 9223372036854775807) then
      bif (needOk (((mGet ((gt ds2 5).r) (((elAt ((gt ds2 0).r) ((gt ds2 2).i)).c 3).s) (D.row [])).r).length + [D.int (((gt ds2 3).r).length : Int)].length) 8) then
       bif decide ((ByteArray.size (((elAt ((gt ds2 0).r) ((gt ds2 2).i)).c 3).s)) ≤ 9223372036854775807) then
        bif ((Nat.blt (((gt ds2 5).r).length) 9223372036854775807) && ((ByteArray.toList (((elAt ((gt ds2 0).r) ((gt ds2 2).i)).c 3).s)) == (ByteArray.toList (((elAt ((gt ds2 0).r) ((gt ds2 2).i)).c 3).s)))) then
         bif (needOk (((gt ds2 3).r).length + [D.agg [D.str (((elAt ((gt ds2 0).r) ((gt ds2 2).i)).c 3).s), D.int (((elAt ((gt ds2 0).r) ((gt ds2 2).i)).c 1).i), D.int (((elAt ((gt ds2 0).r) ((gt ds2 2).i)).c 2).i), D.int (-1), D.int 0]].length) 48) then
          some [D.row ((gt ds2 0).r), D.int ((gt ds2 1).i), D.int ((gt ds2 2).i), D.row ((gt ds2 3).r ++ [D.agg [D.str (((elAt ((gt ds2 0).r) ((gt ds2 2).i)).c 3).s), D.int (((elAt ((gt ds2 0).r) ((gt ds2 2).i)).c 1).i), D.int (((elAt ((gt ds2 0).r) ((gt ds2 2).i)).c 2).i), D.int (-1), D.int 0]]), D.row ((gt ds2 4).r), D.row (mPut ((gt ds2 5).r) (((elAt ((gt ds2 0).r) ((gt ds2 2).i)).c 3).s) (D.row ((mGet ((gt ds2 5).r) (((elAt ((gt ds2 0).r) ((gt ds2 2).i)).c 3).s) (D.row [])).r ++ [D.int (((gt ds2 3).r).length : Int)])))]
         else none
        else none
       else none
      else none
     else none
    else bif decide ((ByteArray.size (((elAt ((gt ds2 0).r) ((gt ds2 2).i)).c 3).s)) ≤ 9223372036854775807) then
     bif ((((mGet ((gt ds2 5).r) (((elAt ((gt ds2 0).r) ((gt ds2 2).i)).c 3).s) (D.row [])).r).length : Int) == 0) then
      bif (needOk (((gt ds2 4).r).length + [D.int ((gt ds2 2).i)].length) 8) then
       some [D.row ((gt ds2 0).r), D.int ((gt ds2 1).i), D.int ((gt ds2 2).i), D.row ((gt ds2 3).r), D.row ((gt ds2 4).r ++ [D.int ((gt ds2 2).i)]), D.row (bif (mHas ((gt ds2 5).r) (((elAt ((gt ds2 0).r) ((gt ds2 2).i)).c 3).s)) then (mPut ((gt ds2 5).r) (((elAt ((gt ds2 0).r) ((gt ds2 2).i)).c 3).s) (D.row ((mGet ((gt ds2 5).r) (((elAt ((gt ds2 0).r) ((gt ds2 2).i)).c 3).s) (D.row [])).r))) else (gt ds2 5).r)]
      else none
     else bif ((inRow (Go.IntKind.i64.wrap ((((mGet ((gt ds2 5).r) (((elAt ((gt ds2 0).r) ((gt ds2 2).i)).c 3).s) (D.row [])).r).length : Int) - 1)) (((mGet ((gt ds2 5).r) (((elAt ((gt ds2 0).r) ((gt ds2 2).i)).c 3).s) (D.row [])).r).length)) && true) then
      bif ((inRow ((elAt ((mGet ((gt ds2 5).r) (((elAt ((gt ds2 0).r) ((gt ds2 2).i)).c 3).s) (D.row [])).r) (Go.IntKind.i64.wrap ((((mGet ((gt ds2 5).r) (((elAt ((gt ds2 0).r) ((gt ds2 2).i)).c 3).s) (D.row [])).r).length : Int) - 1))).i) (((gt ds2 3).r).length)) && true) then
       bif (decide (0 ≤ (Go.IntKind.i64.wrap ((((mGet ((gt ds2 5).r) (((elAt ((gt ds2 0).r) ((gt ds2 2).i)).c 3).s) (D.row [])).r).length : Int) - 1))) && decide ((Go.IntKind.i64.wrap ((((mGet ((gt ds2 5).r) (((elAt ((gt ds2 0).r) ((gt ds2 2).i)).c 3).s) (D.row [])).r).length : Int) - 1)) ≤ (((mGet ((gt ds2 5).r) (((elAt ((gt ds2 0).r) ((gt ds2 2).i)).c 3).s) (D.row [])).r).length : Int))) then
        bif decide ((ByteArray.size (((elAt ((gt ds2 0).r) ((gt ds2 2).i)).c 3).s)) ≤ 9223372036854775807) then
         bif ((Nat.blt (((gt ds2 5).r).length) 9223372036854775807) && ((ByteArray.toList (((elAt ((gt ds2 0).r) ((gt ds2 2).i)).c 3).s)) == (ByteArray.toList (((elAt ((gt ds2 0).r) ((gt ds2 2).i)).c 3).s)))) then
          some [D.row ((gt ds2 0).r), D.int ((gt ds2 1).i), D.int ((gt ds2 2).i), D.row (List.set (List.set ((gt ds2 3).r) (Int.toNat ((elAt ((mGet ((gt ds2 5).r) (((elAt ((gt ds2 0).r) ((gt ds2 2).i)).c 3).s) (D.row [])).r) (Go.IntKind.i64.wrap ((((mGet ((gt ds2 5).r) (((elAt ((gt ds2 0).r) ((gt ds2 2).i)).c 3).s) (D.row [])).r).length : Int) - 1))).i)) (D.agg [((elAt ((gt ds2 3).r) ((elAt ((mGet ((gt ds2 5).r) (((elAt ((gt ds2 0).r) ((gt ds2 2).i)).c 3).s) (D.row [])).r) (Go.IntKind.i64.wrap ((((mGet ((gt ds2 5).r) (((elAt ((gt ds2 0).r) ((gt ds2 2).i)).c 3).s) (D.row [])).r).length : Int) - 1))).i)).c 0), ((elAt ((gt ds2 3).r) ((elAt ((mGet ((gt ds2 5).r) (((elAt ((gt ds2 0).r) ((gt ds2 2).i)).c 3).s) (D.row [])).r) (Go.IntKind.i64.wrap ((((mGet ((gt ds2 5).r) (((elAt ((gt ds2 0).r) ((gt ds2 2).i)).c 3).s) (D.row [])).r).length : Int) - 1))).i)).c 1), ((elAt ((gt ds2 3).r) ((elAt ((mGet ((gt ds2 5).r) (((elAt ((gt ds2 0).r) ((gt ds2 2).i)).c 3).s) (D.row [])).r) (Go.IntKind.i64.wrap ((((mGet ((gt ds2 5).r) (((elAt ((gt ds2 0).r) ((gt ds2 2).i)).c 3).s) (D.row [])).r).length : Int) - 1))).i)).c 2), D.int (((elAt ((gt ds2 0).r) ((gt ds2 2).i)).c 1).i), ((elAt ((gt ds2 3).r) ((elAt ((mGet ((gt ds2 5).r) (((elAt ((gt ds2 0).r) ((gt ds2 2).i)).c 3).s) (D.row [])).r) (Go.IntKind.i64.wrap ((((mGet ((gt ds2 5).r) (((elAt ((gt ds2 0).r) ((gt ds2 2).i)).c 3).s) (D.row [])).r).length : Int) - 1))).i)).c 4)])) (Int.toNat ((elAt ((mGet ((gt ds2 5).r) (((elAt ((gt ds2 0).r) ((gt ds2 2).i)).c 3).s) (D.row [])).r) (Go.IntKind.i64.wrap ((((mGet ((gt ds2 5).r) (((elAt ((gt ds2 0).r) ((gt ds2 2).i)).c 3).s) (D.row [])).r).length : Int) - 1))).i)) (D.agg [((elAt (List.set ((gt ds2 3).r) (Int.toNat ((elAt ((mGet ((gt ds2 5).r) (((elAt ((gt ds2 0).r) ((gt ds2 2).i)).c 3).s) (D.row [])).r) (Go.IntKind.i64.wrap ((((mGet ((gt ds2 5).r) (((elAt ((gt ds2 0).r) ((gt ds2 2).i)).c 3).s) (D.row [])).r).length : Int) - 1))).i)) (D.agg [((elAt ((gt ds2 3).r) ((elAt ((mGet ((gt ds2 5).r) (((elAt ((gt ds2 0).r) ((gt ds2 2).i)).c 3).s) (D.row [])).r) (Go.IntKind.i64.wrap ((((mGet ((gt ds2 5).r) (((elAt ((gt ds2 0).r) ((gt ds2 2).i)).c 3).s) (D.row [])).r).length : Int) - 1))).i)).c 0), ((elAt ((gt ds2 3).r) ((elAt ((mGet ((gt ds2 5).r) (((elAt ((gt ds2 0).r) ((gt ds2 2).i)).c 3).s) (D.row [])).r) (Go.IntKind.i64.wrap ((((mGet ((gt ds2 5).r) (((elAt ((gt ds2 0).r) ((gt ds2 2).i)).c 3).s) (D.row [])).r).length : Int) - 1))).i)).c 1), ((elAt ((gt ds2 3).r) ((elAt ((mGet ((gt ds2 5).r) (((elAt ((gt ds2 0).r) ((gt ds2 2).i)).c 3).s) (D.row [])).r) (Go.IntKind.i64.wrap ((((mGet ((gt ds2 5).r) (((elAt ((gt ds2 0).r) ((gt ds2 2).i)).c 3).s) (D.row [])).r).length : Int) - 1))).i)).c 2), D.int (((elAt ((gt ds2 0).r) ((gt ds2 2).i)).c 1).i), ((elAt ((gt ds2 3).r) ((elAt ((mGet ((gt ds2 5).r) (((elAt ((gt ds2 0).r) ((gt ds2 2).i)).c 3).s) (D.row [])).r) (Go.IntKind.i64.wrap ((((mGet ((gt ds2 5).r) (((elAt ((gt ds2 0).r) ((gt ds2 2).i)).c 3).s) (D.row [])).r).length : Int) - 1))).i)).c 4)])) ((elAt ((mGet ((gt ds2 5).r) (((elAt ((gt ds2 0).r) ((gt ds2 2).i)).c 3).s) (D.row [])).r) (Go.IntKind.i64.wrap ((((mGet ((gt ds2 5).r) (((elAt ((gt ds2 0).r) ((gt ds2 2).i)).c 3).s) (D.row [])).r).length : Int) - 1))).i)).c 0), ((elAt (List.set ((gt ds2 3).r) (Int.toNat ((elAt ((mGet ((gt ds2 5).r) (((elAt ((gt ds2 0).r) ((gt ds2 2).i)).c 3).s) (D.row [])).r) (Go.IntKind.i64.wrap ((((mGet ((gt ds2 5).r) (((elAt ((gt ds2 0).r) ((gt ds2 2).i)).c 3).s) (D.row [])).r).length : Int) - 1))).i)) (D.agg [((elAt ((gt ds2 3).r) ((elAt ((mGet ((gt ds2 5).r) (((elAt ((gt ds2 0).r) ((gt ds2 2).i)).c 3).s) (D.row [])).r) (Go.IntKind.i64.wrap ((((mGet ((gt ds2 5).r) (((elAt ((gt ds2 0).r) ((gt ds2 2).i)).c 3).s) (D.row [])).r).length : Int) - 1))).i)).c 0), ((elAt ((gt ds2 3).r) ((elAt ((mGet ((gt ds2 5).r) (((elAt ((gt ds2 0).r) ((gt ds2 2).i)).c 3).s) (D.row [])).r) (Go.IntKind.i64.wrap ((((mGet ((gt ds2 5).r) (((elAt ((gt ds2 0).r) ((gt ds2 2).i)).c 3).s) (D.row [])).r).length : Int) - 1))).i)).c 1), ((elAt ((gt ds2 3).r) ((elAt ((mGet ((gt ds2 5).r) (((elAt ((gt ds2 0).r) ((gt ds2 2).i)).c 3).s) (D.row [])).r) (Go.IntKind.i64.wrap ((((mGet ((gt ds2 5).r) (((elAt ((gt ds2 0).r) ((gt ds2 2).i)).c 3).s) (D.row [])).r).length : Int) - 1))).i)).c 2), D.int (((elAt ((gt ds2 0).r) ((gt ds2 2).i)).c 1).i), ((elAt ((gt ds2 3).r) ((elAt ((mGet ((gt ds2 5).r) (((elAt ((gt ds2 0).r) ((gt ds2 2).i)).c 3).s) (D.row [])).r) (Go.IntKind.i64.wrap ((((mGet ((gt ds2 5).r) (((elAt ((gt ds2 0).r) ((gt ds2 2).i)).c 3).s) (D.row [])).r).length : Int) - 1))).i)).c 4)])) ((elAt ((mGet ((gt ds2 5).r) (((elAt ((gt ds2 0).r) ((gt ds2 2).i)).c 3).s) (D.row [])).r) (Go.IntKind.i64.wrap ((((mGet ((gt ds2 5).r) (((elAt ((gt ds2 0).r) ((gt ds2 2).i)).c 3).s) (D.row [])).r).length : Int) - 1))).i)).c 1), ((elAt (List.set ((gt ds2 3).r) (Int.toNat ((elAt ((mGet ((gt ds2 5).r) (((elAt ((gt ds2 0).r) ((gt ds2 2).i)).c 3).s) (D.row [])).r) (Go.IntKind.i64.wrap ((((mGet ((gt ds2 5).r) (((elAt ((gt ds2 0).r) ((gt ds2 2).i)).c 3).s) (D.row [])).r).length : Int) - 1))).i)) (D.agg [((elAt ((gt ds2 3).r) ((elAt ((mGet ((gt ds2 5).r) (((elAt ((gt ds2 0).r) ((gt ds2 2).i)).c 3).s) (D.row [])).r) (Go.IntKind.i64.wrap ((((mGet ((gt ds2 5).r) (((elAt ((gt ds2 0).r) ((gt ds2 2).i)).c 3).s) (D.row [])).r).length : Int) - 1))).i)).c 0), ((elAt ((gt ds2 3).r) ((elAt ((mGet ((gt ds2 5).r) (((elAt ((gt ds2 0).r) ((gt ds2 2).i)).c 3).s) (D.row [])).r) (Go.IntKind.i64.wrap ((((mGet ((gt ds2 5).r) (((elAt ((gt ds2 0).r) ((gt ds2 2).i)).c 3).s) (D.row [])).r).length : Int) - 1))).i)).c 1), ((elAt ((gt ds2 3).r) ((elAt ((mGet ((gt ds2 5).r) (((elAt ((gt ds2 0).r) ((gt ds2 2).i)).c 3).s) (D.row [])).r) (Go.IntKind.i64.wrap ((((mGet ((gt ds2 5).r) (((elAt ((gt ds2 0).r) ((gt ds2 2).i)).c 3).s) (D.row [])).r).length : Int) - 1))).i)).c 2), D.int (((elAt ((gt ds2 0).r) ((gt ds2 2).i)).c 1).i), ((elAt ((gt ds2 3).r) ((elAt ((mGet ((gt ds2 5).r) (((elAt ((gt ds2 0).r) ((gt ds2 2).i)).c 3).s) (D.row [])).r) (Go.IntKind.i64.wrap ((((mGet ((gt ds2 5).r) (((elAt ((gt ds2 0).r) ((gt ds2 2).i)).c 3).s) (D.row [])).r).length : Int) - 1))).i)).c 4)])) ((elAt ((mGet ((gt ds2 5).r) (((elAt ((gt ds2 0).r) ((gt ds2 2).i)).c 3).s) (D.row [])).r) (Go.IntKind.i64.wrap ((((mGet ((gt ds2 5).r) (((elAt ((gt ds2 0).r) ((gt ds2 2).i)).c 3).s) (D.row [])).r).length : Int) - 1))).i)).c 2), ((elAt (List.set ((gt ds2 3).r) (Int.toNat ((elAt ((mGet ((gt ds2 5).r) (((elAt ((gt ds2 0).r) ((gt ds2 2).i)).c 3).s) (D.row [])).r) (Go.IntKind.i64.wrap ((((mGet ((gt ds2 5).r) (((elAt ((gt ds2 0).r) ((gt ds2 2).i)).c 3).s) (D.row [])).r).length : Int) - 1))).i)) (D.agg [((elAt ((gt ds2 3).r) ((elAt ((mGet ((gt ds2 5).r) (((elAt ((gt ds2 0).r) ((gt ds2 2).i)).c 3).s) (D.row [])).r) (Go.IntKind.i64.wrap ((((mGet ((gt ds2 5).r) (((elAt ((gt ds2 0).r) ((gt ds2 2).i)).c 3).s) (D.row [])).r).length : Int) - 1))).i)).c 0), ((elAt ((gt ds2 3).r) ((elAt ((mGet ((gt ds2 5).r) (((elAt ((gt ds2 0).r) ((gt ds2 2).i)).c 3).s) (D.row [])).r) (Go.IntKind.i64.wrap ((((mGet ((gt ds2 5).r) (((elAt ((gt ds2 0).r) ((gt ds2 2).i)).c 3).s) (D.row [])).r).length : Int) - 1))).i)).c 1), ((elAt ((gt ds2 3).r) ((elAt ((mGet ((gt ds2 5).r) (((elAt ((gt ds2 0).r) ((gt ds2 2).i)).c 3).s) (D.row [])).r) (Go.IntKind.i64.wrap ((((mGet ((gt ds2 5).r) (((elAt ((gt ds2 0).r) ((gt ds2 2).i)).c 3).s) (D.row [])).r).length : Int) - 1))).i)).c 2), D.int (((elAt ((gt ds2 0).r) ((gt ds2 2).i)).c 1).i), ((elAt ((gt ds2 3).r) ((elAt ((mGet ((gt ds2 5).r) (((elAt ((gt ds2 0).r) ((gt ds2 2).i)).c 3).s) (D.row [])).r) (Go.IntKind.i64.wrap ((((mGet ((gt ds2 5).r) (((elAt ((gt ds2 0).r) ((gt ds2 2).i)).c 3).s) (D.row [])).r).length : Int) - 1))).i)).c 4)])) ((elAt ((mGet ((gt ds2 5).r) (((elAt ((gt ds2 0).r) ((gt ds2 2).i)).c 3).s) (D.row [])).r) (Go.IntKind.i64.wrap ((((mGet ((gt ds2 5).r) (((elAt ((gt ds2 0).r) ((gt ds2 2).i)).c 3).s) (D.row [])).r).length : Int) - 1))).i)).c 3), D.int (((elAt ((gt ds2 0).r) ((gt ds2 2).i)).c 4).i)])), D.row ((gt ds2 4).r), D.row (mPut ((gt ds2 5).r) (((elAt ((gt ds2 0).r) ((gt ds2 2).i)).c 3).s) (D.row (List.take (Int.toNat (Go.IntKind.i64.wrap ((((mGet ((gt ds2 5).r) (((elAt ((gt ds2 0).r) ((gt ds2 2).i)).c 3).s) (D.row [])).r).length : Int) - 1))) ((mGet ((gt ds2 5).r) (((elAt ((gt ds2 0).r) ((gt ds2 2).i)).c 3).s) (D.row [])).r))))]
         else none
        else none
       else none
      else none
     else none
    else none
   else none).bind fun ds3 =>
  rec1 [D.row ((gt ds3 0).r), D.int ((gt ds3 1).i), D.int (Go.IntKind.i64.wrap ((gt ds3 2).i + 1)), D.row ((gt ds3 3).r), D.row ((gt ds3 4).r), D.row ((gt ds3 5).r)]
 else some [D.row ((gt ds2 3).r), D.row ((gt ds2 4).r)]
/-- interchange/reply.book -/
def F127 (k : Nat) (ds : List D) : Option (List D) :=
 iter B127x0 k [D.row ((gt ds 0).r), D.int (((gt ds 0).r).length : Int), D.int 0, D.row [], D.row [], D.row []]
def K127 : Callee := ⟨[.seen 122], [.own 147, .own 3], F127⟩
noncomputable def C127 : Code := match Tryd.f127.body with | some c => c | none => .skip
theorem T127 : FunOK Tryd.prog (tyTab TL) 127 K127 :=
 fun_ok (loops := lkup [(5, ⟨[.row 147 false, .row 3 false, .map 3 true], [(4, .orow 0), (5, .orow 1), (6, .mapr 2), (12, .srow 122), (13, .int .i64), (14, .int .i64)]⟩)]) (joins := lkup [(32, .full ⟨[.row 147 false, .row 3 false, .map 3 true], [(4, .orow 0), (5, .orow 1), (6, .mapr 2), (12, .srow 122), (13, .int .i64), (14, .int .i64)]⟩)]) (md := mdL [(15, 7, 1)]) (L := []) (res := [.tmp 2, .tmp 3]) (code := C127) (fn := Tryd.f127) TOKp EOKp MIXp lkup_nil Tryd.func127 (by kernel_rfl) (by kernel_rfl) (of_decide_eq_false (by kernel_rfl)) (by kernel_rfl) (fun k ds => by kernel_rfl)
/-- interchange/reply.isFlaw -/
def F140 (k : Nat) (ds : List D) : Option (List D) :=
 (F46 k [D.int ((gt ds 0).i), D.int 1, D.int 12]).bind fun ds0 =>
 some [D.bool (!(gt ds0 0).b)]
def K140 : Callee := ⟨[.int .i64], [.bool], F140⟩
noncomputable def C140 : Code := match Tryd.f140.body with | some c => c | none => .skip
theorem T140 : FunOK Tryd.prog (tyTab TL) 140 K140 :=
 fun_ok (loops := lkup []) (joins := lkup []) (md := mdL []) (L := [(46, K46)]) (res := [.tmp 2]) (code := C140) (fn := Tryd.f140) TOKp EOKp MIXp (lkup_cons T46 lkup_nil) Tryd.func140 (by kernel_rfl) (by kernel_rfl) (of_decide_eq_false (by kernel_rfl)) (by kernel_rfl) (fun k ds => by kernel_rfl)
/-- interchange/kit.IsTag -/
def F40 (k : Nat) (ds : List D) : Option (List D) :=
 bif decide (((ByteArray.size ((gt ds 0).s)) : Int) ≥ 2) then
  bif decide (((ByteArray.size ((gt ds 0).s)) : Int) ≤ 6) then
   bif (((inRow 0 (ByteArray.size ((gt ds 0).s))) && true) && true) then
    (F74 k [D.str (ByteArray.mk #[65, 66, 67, 68, 69, 70, 71, 72, 73, 74, 75, 76, 77, 78, 79, 80, 81, 82, 83, 84, 85, 86, 87, 88, 89, 90]), D.int ((UInt8.toNat (List.getD (ByteArray.toList ((gt ds 0).s)) 0 0)) : Int)]).bind fun ds0 =>
    bif decide ((gt ds0 0).i ≥ 0) then
     (F68 k [D.str ((gt ds 0).s)]).bind fun ds1 =>
     some [D.bool ((gt ds1 0).b)]
    else some [D.bool false]
   else none
  else some [D.bool false]
 else some [D.bool false]
def K40 : Callee := ⟨[.str], [.bool], F40⟩
noncomputable def C40 : Code := match Tryd.f40.body with | some c => c | none => .skip
theorem T40 : FunOK Tryd.prog (tyTab TL) 40 K40 :=
 fun_ok (loops := lkup []) (joins := lkup []) (md := mdL []) (L := [(74, K74), (68, K68)]) (res := [.tmp 2]) (code := C40) (fn := Tryd.f40) TOKp EOKp MIXp (lkup_cons T74 (lkup_cons T68 lkup_nil)) Tryd.func40 (by kernel_rfl) (by kernel_rfl) (of_decide_eq_false (by kernel_rfl)) (by kernel_rfl) (fun k ds => by kernel_rfl)
/-- interchange/interchangeref7.isVerdict -/
def F57 (k : Nat) (ds : List D) : Option (List D) :=
 (F83 k [D.int ((gt ds 0).i), D.int 1, D.int 3]).bind fun ds0 =>
 some [D.bool ((gt ds0 0).b)]
def K57 : Callee := ⟨[.int .i64], [.bool], F57⟩
noncomputable def C57 : Code := match Tryd.f57.body with | some c => c | none => .skip
theorem T57 : FunOK Tryd.prog (tyTab TL) 57 K57 :=
 fun_ok (loops := lkup []) (joins := lkup []) (md := mdL []) (L := [(83, K83)]) (res := [.tmp 2]) (code := C57) (fn := Tryd.f57) TOKp EOKp MIXp (lkup_cons T83 lkup_nil) Tryd.func57 (by kernel_rfl) (by kernel_rfl) (of_decide_eq_false (by kernel_rfl)) (by kernel_rfl) (fun k ds => by kernel_rfl)
def B59x0 (k0 : Nat) (rec1 : List D → Option (List D)) (ds2 : List D) : Option (List D) :=
 bif decide ((gt ds2 0).i < (((gt ds2 3).r).length : Int)) then
  bif ((inRow ((gt ds2 0).i) (((gt ds2 3).r).length)) && true) then
   bif (needOk (((gt ds2 4).r).length + [D.int (((elAt ((gt ds2 3).r) ((gt ds2 0).i)).c 1).i)].length) 8) then
    rec1 [D.int (Go.IntKind.i64.wrap ((gt ds2 0).i + 1)), D.str ((gt ds2 1).s), D.int ((gt ds2 2).i), D.row ((gt ds2 3).r), D.row ((gt ds2 4).r ++ [D.int (((elAt ((gt ds2 3).r) ((gt ds2 0).i)).c 1).i)])]
   else none
  else none
 else (F86 k0 [D.row ((gt ds2 4).r)]).bind fun ds3 =>
 some [D.int ((gt ds3 0).i)]
/-- interchange/interchangeref7.OfAll -/
def F59 (k : Nat) (ds : List D) : Option (List D) :=
 iter B59x0 k [D.int 0, D.str ((gt ds 0).s), D.int ((gt ds 1).i), D.row ((gt ds 2).r), D.row []]
def K59 : Callee := ⟨[.agg [.str, .int .i64, .seen 104]], [.int .i64], F59⟩
noncomputable def C59 : Code := match Tryd.f59.body with | some c => c | none => .skip
theorem T59 : FunOK Tryd.prog (tyTab TL) 59 K59 :=
 fun_ok (loops := lkup [(3, ⟨[.box 57 [.str, .int .i64, .srow 104], .row 3 false], [(1, .ptr 0 0), (3, .orow 1), (4, .int .i64)]⟩)]) (joins := lkup []) (md := mdL []) (L := [(86, K86)]) (res := [.tmp 2]) (code := C59) (fn := Tryd.f59) TOKp EOKp MIXp (lkup_cons T86 lkup_nil) Tryd.func59 (by kernel_rfl) (by kernel_rfl) (of_decide_eq_false (by kernel_rfl)) (by kernel_rfl) (fun k ds => by kernel_rfl)
def B64x0 (rec2 : List D → Option (List D)) (k4 : Nat) (rec5 : List D → Option (List D)) (ds6 : List D) : Option (List D) :=
 bif decide ((gt ds6 3).i < (((gt ds6 1).r).length : Int)) then
  bif ((inRow ((gt ds6 3).i) (((gt ds6 1).r).length)) && true) then
   bif ((inRow ((gt ds6 3).i) (((gt ds6 2).r).length)) && true) then
    (F93 k4 [D.row ((elAt ((gt ds6 1).r) ((gt ds6 3).i)).r), D.row ((elAt ((gt ds6 2).r) ((gt ds6 3).i)).r)]).bind fun ds7 =>
    bif (!(gt ds7 0).b) then
     some [D.bool false]
    else rec5 [D.int ((gt ds6 0).i), D.row ((gt ds6 1).r), D.row ((gt ds6 2).r), D.int (Go.IntKind.i64.wrap ((gt ds6 3).i + 1)), D.str ((gt ds6 4).s), D.row ((gt ds6 5).r), D.str ((gt ds6 6).s), D.row ((gt ds6 7).r)]
   else none
  else none
 else rec2 [D.int (Go.IntKind.i64.wrap ((gt ds6 0).i + 1)), D.str ((gt ds6 4).s), D.row ((gt ds6 5).r), D.str ((gt ds6 6).s), D.row ((gt ds6 7).r)]
def B64x1 (k1 : Nat) (rec2 : List D → Option (List D)) (ds3 : List D) : Option (List D) :=
 bif decide ((gt ds3 0).i < (((gt ds3 2).r).length : Int)) then
  bif ((inRow ((gt ds3 0).i) (((gt ds3 2).r).length)) && true) then
   bif ((inRow ((gt ds3 0).i) (((gt ds3 4).r).length)) && true) then
    bif (((((elAt ((gt ds3 2).r) ((gt ds3 0).i)).c 0).r).length : Int) != ((((elAt ((gt ds3 4).r) ((gt ds3 0).i)).c 0).r).length : Int)) then
     some [D.bool false]
    else iter (B64x0 rec2) k1 [D.int ((gt ds3 0).i), D.row (((elAt ((gt ds3 2).r) ((gt ds3 0).i)).c 0).r), D.row (((elAt ((gt ds3 4).r) ((gt ds3 0).i)).c 0).r), D.int 0, D.str ((gt ds3 1).s), D.row ((gt ds3 2).r), D.str ((gt ds3 3).s), D.row ((gt ds3 4).r)]
   else none
  else none
 else some [D.bool true]
/-- interchange/interchangeref2.SameSegment -/
def F64 (k : Nat) (ds : List D) : Option (List D) :=
 (bif (!((ByteArray.toList ((gt ds 0).s)) == (ByteArray.toList ((gt ds 2).s)))) then
   some [D.bool true]
  else some [D.bool ((((gt ds 1).r).length : Int) != (((gt ds 3).r).length : Int))]).bind fun ds0 =>
 bif (gt ds0 0).b then
  some [D.bool false]
 else iter B64x1 k [D.int 0, D.str ((gt ds 0).s), D.row ((gt ds 1).r), D.str ((gt ds 2).s), D.row ((gt ds 3).r)]
def K64 : Callee := ⟨[.agg [.str, .seen 76], .agg [.str, .seen 76]], [.bool], F64⟩
noncomputable def C64 : Code := match Tryd.f64.body with | some c => c | none => .skip
theorem T64 : FunOK Tryd.prog (tyTab TL) 64 K64 :=
 fun_ok (loops := lkup [(10, ⟨[.box 53 [.str, .srow 76], .box 53 [.str, .srow 76]], [(2, .ptr 0 0), (3, .ptr 1 0), (5, .int .i64), (6, .srow 100), (7, .srow 100), (8, .int .i64)]⟩), (4, ⟨[.box 53 [.str, .srow 76], .box 53 [.str, .srow 76]], [(2, .ptr 0 0), (3, .ptr 1 0), (5, .int .i64)]⟩)]) (joins := lkup [(3, .light [(22, .bool)])]) (md := mdL []) (L := [(93, K93)]) (res := [.tmp 4]) (code := C64) (fn := Tryd.f64) TOKp EOKp MIXp (lkup_cons T93 lkup_nil) Tryd.func64 (by kernel_rfl) (by kernel_rfl) (of_decide_eq_false (by kernel_rfl)) (by kernel_rfl) (fun k ds => by kernel_rfl)
/-- interchange/interchangeref2.IsTag -/
def F72 (k : Nat) (ds : List D) : Option (List D) :=
 bif decide (((ByteArray.size ((gt ds 0).s)) : Int) ≥ 2) then
  (F101 k [D.str ((gt ds 0).s)]).bind fun ds0 =>
  some [D.bool ((gt ds0 0).b)]
 else some [D.bool false]
def K72 : Callee := ⟨[.str], [.bool], F72⟩
noncomputable def C72 : Code := match Tryd.f72.body with | some c => c | none => .skip
theorem T72 : FunOK Tryd.prog (tyTab TL) 72 K72 :=
 fun_ok (loops := lkup []) (joins := lkup []) (md := mdL []) (L := [(101, K101)]) (res := [.tmp 2]) (code := C72) (fn := Tryd.f72) TOKp EOKp MIXp (lkup_cons T101 lkup_nil) Tryd.func72 (by kernel_rfl) (by kernel_rfl) (of_decide_eq_false (by kernel_rfl)) (by kernel_rfl) (fun k ds => by kernel_rfl)
/-- interchange/reply.flawSegment -/
def F82 (k : Nat) (ds : List D) : Option (List D) :=
 (F53 k [D.int ((gt ds 0).i)]).bind fun ds0 =>
 (F53 k [D.int ((gt ds 1).i)]).bind fun ds1 =>
 (F81 k [D.str (ByteArray.mk #[65, 75, 70]), D.row [D.str ((gt ds0 0).s), D.str ((gt ds1 0).s)]]).bind fun ds2 =>
 (bif (!(((gt ds 2).i == 0) && (((gt ds 3).i == 0) && (((gt ds 4).i == 0) && true)))) then
   (F53 k [D.int ((gt ds 2).i)]).bind fun ds3 =>
   (F53 k [D.int ((gt ds 3).i)]).bind fun ds4 =>
   (F53 k [D.int ((gt ds 4).i)]).bind fun ds5 =>
   (F108 k [D.row [D.str ((gt ds3 0).s), D.str ((gt ds4 0).s), D.str ((gt ds5 0).s)]]).bind fun ds6 =>
   bif (needOk (((gt ds2 1).r).length + [D.agg [D.row ((gt ds6 0).r)]].length) 24) then
    some [D.int ((gt ds 0).i), D.int ((gt ds 1).i), D.int ((gt ds 2).i), D.int ((gt ds 3).i), D.int ((gt ds 4).i), D.str ((gt ds 5).s), D.str (ByteArray.mk #[]), D.str ((gt ds2 0).s), D.row ((gt ds2 1).r ++ [D.agg [D.row ((gt ds6 0).r)]])]
   else none
  else bif (!((ByteArray.toList ((gt ds 5).s)) == (ByteArray.toList (ByteArray.mk #[])))) then
   (F108 k [D.row [D.str (ByteArray.mk #[])]]).bind fun ds7 =>
   bif (needOk (((gt ds2 1).r).length + [D.agg [D.row ((gt ds7 0).r)]].length) 24) then
    some [D.int ((gt ds 0).i), D.int ((gt ds 1).i), D.int ((gt ds 2).i), D.int ((gt ds 3).i), D.int ((gt ds 4).i), D.str ((gt ds 5).s), D.str (ByteArray.mk #[]), D.str ((gt ds2 0).s), D.row ((gt ds2 1).r ++ [D.agg [D.row ((gt ds7 0).r)]])]
   else none
  else some [D.int ((gt ds 0).i), D.int ((gt ds 1).i), D.int ((gt ds 2).i), D.int ((gt ds 3).i), D.int ((gt ds 4).i), D.str ((gt ds 5).s), D.str (ByteArray.mk #[]), D.str ((gt ds2 0).s), D.row ((gt ds2 1).r)]).bind fun ds8 =>
 (bif (!((ByteArray.toList ((gt ds8 5).s)) == (ByteArray.toList (ByteArray.mk #[])))) then
   (F108 k [D.row [D.str ((gt ds8 5).s)]]).bind fun ds9 =>
   bif (needOk (((gt ds8 8).r).length + [D.agg [D.row ((gt ds9 0).r)]].length) 24) then
    some [D.str ((gt ds8 6).s), D.str ((gt ds8 7).s), D.row ((gt ds8 8).r ++ [D.agg [D.row ((gt ds9 0).r)]])]
   else none
  else some [D.str ((gt ds8 6).s), D.str ((gt ds8 7).s), D.row ((gt ds8 8).r)]).bind fun ds10 =>
 some [D.str ((gt ds10 1).s), D.row ((gt ds10 2).r)]
def K82 : Callee := ⟨[.agg [.int .i64, .int .i64, .int .i64, .int .i64, .int .i64, .str]], [.agg [.str, .own 76]], F82⟩
noncomputable def C82 : Code := match Tryd.f82.body with | some c => c | none => .skip
theorem T82 : FunOK Tryd.prog (tyTab TL) 82 K82 :=
 fun_ok (loops := lkup []) (joins := lkup [(12, .full ⟨[.box 110 [.int .i64, .int .i64, .int .i64, .int .i64, .int .i64, .str], .box 53 [.str, .nilsl], .box 53 [.str, .orow 3], .row 76 false], [(1, .ptr 0 0), (2, .ptr 1 0), (3, .ptr 2 0)]⟩), (16, .full ⟨[.box 53 [.str, .nilsl], .box 53 [.str, .orow 2], .row 76 false], [(2, .ptr 0 0), (3, .ptr 1 0)]⟩)]) (md := mdL []) (L := [(53, K53), (81, K81), (108, K108)]) (res := [.cell 2 53]) (code := C82) (fn := Tryd.f82) TOKp EOKp MIXp (lkup_cons T53 (lkup_cons T81 (lkup_cons T108 lkup_nil))) Tryd.func82 (by kernel_rfl) (by kernel_rfl) (of_decide_eq_false (by kernel_rfl)) (by kernel_rfl) (fun k ds => by kernel_rfl)
def B85x0 (k0 : Nat) (rec1 : List D → Option (List D)) (ds2 : List D) : Option (List D) :=
 bif decide ((gt ds2 0).i < (((gt ds2 3).r).length : Int)) then
  bif ((inRow ((gt ds2 0).i) (((gt ds2 3).r).length)) && true) then
   bif (needOk (((gt ds2 4).r).length + [D.int (((elAt ((gt ds2 3).r) ((gt ds2 0).i)).c 1).i)].length) 8) then
    rec1 [D.int (Go.IntKind.i64.wrap ((gt ds2 0).i + 1)), D.str ((gt ds2 1).s), D.int ((gt ds2 2).i), D.row ((gt ds2 3).r), D.row ((gt ds2 4).r ++ [D.int (((elAt ((gt ds2 3).r) ((gt ds2 0).i)).c 1).i)])]
   else none
  else none
 else (F86 k0 [D.row ((gt ds2 4).r)]).bind fun ds3 =>
 some [D.int ((gt ds3 0).i)]
/-- interchange/interchangeref7.OfGroup -/
def F85 (k : Nat) (ds : List D) : Option (List D) :=
 iter B85x0 k [D.int 0, D.str ((gt ds 0).s), D.int ((gt ds 1).i), D.row ((gt ds 2).r), D.row []]
def K85 : Callee := ⟨[.agg [.str, .int .i64, .seen 107]], [.int .i64], F85⟩
noncomputable def C85 : Code := match Tryd.f85.body with | some c => c | none => .skip
theorem T85 : FunOK Tryd.prog (tyTab TL) 85 K85 :=
 fun_ok (loops := lkup [(3, ⟨[.box 104 [.str, .int .i64, .srow 107], .row 3 false], [(1, .ptr 0 0), (3, .orow 1), (4, .int .i64)]⟩)]) (joins := lkup []) (md := mdL []) (L := [(86, K86)]) (res := [.tmp 2]) (code := C85) (fn := Tryd.f85) TOKp EOKp MIXp (lkup_cons T86 lkup_nil) Tryd.func85 (by kernel_rfl) (by kernel_rfl) (of_decide_eq_false (by kernel_rfl)) (by kernel_rfl) (fun k ds => by kernel_rfl)
def B94x0 (k0 : Nat) (rec1 : List D → Option (List D)) (ds2 : List D) : Option (List D) :=
 bif decide ((gt ds2 2).i < (gt ds2 1).i) then
  (F126 k0 [D.row ((gt ds2 0).r), D.int ((gt ds2 2).i)]).bind fun ds3 =>
  bif ((gt ds3 0).i != 0) then
   some [D.int ((gt ds3 0).i)]
  else rec1 [D.row ((gt ds2 0).r), D.int ((gt ds2 1).i), D.int (Go.IntKind.i64.wrap ((gt ds2 2).i + 1))]
 else some [D.int 0]
/-- interchange/reply.CheckBook -/
def F94 (k : Nat) (ds : List D) : Option (List D) :=
 bif decide ((((gt ds 0).r).length : Int) > 3000) then
  some [D.int 2]
 else iter B94x0 k [D.row ((gt ds 0).r), D.int (((gt ds 0).r).length : Int), D.int 0]
def K94 : Callee := ⟨[.seen 122], [.int .i64], F94⟩
noncomputable def C94 : Code := match Tryd.f94.body with | some c => c | none => .skip
theorem T94 : FunOK Tryd.prog (tyTab TL) 94 K94 :=
 fun_ok (loops := lkup [(4, ⟨[], [(0, .srow 122), (9, .int .i64), (10, .int .i64)]⟩)]) (joins := lkup []) (md := mdL []) (L := [(126, K126)]) (res := [.tmp 2]) (code := C94) (fn := Tryd.f94) TOKp EOKp MIXp (lkup_cons T126 lkup_nil) Tryd.func94 (by kernel_rfl) (by kernel_rfl) (of_decide_eq_false (by kernel_rfl)) (by kernel_rfl) (fun k ds => by kernel_rfl)
def B96x0 (k0 : Nat) (rec1 : List D → Option (List D)) (ds2 : List D) : Option (List D) :=
 (bif decide ((gt ds2 2).i < (((gt ds2 0).r).length : Int)) then
   bif ((inRow ((gt ds2 2).i) (((gt ds2 0).r).length)) && true) then
    some [D.bool (decide (((elAt ((gt ds2 0).r) ((gt ds2 2).i)).c 1).i ≤ (gt ds2 1).i))]
   else none
  else some [D.bool false]).bind fun ds3 =>
 bif (gt ds3 0).b then
  rec1 [D.row ((gt ds2 0).r), D.int ((gt ds2 1).i), D.int (Go.IntKind.i64.wrap ((gt ds2 2).i + 1))]
 else bif (decide (0 ≤ (gt ds2 2).i) && decide ((gt ds2 2).i ≤ (((gt ds2 0).r).length : Int))) then
  (F127 k0 [D.row (List.drop 0 (List.take (Int.toNat ((gt ds2 2).i)) ((gt ds2 0).r)))]).bind fun ds4 =>
  some [D.row ((gt ds4 0).r)]
 else none
/-- interchange/reply.at -/
def F96 (k : Nat) (ds : List D) : Option (List D) :=
 iter B96x0 k [D.row ((gt ds 0).r), D.int ((gt ds 1).i), D.int 0]
def K96 : Callee := ⟨[.seen 122, .int .i64], [.own 147], F96⟩
noncomputable def C96 : Code := match Tryd.f96.body with | some c => c | none => .skip
theorem T96 : FunOK Tryd.prog (tyTab TL) 96 K96 :=
 fun_ok (loops := lkup [(2, ⟨[], [(0, .srow 122), (1, .int .i64), (5, .int .i64)]⟩)]) (joins := lkup [(5, .light [(20, .bool)])]) (md := mdL []) (L := [(127, K127)]) (res := [.tmp 4]) (code := C96) (fn := Tryd.f96) TOKp EOKp MIXp (lkup_cons T127 lkup_nil) Tryd.func96 (by kernel_rfl) (by kernel_rfl) (of_decide_eq_false (by kernel_rfl)) (by kernel_rfl) (fun k ds => by kernel_rfl)
def B109x0 (k0 : Nat) (rec1 : List D → Option (List D)) (ds2 : List D) : Option (List D) :=
 bif decide ((gt ds2 1).i < (((gt ds2 0).r).length : Int)) then
  bif ((inRow ((gt ds2 1).i) (((gt ds2 0).r).length)) && true) then
   (F83 k0 [D.int (((elAt ((gt ds2 0).r) ((gt ds2 1).i)).c 0).i), D.int 1, D.int 12]).bind fun ds3 =>
   bif (!(gt ds3 0).b) then
    some [D.int 4]
   else ((F83 k0 [D.int (((elAt ((gt ds2 0).r) ((gt ds2 1).i)).c 1).i), D.int 0, D.int 2000]).bind fun ds4 =>
    bif (!(gt ds4 0).b) then
     some [D.bool true]
    else (F83 k0 [D.int (((elAt ((gt ds2 0).r) ((gt ds2 1).i)).c 2).i), D.int 0, D.int 51]).bind fun ds5 =>
    bif (!(gt ds5 0).b) then
     some [D.bool true]
    else (F83 k0 [D.int (((elAt ((gt ds2 0).r) ((gt ds2 1).i)).c 3).i), D.int 0, D.int 21]).bind fun ds6 =>
    bif (!(gt ds6 0).b) then
     some [D.bool true]
    else (F83 k0 [D.int (((elAt ((gt ds2 0).r) ((gt ds2 1).i)).c 4).i), D.int 0, D.int 21]).bind fun ds7 =>
    some [D.bool (!(gt ds7 0).b)]).bind fun ds8 =>
   bif (gt ds8 0).b then
    some [D.int 1]
   else (bif (!((ByteArray.toList (((elAt ((gt ds2 0).r) ((gt ds2 1).i)).c 5).s)) == (ByteArray.toList (ByteArray.mk #[])))) then
     (F72 k0 [D.str (((elAt ((gt ds2 0).r) ((gt ds2 1).i)).c 5).s)]).bind fun ds9 =>
     bif (!(gt ds9 0).b) then
      (F110 k0 [D.str (((elAt ((gt ds2 0).r) ((gt ds2 1).i)).c 5).s)]).bind fun ds10 =>
      some [D.bool (!(gt ds10 0).b)]
     else some [D.bool false]
    else some [D.bool false]).bind fun ds11 =>
   bif (gt ds11 0).b then
    some [D.int 3]
   else (bif decide ((gt ds2 1).i > 0) then
     bif ((inRow (Go.IntKind.i64.wrap ((gt ds2 1).i - 1)) (((gt ds2 0).r).length)) && true) then
      some [D.bool (decide (((elAt ((gt ds2 0).r) ((gt ds2 1).i)).c 1).i < ((elAt ((gt ds2 0).r) (Go.IntKind.i64.wrap ((gt ds2 1).i - 1))).c 1).i))]
     else none
    else some [D.bool false]).bind fun ds12 =>
   bif (gt ds12 0).b then
    some [D.int 8]
   else rec1 [D.row ((gt ds2 0).r), D.int (Go.IntKind.i64.wrap ((gt ds2 1).i + 1))]
  else none
 else some [D.int 0]
/-- interchange/interchangeref7.checkFlaws -/
def F109 (k : Nat) (ds : List D) : Option (List D) :=
 bif decide ((((gt ds 0).r).length : Int) > 500) then
  some [D.int 2]
 else iter B109x0 k [D.row ((gt ds 0).r), D.int 0]
def K109 : Callee := ⟨[.seen 110], [.int .i64], F109⟩
noncomputable def C109 : Code := match Tryd.f109.body with | some c => c | none => .skip
theorem T109 : FunOK Tryd.prog (tyTab TL) 109 K109 :=
 fun_ok (loops := lkup [(4, ⟨[], [(0, .srow 110), (3, .int .i64)]⟩)]) (joins := lkup [(19, .light [(46, .bool)]), (23, .light [(61, .bool)]), (27, .light [(74, .bool)])]) (md := mdL []) (L := [(83, K83), (72, K72), (110, K110)]) (res := [.tmp 2]) (code := C109) (fn := Tryd.f109) TOKp EOKp MIXp (lkup_cons T83 (lkup_cons T72 (lkup_cons T110 lkup_nil))) Tryd.func109 (by kernel_rfl) (by kernel_rfl) (of_decide_eq_false (by kernel_rfl)) (by kernel_rfl) (fun k ds => by kernel_rfl)
def B121x0 (k0 : Nat) (rec1 : List D → Option (List D)) (ds2 : List D) : Option (List D) :=
 bif decide ((gt ds2 3).i < (gt ds2 2).i) then
  bif ((inRow ((gt ds2 3).i) (((gt ds2 1).r).length)) && true) then
   (F140 k0 [D.int (((elAt ((gt ds2 1).r) ((gt ds2 3).i)).c 0).i)]).bind fun ds3 =>
   bif (!(gt ds3 0).b) then
    some [D.int 4]
   else ((F46 k0 [D.int (((elAt ((gt ds2 1).r) ((gt ds2 3).i)).c 1).i), D.int 0, D.int 2000]).bind fun ds4 =>
    bif (gt ds4 0).b then
     some [D.bool true]
    else (F46 k0 [D.int (((elAt ((gt ds2 1).r) ((gt ds2 3).i)).c 2).i), D.int 0, D.int 51]).bind fun ds5 =>
    bif (gt ds5 0).b then
     some [D.bool true]
    else (F46 k0 [D.int (((elAt ((gt ds2 1).r) ((gt ds2 3).i)).c 3).i), D.int 0, D.int 21]).bind fun ds6 =>
    bif (gt ds6 0).b then
     some [D.bool true]
    else (F46 k0 [D.int (((elAt ((gt ds2 1).r) ((gt ds2 3).i)).c 4).i), D.int 0, D.int 21]).bind fun ds7 =>
    some [D.bool ((gt ds7 0).b)]).bind fun ds8 =>
   bif (gt ds8 0).b then
    some [D.int 1]
   else (bif (!((ByteArray.toList (((elAt ((gt ds2 1).r) ((gt ds2 3).i)).c 5).s)) == (ByteArray.toList (ByteArray.mk #[])))) then
     (F40 k0 [D.str (((elAt ((gt ds2 1).r) ((gt ds2 3).i)).c 5).s)]).bind fun ds9 =>
     bif (!(gt ds9 0).b) then
      (F122 k0 [D.str (((elAt ((gt ds2 1).r) ((gt ds2 3).i)).c 5).s)]).bind fun ds10 =>
      some [D.bool (!(gt ds10 0).b)]
     else some [D.bool false]
    else some [D.bool false]).bind fun ds11 =>
   bif (gt ds11 0).b then
    some [D.int 3]
   else (bif decide ((gt ds2 3).i > 0) then
     bif ((inRow (Go.IntKind.i64.wrap ((gt ds2 3).i - 1)) (((gt ds2 0).r).length)) && true) then
      some [D.bool (decide (((elAt ((gt ds2 1).r) ((gt ds2 3).i)).c 1).i < ((elAt ((gt ds2 0).r) (Go.IntKind.i64.wrap ((gt ds2 3).i - 1))).c 1).i))]
     else none
    else some [D.bool false]).bind fun ds12 =>
   bif (gt ds12 0).b then
    some [D.int 8]
   else rec1 [D.row ((gt ds2 0).r), D.row ((gt ds2 1).r), D.int ((gt ds2 2).i), D.int (Go.IntKind.i64.wrap ((gt ds2 3).i + 1))]
  else none
 else some [D.int 0]
/-- interchange/reply.flawsFault -/
def F121 (k : Nat) (ds : List D) : Option (List D) :=
 bif decide ((((gt ds 0).r).length : Int) > 500) then
  some [D.int 2]
 else iter B121x0 k [D.row ((gt ds 0).r), D.row ((gt ds 0).r), D.int (((gt ds 0).r).length : Int), D.int 0]
def K121 : Callee := ⟨[.seen 110], [.int .i64], F121⟩
noncomputable def C121 : Code := match Tryd.f121.body with | some c => c | none => .skip
theorem T121 : FunOK Tryd.prog (tyTab TL) 121 K121 :=
 fun_ok (loops := lkup [(4, ⟨[], [(0, .srow 110), (8, .srow 110), (9, .int .i64), (10, .int .i64)]⟩)]) (joins := lkup [(17, .light [(20, .bool)]), (21, .light [(42, .bool)]), (25, .light [(58, .bool)])]) (md := mdL []) (L := [(140, K140), (46, K46), (40, K40), (122, K122)]) (res := [.tmp 2]) (code := C121) (fn := Tryd.f121) TOKp EOKp MIXp (lkup_cons T140 (lkup_cons T46 (lkup_cons T40 (lkup_cons T122 lkup_nil)))) Tryd.func121 (by kernel_rfl) (by kernel_rfl) (of_decide_eq_false (by kernel_rfl)) (by kernel_rfl) (fun k ds => by kernel_rfl)
def B30x0 (k0 : Nat) (rec1 : List D → Option (List D)) (ds2 : List D) : Option (List D) :=
 bif decide ((gt ds2 2).i < (((gt ds2 0).r).length : Int)) then
  bif ((inRow ((gt ds2 2).i) (((gt ds2 0).r).length)) && true) then
   bif ((inRow ((gt ds2 2).i) (((gt ds2 1).r).length)) && true) then
    (F64 k0 [D.str (((elAt ((gt ds2 0).r) ((gt ds2 2).i)).c 0).s), D.row (((elAt ((gt ds2 0).r) ((gt ds2 2).i)).c 1).r), D.str (((elAt ((gt ds2 1).r) ((gt ds2 2).i)).c 0).s), D.row (((elAt ((gt ds2 1).r) ((gt ds2 2).i)).c 1).r)]).bind fun ds3 =>
    bif (!(gt ds3 0).b) then
     some [D.bool false]
    else rec1 [D.row ((gt ds2 0).r), D.row ((gt ds2 1).r), D.int (Go.IntKind.i64.wrap ((gt ds2 2).i + 1))]
   else none
  else none
 else some [D.bool true]
/-- interchange/interchangeref2.SameSegments -/
def F30 (k : Nat) (ds : List D) : Option (List D) :=
 bif ((((gt ds 0).r).length : Int) != (((gt ds 1).r).length : Int)) then
  some [D.bool false]
 else iter B30x0 k [D.row ((gt ds 0).r), D.row ((gt ds 1).r), D.int 0]
def K30 : Callee := ⟨[.seen 53, .seen 53], [.bool], F30⟩
noncomputable def C30 : Code := match Tryd.f30.body with | some c => c | none => .skip
theorem T30 : FunOK Tryd.prog (tyTab TL) 30 K30 :=
 fun_ok (loops := lkup [(4, ⟨[], [(0, .srow 53), (1, .srow 53), (5, .int .i64)]⟩)]) (joins := lkup []) (md := mdL []) (L := [(64, K64)]) (res := [.tmp 4]) (code := C30) (fn := Tryd.f30) TOKp EOKp MIXp (lkup_cons T64 lkup_nil) Tryd.func30 (by kernel_rfl) (by kernel_rfl) (of_decide_eq_false (by kernel_rfl)) (by kernel_rfl) (fun k ds => by kernel_rfl)
def B55x0 (rec8 : List D → Option (List D)) (k17 : Nat) (rec18 : List D → Option (List D)) (ds19 : List D) : Option (List D) :=
 bif decide ((gt ds19 8).i < (gt ds19 7).i) then
  bif ((inRow ((gt ds19 8).i) (((gt ds19 6).r).length)) && true) then
   (F81 k17 [D.str (ByteArray.mk #[65, 75, 82]), D.row [D.str ((elAt ((gt ds19 6).r) ((gt ds19 8).i)).s)]]).bind fun ds20 =>
   bif (needOk (((gt ds19 9).r).length + [D.agg [D.str ((gt ds20 0).s), D.row ((gt ds20 1).r)]].length) 40) then
    rec18 [D.row ((gt ds19 0).r), D.int ((gt ds19 1).i), D.int ((gt ds19 2).i), D.row ((gt ds19 3).r), D.int ((gt ds19 4).i), D.int ((gt ds19 5).i), D.row ((gt ds19 6).r), D.int ((gt ds19 7).i), D.int (Go.IntKind.i64.wrap ((gt ds19 8).i + 1)), D.row ((gt ds19 9).r ++ [D.agg [D.str ((gt ds20 0).s), D.row ((gt ds20 1).r)]])]
   else none
  else none
 else rec8 [D.row ((gt ds19 0).r), D.int ((gt ds19 1).i), D.int ((gt ds19 2).i), D.row ((gt ds19 3).r), D.int ((gt ds19 4).i), D.int (Go.IntKind.i64.wrap ((gt ds19 5).i + 1)), D.row ((gt ds19 9).r)]
def B55x1 (rec8 : List D → Option (List D)) (k13 : Nat) (rec14 : List D → Option (List D)) (ds15 : List D) : Option (List D) :=
 bif decide ((gt ds15 8).i < (gt ds15 7).i) then
  bif ((inRow ((gt ds15 8).i) (((gt ds15 6).r).length)) && true) then
   (F82 k13 [D.int (((elAt ((gt ds15 6).r) ((gt ds15 8).i)).c 0).i), D.int (((elAt ((gt ds15 6).r) ((gt ds15 8).i)).c 1).i), D.int (((elAt ((gt ds15 6).r) ((gt ds15 8).i)).c 2).i), D.int (((elAt ((gt ds15 6).r) ((gt ds15 8).i)).c 3).i), D.int (((elAt ((gt ds15 6).r) ((gt ds15 8).i)).c 4).i), D.str (((elAt ((gt ds15 6).r) ((gt ds15 8).i)).c 5).s)]).bind fun ds16 =>
   bif (needOk (((gt ds15 9).r).length + [D.agg [D.str ((gt ds16 0).s), D.row ((gt ds16 1).r)]].length) 40) then
    rec14 [D.row ((gt ds15 0).r), D.int ((gt ds15 1).i), D.int ((gt ds15 2).i), D.row ((gt ds15 3).r), D.int ((gt ds15 4).i), D.int ((gt ds15 5).i), D.row ((gt ds15 6).r), D.int ((gt ds15 7).i), D.int (Go.IntKind.i64.wrap ((gt ds15 8).i + 1)), D.row ((gt ds15 9).r ++ [D.agg [D.str ((gt ds16 0).s), D.row ((gt ds16 1).r)]]), D.str ((gt ds15 10).s), D.int ((gt ds15 11).i), D.bool ((gt ds15 12).b), D.row ((gt ds15 13).r), D.row ((gt ds15 14).r)]
   else none
  else none
 else iter (B55x0 rec8) k13 [D.row ((gt ds15 0).r), D.int ((gt ds15 1).i), D.int ((gt ds15 2).i), D.row ((gt ds15 3).r), D.int ((gt ds15 4).i), D.int ((gt ds15 5).i), D.row ((gt ds15 14).r), D.int (((gt ds15 14).r).length : Int), D.int 0, D.row ((gt ds15 9).r)]
def B55x2 (rec3 : List D → Option (List D)) (k7 : Nat) (rec8 : List D → Option (List D)) (ds9 : List D) : Option (List D) :=
 bif decide ((gt ds9 5).i < (gt ds9 4).i) then
  bif ((inRow ((gt ds9 5).i) (((gt ds9 3).r).length)) && true) then
   (F53 k7 [D.int (((elAt ((gt ds9 3).r) ((gt ds9 5).i)).c 1).i)]).bind fun ds10 =>
   (bif ((elAt ((gt ds9 3).r) ((gt ds9 5).i)).c 2).b then
     some [D.row ((gt ds9 0).r), D.int ((gt ds9 1).i), D.int ((gt ds9 2).i), D.row ((gt ds9 3).r), D.int ((gt ds9 4).i), D.int ((gt ds9 5).i), D.row ((gt ds9 6).r), D.str (((elAt ((gt ds9 3).r) ((gt ds9 5).i)).c 0).s), D.int (((elAt ((gt ds9 3).r) ((gt ds9 5).i)).c 1).i), D.bool (((elAt ((gt ds9 3).r) ((gt ds9 5).i)).c 2).b), D.row (((elAt ((gt ds9 3).r) ((gt ds9 5).i)).c 3).r), D.row (((elAt ((gt ds9 3).r) ((gt ds9 5).i)).c 4).r), D.row ([D.str (((elAt ((gt ds9 3).r) ((gt ds9 5).i)).c 0).s), D.str ((gt ds10 0).s)] ++ [D.str (ByteArray.mk #[49])])]
    else some [D.row ((gt ds9 0).r), D.int ((gt ds9 1).i), D.int ((gt ds9 2).i), D.row ((gt ds9 3).r), D.int ((gt ds9 4).i), D.int ((gt ds9 5).i), D.row ((gt ds9 6).r), D.str (((elAt ((gt ds9 3).r) ((gt ds9 5).i)).c 0).s), D.int (((elAt ((gt ds9 3).r) ((gt ds9 5).i)).c 1).i), D.bool (((elAt ((gt ds9 3).r) ((gt ds9 5).i)).c 2).b), D.row (((elAt ((gt ds9 3).r) ((gt ds9 5).i)).c 3).r), D.row (((elAt ((gt ds9 3).r) ((gt ds9 5).i)).c 4).r), D.row [D.str (((elAt ((gt ds9 3).r) ((gt ds9 5).i)).c 0).s), D.str ((gt ds10 0).s)]]).bind fun ds11 =>
   (F81 k7 [D.str (ByteArray.mk #[65, 75, 77]), D.row ((gt ds11 12).r)]).bind fun ds12 =>
   bif (needOk (((gt ds11 6).r).length + [D.agg [D.str ((gt ds12 0).s), D.row ((gt ds12 1).r)]].length) 40) then
    iter (B55x1 rec8) k7 [D.row ((gt ds11 0).r), D.int ((gt ds11 1).i), D.int ((gt ds11 2).i), D.row ((gt ds11 3).r), D.int ((gt ds11 4).i), D.int ((gt ds11 5).i), D.row ((gt ds11 10).r), D.int (((gt ds11 10).r).length : Int), D.int 0, D.row ((gt ds11 6).r ++ [D.agg [D.str ((gt ds12 0).s), D.row ((gt ds12 1).r)]]), D.str ((gt ds11 7).s), D.int ((gt ds11 8).i), D.bool ((gt ds11 9).b), D.row ((gt ds11 10).r), D.row ((gt ds11 11).r)]
   else none
  else none
 else rec3 [D.row ((gt ds9 0).r), D.int ((gt ds9 1).i), D.int (Go.IntKind.i64.wrap ((gt ds9 2).i + 1)), D.row ((gt ds9 6).r)]
def B55x3 (k2 : Nat) (rec3 : List D → Option (List D)) (ds4 : List D) : Option (List D) :=
 bif decide ((gt ds4 2).i < (gt ds4 1).i) then
  bif ((inRow ((gt ds4 2).i) (((gt ds4 0).r).length)) && true) then
   (F53 k2 [D.int (((elAt ((gt ds4 0).r) ((gt ds4 2).i)).c 1).i)]).bind fun ds5 =>
   (F81 k2 [D.str (ByteArray.mk #[65, 75, 71]), D.row [D.str (((elAt ((gt ds4 0).r) ((gt ds4 2).i)).c 0).s), D.str ((gt ds5 0).s)]]).bind fun ds6 =>
   bif (needOk (((gt ds4 3).r).length + [D.agg [D.str ((gt ds6 0).s), D.row ((gt ds6 1).r)]].length) 40) then
    iter (B55x2 rec3) k2 [D.row ((gt ds4 0).r), D.int ((gt ds4 1).i), D.int ((gt ds4 2).i), D.row (((elAt ((gt ds4 0).r) ((gt ds4 2).i)).c 2).r), D.int ((((elAt ((gt ds4 0).r) ((gt ds4 2).i)).c 2).r).length : Int), D.int 0, D.row ((gt ds4 3).r ++ [D.agg [D.str ((gt ds6 0).s), D.row ((gt ds6 1).r)]])]
   else none
  else none
 else some [D.row ((gt ds4 3).r)]
/-- interchange/reply.segments -/
def F55 (k : Nat) (ds : List D) : Option (List D) :=
 (F53 k [D.int ((gt ds 1).i)]).bind fun ds0 =>
 (F81 k [D.str (ByteArray.mk #[65, 75, 73]), D.row [D.str ((gt ds 0).s), D.str ((gt ds0 0).s)]]).bind fun ds1 =>
 iter B55x3 k [D.row ((gt ds 2).r), D.int (((gt ds 2).r).length : Int), D.int 0, D.row [D.agg [D.str ((gt ds1 0).s), D.row ((gt ds1 1).r)]]]
def K55 : Callee := ⟨[.agg [.str, .int .i64, .seen 104]], [.own 53], F55⟩
noncomputable def C55 : Code := match Tryd.f55.body with | some c => c | none => .skip
theorem T55 : FunOK Tryd.prog (tyTab TL) 55 K55 :=
 fun_ok (loops := lkup [(14, ⟨[.row 53 false, .box 107 [.str, .int .i64, .bool, .srow 110, .srow 9]], [(3, .orow 0), (7, .ptr 1 0), (22, .srow 104), (23, .int .i64), (24, .int .i64), (39, .srow 107), (40, .int .i64), (41, .int .i64), (62, .srow 110), (63, .int .i64), (64, .int .i64)]⟩), (19, ⟨[.row 53 false], [(3, .orow 0), (22, .srow 104), (23, .int .i64), (24, .int .i64), (39, .srow 107), (40, .int .i64), (41, .int .i64), (75, .srow 9), (76, .int .i64), (77, .int .i64)]⟩), (7, ⟨[.row 53 false], [(3, .orow 0), (22, .srow 104), (23, .int .i64), (24, .int .i64), (39, .srow 107), (40, .int .i64), (41, .int .i64)]⟩), (3, ⟨[.row 53 false], [(3, .orow 0), (22, .srow 104), (23, .int .i64), (24, .int .i64)]⟩)]) (joins := lkup [(24, .full ⟨[.row 53 false, .box 107 [.str, .int .i64, .bool, .srow 110, .srow 9], .row 9 false], [(3, .orow 0), (7, .ptr 1 0), (8, .orow 2), (22, .srow 104), (23, .int .i64), (24, .int .i64), (39, .srow 107), (40, .int .i64), (41, .int .i64)]⟩)]) (md := mdL []) (L := [(53, K53), (81, K81), (82, K82)]) (res := [.tmp 2]) (code := C55) (fn := Tryd.f55) TOKp EOKp MIXp (lkup_cons T53 (lkup_cons T81 (lkup_cons T82 lkup_nil))) Tryd.func55 (by kernel_rfl) (by kernel_rfl) (of_decide_eq_false (by kernel_rfl)) (by kernel_rfl) (fun k ds => by kernel_rfl)
def B65x0 (k3 : Nat) (rec4 : List D → Option (List D)) (ds5 : List D) : Option (List D) :=
 bif decide ((gt ds5 2).i < (gt ds5 1).i) then
  (bif ((inRow ((gt ds5 2).i) (((gt ds5 15).r).length)) && true) then
    ((F97 k3 [D.str (((elAt ((gt ds5 15).r) ((gt ds5 2).i)).c 0).s), D.int (((elAt ((gt ds5 15).r) ((gt ds5 2).i)).c 1).i), D.int (((elAt ((gt ds5 15).r) ((gt ds5 2).i)).c 2).i), D.int (((elAt ((gt ds5 15).r) ((gt ds5 2).i)).c 3).i), D.int (((elAt ((gt ds5 15).r) ((gt ds5 2).i)).c 4).i), D.int ((gt ds5 0).i)]).bind fun ds6 =>
     bif ((gt ds6 0).i == 1) then
      some [D.int ((gt ds5 0).i), D.int ((gt ds5 1).i), D.int ((gt ds5 2).i), D.int ((gt ds5 3).i), D.int ((gt ds5 4).i), D.int ((gt ds5 5).i), D.int ((gt ds5 6).i), D.int ((gt ds5 7).i), D.int ((gt ds5 8).i), D.int (Go.IntKind.i64.wrap ((gt ds5 9).i + 1)), D.int ((gt ds5 10).i), D.int ((gt ds5 11).i), D.int ((gt ds5 12).i), D.int ((gt ds5 13).i), D.int ((gt ds5 14).i), D.str (((elAt ((gt ds5 15).r) ((gt ds5 2).i)).c 0).s), D.int (((elAt ((gt ds5 15).r) ((gt ds5 2).i)).c 1).i), D.int (((elAt ((gt ds5 15).r) ((gt ds5 2).i)).c 2).i), D.int (((elAt ((gt ds5 15).r) ((gt ds5 2).i)).c 3).i), D.int (((elAt ((gt ds5 15).r) ((gt ds5 2).i)).c 4).i), D.row ((gt ds5 15).r)]
     else bif ((gt ds6 0).i == 2) then
      some [D.int ((gt ds5 0).i), D.int ((gt ds5 1).i), D.int ((gt ds5 2).i), D.int ((gt ds5 3).i), D.int ((gt ds5 4).i), D.int ((gt ds5 5).i), D.int ((gt ds5 6).i), D.int ((gt ds5 7).i), D.int ((gt ds5 8).i), D.int ((gt ds5 9).i), D.int (Go.IntKind.i64.wrap ((gt ds5 10).i + 1)), D.int ((gt ds5 11).i), D.int ((gt ds5 12).i), D.int ((gt ds5 13).i), D.int ((gt ds5 14).i), D.str (((elAt ((gt ds5 15).r) ((gt ds5 2).i)).c 0).s), D.int (((elAt ((gt ds5 15).r) ((gt ds5 2).i)).c 1).i), D.int (((elAt ((gt ds5 15).r) ((gt ds5 2).i)).c 2).i), D.int (((elAt ((gt ds5 15).r) ((gt ds5 2).i)).c 3).i), D.int (((elAt ((gt ds5 15).r) ((gt ds5 2).i)).c 4).i), D.row ((gt ds5 15).r)]
     else some [D.int ((gt ds5 0).i), D.int ((gt ds5 1).i), D.int ((gt ds5 2).i), D.int ((gt ds5 3).i), D.int ((gt ds5 4).i), D.int ((gt ds5 5).i), D.int ((gt ds5 6).i), D.int ((gt ds5 7).i), D.int ((gt ds5 8).i), D.int ((gt ds5 9).i), D.int ((gt ds5 10).i), D.int ((gt ds5 11).i), D.int ((gt ds5 12).i), D.int ((gt ds5 13).i), D.int ((gt ds5 14).i), D.str (((elAt ((gt ds5 15).r) ((gt ds5 2).i)).c 0).s), D.int (((elAt ((gt ds5 15).r) ((gt ds5 2).i)).c 1).i), D.int (((elAt ((gt ds5 15).r) ((gt ds5 2).i)).c 2).i), D.int (((elAt ((gt ds5 15).r) ((gt ds5 2).i)).c 3).i), D.int (((elAt ((gt ds5 15).r) ((gt ds5 2).i)).c 4).i), D.row ((gt ds5 15).r)]).bind fun ds7 =>
    (bif ((gt ds7 19).i == 1) then
      some [D.int ((gt ds7 0).i), D.int ((gt ds7 1).i), D.int ((gt ds7 2).i), D.int ((gt ds7 3).i), D.int ((gt ds7 4).i), D.int ((gt ds7 5).i), D.int ((gt ds7 6).i), D.int ((gt ds7 7).i), D.int ((gt ds7 8).i), D.int ((gt ds7 9).i), D.int ((gt ds7 10).i), D.int (Go.IntKind.i64.wrap ((gt ds7 11).i + 1)), D.int ((gt ds7 12).i), D.int ((gt ds7 13).i), D.int ((gt ds7 14).i), D.str ((gt ds7 15).s), D.int ((gt ds7 16).i), D.int ((gt ds7 17).i), D.int ((gt ds7 18).i), D.int ((gt ds7 19).i), D.row ((gt ds7 20).r)]
     else bif ((gt ds7 19).i == 2) then
      some [D.int ((gt ds7 0).i), D.int ((gt ds7 1).i), D.int ((gt ds7 2).i), D.int ((gt ds7 3).i), D.int ((gt ds7 4).i), D.int ((gt ds7 5).i), D.int ((gt ds7 6).i), D.int ((gt ds7 7).i), D.int ((gt ds7 8).i), D.int ((gt ds7 9).i), D.int ((gt ds7 10).i), D.int ((gt ds7 11).i), D.int (Go.IntKind.i64.wrap ((gt ds7 12).i + 1)), D.int ((gt ds7 13).i), D.int ((gt ds7 14).i), D.str ((gt ds7 15).s), D.int ((gt ds7 16).i), D.int ((gt ds7 17).i), D.int ((gt ds7 18).i), D.int ((gt ds7 19).i), D.row ((gt ds7 20).r)]
     else bif ((gt ds7 19).i == 3) then
      some [D.int ((gt ds7 0).i), D.int ((gt ds7 1).i), D.int ((gt ds7 2).i), D.int ((gt ds7 3).i), D.int ((gt ds7 4).i), D.int ((gt ds7 5).i), D.int ((gt ds7 6).i), D.int ((gt ds7 7).i), D.int ((gt ds7 8).i), D.int ((gt ds7 9).i), D.int ((gt ds7 10).i), D.int ((gt ds7 11).i), D.int ((gt ds7 12).i), D.int (Go.IntKind.i64.wrap ((gt ds7 13).i + 1)), D.int ((gt ds7 14).i), D.str ((gt ds7 15).s), D.int ((gt ds7 16).i), D.int ((gt ds7 17).i), D.int ((gt ds7 18).i), D.int ((gt ds7 19).i), D.row ((gt ds7 20).r)]
     else some [D.int ((gt ds7 0).i), D.int ((gt ds7 1).i), D.int ((gt ds7 2).i), D.int ((gt ds7 3).i), D.int ((gt ds7 4).i), D.int ((gt ds7 5).i), D.int ((gt ds7 6).i), D.int ((gt ds7 7).i), D.int ((gt ds7 8).i), D.int ((gt ds7 9).i), D.int ((gt ds7 10).i), D.int ((gt ds7 11).i), D.int ((gt ds7 12).i), D.int ((gt ds7 13).i), D.int ((gt ds7 14).i), D.str ((gt ds7 15).s), D.int ((gt ds7 16).i), D.int ((gt ds7 17).i), D.int ((gt ds7 18).i), D.int ((gt ds7 19).i), D.row ((gt ds7 20).r)]).bind fun ds8 =>
    bif decide ((gt ds8 18).i > (gt ds8 17).i) then
     some [D.int ((gt ds8 0).i), D.int ((gt ds8 1).i), D.int ((gt ds8 2).i), D.int ((gt ds8 3).i), D.int ((gt ds8 4).i), D.int ((gt ds8 5).i), D.int ((gt ds8 6).i), D.int ((gt ds8 7).i), D.int ((gt ds8 8).i), D.int ((gt ds8 9).i), D.int ((gt ds8 10).i), D.int ((gt ds8 11).i), D.int ((gt ds8 12).i), D.int ((gt ds8 13).i), D.int (Go.IntKind.i64.wrap ((gt ds8 14).i + 1)), D.row ((gt ds8 20).r)]
    else some [D.int ((gt ds8 0).i), D.int ((gt ds8 1).i), D.int ((gt ds8 2).i), D.int ((gt ds8 3).i), D.int ((gt ds8 4).i), D.int ((gt ds8 5).i), D.int ((gt ds8 6).i), D.int ((gt ds8 7).i), D.int ((gt ds8 8).i), D.int ((gt ds8 9).i), D.int ((gt ds8 10).i), D.int ((gt ds8 11).i), D.int ((gt ds8 12).i), D.int ((gt ds8 13).i), D.int ((gt ds8 14).i), D.row ((gt ds8 20).r)]
   else none).bind fun ds9 =>
  rec4 [D.int ((gt ds9 0).i), D.int ((gt ds9 1).i), D.int (Go.IntKind.i64.wrap ((gt ds9 2).i + 1)), D.int ((gt ds9 3).i), D.int ((gt ds9 4).i), D.int ((gt ds9 5).i), D.int ((gt ds9 6).i), D.int ((gt ds9 7).i), D.int ((gt ds9 8).i), D.int ((gt ds9 9).i), D.int ((gt ds9 10).i), D.int ((gt ds9 11).i), D.int ((gt ds9 12).i), D.int ((gt ds9 13).i), D.int ((gt ds9 14).i), D.row ((gt ds9 15).r)]
 else some [D.int ((gt ds5 9).i), D.int ((gt ds5 10).i), D.int ((gt ds5 11).i), D.int ((gt ds5 12).i), D.int ((gt ds5 13).i), D.int ((gt ds5 14).i), D.int 0]
/-- interchange/reply.StandingAt -/
def F65 (k : Nat) (ds : List D) : Option (List D) :=
 (F94 k [D.row ((gt ds 0).r)]).bind fun ds0 =>
 bif ((gt ds0 0).i != 0) then
  some [D.int 0, D.int 0, D.int 0, D.int 0, D.int 0, D.int 0, D.int ((gt ds0 0).i)]
 else (F95 k [D.int ((gt ds 1).i)]).bind fun ds1 =>
 bif (!(gt ds1 0).b) then
  some [D.int 0, D.int 0, D.int 0, D.int 0, D.int 0, D.int 0, D.int 1]
 else (F96 k [D.row ((gt ds 0).r), D.int ((gt ds 1).i)]).bind fun ds2 =>
 iter B65x0 k [D.int ((gt ds 1).i), D.int (((gt ds2 0).r).length : Int), D.int 0, D.int 0, D.int 0, D.int 0, D.int 0, D.int 0, D.int 0, D.int 0, D.int 0, D.int 0, D.int 0, D.int 0, D.int 0, D.row ((gt ds2 0).r)]
def K65 : Callee := ⟨[.seen 122, .int .i64], [.agg [.int .i64, .int .i64, .int .i64, .int .i64, .int .i64, .int .i64], .int .i64], F65⟩
noncomputable def C65 : Code := match Tryd.f65.body with | some c => c | none => .skip
theorem T65 : FunOK Tryd.prog (tyTab TL) 65 K65 :=
 fun_ok (loops := lkup [(8, ⟨[.box 118 [.int .i64, .int .i64, .int .i64, .int .i64, .int .i64, .int .i64], .box 118 [.int .i64, .int .i64, .int .i64, .int .i64, .int .i64, .int .i64], .row 147 false], [(1, .int .i64), (4, .ptr 0 0), (7, .ptr 1 0), (23, .orow 2), (24, .int .i64), (25, .int .i64)]⟩)]) (joins := lkup [(30, .full ⟨[.box 118 [.int .i64, .int .i64, .int .i64, .int .i64, .int .i64, .int .i64], .box 118 [.int .i64, .int .i64, .int .i64, .int .i64, .int .i64, .int .i64], .box 147 [.str, .int .i64, .int .i64, .int .i64, .int .i64], .row 147 false], [(1, .int .i64), (4, .ptr 0 0), (7, .ptr 1 0), (9, .ptr 2 0), (23, .orow 3), (24, .int .i64), (25, .int .i64)]⟩), (44, .full ⟨[.box 118 [.int .i64, .int .i64, .int .i64, .int .i64, .int .i64, .int .i64], .box 118 [.int .i64, .int .i64, .int .i64, .int .i64, .int .i64, .int .i64], .box 147 [.str, .int .i64, .int .i64, .int .i64, .int .i64], .row 147 false], [(1, .int .i64), (4, .ptr 0 0), (7, .ptr 1 0), (9, .ptr 2 0), (23, .orow 3), (24, .int .i64), (25, .int .i64)]⟩), (48, .full ⟨[.box 118 [.int .i64, .int .i64, .int .i64, .int .i64, .int .i64, .int .i64], .box 118 [.int .i64, .int .i64, .int .i64, .int .i64, .int .i64, .int .i64], .row 147 false], [(1, .int .i64), (4, .ptr 0 0), (7, .ptr 1 0), (23, .orow 2), (24, .int .i64), (25, .int .i64)]⟩)]) (md := mdL []) (L := [(94, K94), (95, K95), (96, K96), (97, K97)]) (res := [.cell 4 118, .tmp 5]) (code := C65) (fn := Tryd.f65) TOKp EOKp MIXp (lkup_cons T94 (lkup_cons T95 (lkup_cons T96 (lkup_cons T97 lkup_nil)))) Tryd.func65 (by kernel_rfl) (by kernel_rfl) (of_decide_eq_false (by kernel_rfl)) (by kernel_rfl) (fun k ds => by kernel_rfl)
def B84x0 (k7 : Nat) (rec8 : List D → Option (List D)) (ds9 : List D) : Option (List D) :=
 bif decide ((gt ds9 0).i < (((gt ds9 5).r).length : Int)) then
  bif ((inRow ((gt ds9 0).i) (((gt ds9 5).r).length)) && true) then
   (F110 k7 [D.str ((elAt ((gt ds9 5).r) ((gt ds9 0).i)).s)]).bind fun ds10 =>
   bif (!(gt ds10 0).b) then
    some [D.int 5]
   else (bif decide ((gt ds9 0).i > 0) then
     bif ((inRow ((gt ds9 0).i) (((gt ds9 5).r).length)) && true) then
      bif ((inRow (Go.IntKind.i64.wrap ((gt ds9 0).i - 1)) (((gt ds9 5).r).length)) && true) then
       some [D.bool ((Go.Op.bytesLess (ByteArray.toList ((elAt ((gt ds9 5).r) ((gt ds9 0).i)).s)) (ByteArray.toList ((elAt ((gt ds9 5).r) (Go.IntKind.i64.wrap ((gt ds9 0).i - 1))).s))) || ((ByteArray.toList ((elAt ((gt ds9 5).r) ((gt ds9 0).i)).s)) == (ByteArray.toList ((elAt ((gt ds9 5).r) (Go.IntKind.i64.wrap ((gt ds9 0).i - 1))).s))))]
      else none
     else none
    else some [D.bool false]).bind fun ds11 =>
   bif (gt ds11 0).b then
    some [D.int 8]
   else rec8 [D.int (Go.IntKind.i64.wrap ((gt ds9 0).i + 1)), D.str ((gt ds9 1).s), D.int ((gt ds9 2).i), D.bool ((gt ds9 3).b), D.row ((gt ds9 4).r), D.row ((gt ds9 5).r)]
  else none
 else (bif ((gt ds9 2).i == 1) then
   bif decide ((((gt ds9 4).r).length : Int) > 0) then
    some [D.bool true]
   else some [D.bool (decide ((((gt ds9 5).r).length : Int) > 0))]
  else some [D.bool false]).bind fun ds12 =>
 bif (gt ds12 0).b then
  some [D.int 12]
 else some [D.int 0]
def B84x1 (k2 : Nat) (rec3 : List D → Option (List D)) (ds4 : List D) : Option (List D) :=
 bif decide ((gt ds4 2).i < (gt ds4 1).i) then
  bif ((inRow ((gt ds4 2).i) (((gt ds4 0).r).length)) && true) then
   bif ((ByteArray.toList (((elAt ((gt ds4 0).r) ((gt ds4 2).i)).c 0).s)) == (ByteArray.toList ((gt ds4 3).s))) then
    some [D.int 7]
   else rec3 [D.row ((gt ds4 0).r), D.int ((gt ds4 1).i), D.int (Go.IntKind.i64.wrap ((gt ds4 2).i + 1)), D.str ((gt ds4 3).s), D.int ((gt ds4 4).i), D.bool ((gt ds4 5).b), D.row ((gt ds4 6).r), D.row ((gt ds4 7).r)]
  else none
 else (bif (gt ds4 5).b then
   bif ((gt ds4 4).i != 3) then
    some [D.bool true]
   else bif decide ((((gt ds4 6).r).length : Int) > 0) then
    some [D.bool true]
   else some [D.bool (decide ((((gt ds4 7).r).length : Int) > 0))]
  else some [D.bool false]).bind fun ds5 =>
 bif (gt ds5 0).b then
  some [D.int 12]
 else (F109 k2 [D.row ((gt ds4 6).r)]).bind fun ds6 =>
 bif ((gt ds6 0).i != 0) then
  some [D.int ((gt ds6 0).i)]
 else bif decide ((((gt ds4 7).r).length : Int) > 200) then
  some [D.int 2]
 else iter B84x0 k2 [D.int 0, D.str ((gt ds4 3).s), D.int ((gt ds4 4).i), D.bool ((gt ds4 5).b), D.row ((gt ds4 6).r), D.row ((gt ds4 7).r)]
/-- interchange/interchangeref7.checkMessage -/
def F84 (k : Nat) (ds : List D) : Option (List D) :=
 bif ((inRow ((gt ds 1).i) (((gt ds 0).r).length)) && true) then
  (F56 k [D.str (((elAt ((gt ds 0).r) ((gt ds 1).i)).c 0).s)]).bind fun ds0 =>
  bif (!(gt ds0 0).b) then
   some [D.int 3]
  else (F57 k [D.int (((elAt ((gt ds 0).r) ((gt ds 1).i)).c 1).i)]).bind fun ds1 =>
  bif (!(gt ds1 0).b) then
   some [D.int 4]
  else iter B84x1 k [D.row ((gt ds 0).r), D.int ((gt ds 1).i), D.int 0, D.str (((elAt ((gt ds 0).r) ((gt ds 1).i)).c 0).s), D.int (((elAt ((gt ds 0).r) ((gt ds 1).i)).c 1).i), D.bool (((elAt ((gt ds 0).r) ((gt ds 1).i)).c 2).b), D.row (((elAt ((gt ds 0).r) ((gt ds 1).i)).c 3).r), D.row (((elAt ((gt ds 0).r) ((gt ds 1).i)).c 4).r)]
 else none
def K84 : Callee := ⟨[.seen 107, .int .i64], [.int .i64], F84⟩
noncomputable def C84 : Code := match Tryd.f84.body with | some c => c | none => .skip
theorem T84 : FunOK Tryd.prog (tyTab TL) 84 K84 :=
 fun_ok (loops := lkup [(7, ⟨[.box 107 [.str, .int .i64, .bool, .srow 110, .srow 9]], [(0, .srow 107), (1, .int .i64), (5, .ptr 0 0), (6, .int .i64)]⟩), (19, ⟨[.box 107 [.str, .int .i64, .bool, .srow 110, .srow 9]], [(5, .ptr 0 0), (8, .int .i64)]⟩)]) (joins := lkup [(23, .light [(52, .bool)]), (47, .light [(92, .bool)]), (51, .light [(107, .bool)])]) (md := mdL []) (L := [(56, K56), (57, K57), (109, K109), (110, K110)]) (res := [.tmp 4]) (code := C84) (fn := Tryd.f84) TOKp EOKp MIXp (lkup_cons T56 (lkup_cons T57 (lkup_cons T109 (lkup_cons T110 lkup_nil)))) Tryd.func84 (by kernel_rfl) (by kernel_rfl) (of_decide_eq_false (by kernel_rfl)) (by kernel_rfl) (fun k ds => by kernel_rfl)
def B90x0 (k3 : Nat) (rec4 : List D → Option (List D)) (ds5 : List D) : Option (List D) :=
 bif decide ((gt ds5 2).i < (gt ds5 1).i) then
  bif ((inRow ((gt ds5 2).i) (((gt ds5 0).r).length)) && true) then
   bif ((ByteArray.toList (((elAt ((gt ds5 0).r) ((gt ds5 2).i)).c 0).s)) == (ByteArray.toList ((gt ds5 4).s))) then
    some [D.bool ((gt ds5 3).b), D.bool (decide ((gt ds5 2).i ≥ 0)), D.str ((gt ds5 4).s), D.int ((gt ds5 5).i), D.bool ((gt ds5 6).b), D.row ((gt ds5 7).r), D.row ((gt ds5 8).r)]
   else rec4 [D.row ((gt ds5 0).r), D.int ((gt ds5 1).i), D.int (Go.IntKind.i64.wrap ((gt ds5 2).i + 1)), D.bool ((gt ds5 3).b), D.str ((gt ds5 4).s), D.int ((gt ds5 5).i), D.bool ((gt ds5 6).b), D.row ((gt ds5 7).r), D.row ((gt ds5 8).r)]
  else none
 else some [D.bool ((gt ds5 3).b), D.bool false, D.str ((gt ds5 4).s), D.int ((gt ds5 5).i), D.bool ((gt ds5 6).b), D.row ((gt ds5 7).r), D.row ((gt ds5 8).r)]
def B90x1 (k9 : Nat) (rec10 : List D → Option (List D)) (ds11 : List D) : Option (List D) :=
 bif decide ((gt ds11 3).i < (gt ds11 2).i) then
  bif ((inRow ((gt ds11 3).i) (((gt ds11 1).r).length)) && true) then
   (F122 k9 [D.str ((elAt ((gt ds11 1).r) ((gt ds11 3).i)).s)]).bind fun ds12 =>
   bif (!(gt ds12 0).b) then
    some [D.int 5]
   else (bif decide ((gt ds11 3).i > 0) then
     bif ((inRow (Go.IntKind.i64.wrap ((gt ds11 3).i - 1)) (((gt ds11 8).r).length)) && true) then
      some [D.bool ((Go.Op.bytesLess (ByteArray.toList ((elAt ((gt ds11 1).r) ((gt ds11 3).i)).s)) (ByteArray.toList ((elAt ((gt ds11 8).r) (Go.IntKind.i64.wrap ((gt ds11 3).i - 1))).s))) || ((ByteArray.toList ((elAt ((gt ds11 1).r) ((gt ds11 3).i)).s)) == (ByteArray.toList ((elAt ((gt ds11 8).r) (Go.IntKind.i64.wrap ((gt ds11 3).i - 1))).s))))]
     else none
    else some [D.bool false]).bind fun ds13 =>
   bif (gt ds13 0).b then
    some [D.int 8]
   else rec10 [D.bool ((gt ds11 0).b), D.row ((gt ds11 1).r), D.int ((gt ds11 2).i), D.int (Go.IntKind.i64.wrap ((gt ds11 3).i + 1)), D.str ((gt ds11 4).s), D.int ((gt ds11 5).i), D.bool ((gt ds11 6).b), D.row ((gt ds11 7).r), D.row ((gt ds11 8).r)]
  else none
 else (bif ((gt ds11 5).i == 1) then
   some [D.bool ((gt ds11 0).b)]
  else some [D.bool false]).bind fun ds14 =>
 bif (gt ds14 0).b then
  some [D.int 12]
 else some [D.int 0]
/-- interchange/reply.messageFault -/
def F90 (k : Nat) (ds : List D) : Option (List D) :=
 (bif decide ((((gt ds 3).r).length : Int) > 0) then
   some [D.bool true]
  else some [D.bool (decide ((((gt ds 4).r).length : Int) > 0))]).bind fun ds0 =>
 (F60 k [D.str ((gt ds 0).s)]).bind fun ds1 =>
 bif (!(gt ds1 0).b) then
  some [D.int 3]
 else (F61 k [D.int ((gt ds 1).i)]).bind fun ds2 =>
 bif (!(gt ds2 0).b) then
  some [D.int 4]
 else (iter B90x0 k [D.row ((gt ds 5).r), D.int (((gt ds 5).r).length : Int), D.int 0, D.bool ((gt ds0 0).b), D.str ((gt ds 0).s), D.int ((gt ds 1).i), D.bool ((gt ds 2).b), D.row ((gt ds 3).r), D.row ((gt ds 4).r)]).bind fun ds6 =>
 bif (gt ds6 1).b then
  some [D.int 7]
 else (bif (gt ds6 4).b then
   bif ((gt ds6 3).i != 3) then
    some [D.bool true]
   else some [D.bool ((gt ds6 0).b)]
  else some [D.bool false]).bind fun ds7 =>
 bif (gt ds7 0).b then
  some [D.int 12]
 else (F121 k [D.row ((gt ds6 5).r)]).bind fun ds8 =>
 bif ((gt ds8 0).i != 0) then
  some [D.int ((gt ds8 0).i)]
 else bif decide ((((gt ds6 6).r).length : Int) > 200) then
  some [D.int 2]
 else iter B90x1 k [D.bool ((gt ds6 0).b), D.row ((gt ds6 6).r), D.int (((gt ds6 6).r).length : Int), D.int 0, D.str ((gt ds6 2).s), D.int ((gt ds6 3).i), D.bool ((gt ds6 4).b), D.row ((gt ds6 5).r), D.row ((gt ds6 6).r)]
def K90 : Callee := ⟨[.agg [.str, .int .i64, .bool, .seen 110, .seen 9], .seen 107], [.int .i64], F90⟩
noncomputable def C90 : Code := match Tryd.f90.body with | some c => c | none => .skip
noncomputable def C120 : Code := match Tryd.f120.body with | some c => c | none => .skip
/-- interchange/reply.messageFault$1, in place -/
noncomputable def X90_3 : Inl := inlOf (tyTab TL) ⟨lkup [], lkup [], mdL [], envL [(60, K60), (61, K61), (121, K121), (122, K122)], itr, inlL [], hasL [], 3000⟩ C120 [.tmp 3]
theorem O90_3 : InlOK Tryd.prog (tyTab TL) 120 X90_3 :=
 inl_ok TOKp EOKp MIXp (lkup_cons T60 (lkup_cons T61 (lkup_cons T121 (lkup_cons T122 lkup_nil)))) inlL_nil (fn := Tryd.f120) Tryd.func120 (by kernel_rfl) (by kernel_rfl) (of_decide_eq_false (by kernel_rfl)) (by kernel_rfl)
noncomputable def C139 : Code := match Tryd.f139.body with | some c => c | none => .skip
/-- slices.IndexFunc[[]interchange/api.MessageReply,interchange/api.MessageReply], in place -/
noncomputable def X90_2 : Inl := inlOf (tyTab TL) ⟨lkup [(2, ⟨[.box 107 [.str, .int .i64, .bool, .srow 110, .srow 9]], [(0, .srow 107), (1, .clo 120 [(0, 0)]), (7, .int .i64), (8, .int .i64), (2000002, .ptr 0 0), (2000005, .bool)]⟩)], lkup [], mdL [], envL [(60, K60), (61, K61), (121, K121), (122, K122)], itr, inlL [(2004, 5, 120, X90_3)], hasL [(2004, 5, 120, X90_3)], 2000⟩ C139 [.tmp 4]
theorem O90_2 : InlOK Tryd.prog (tyTab TL) 139 X90_2 :=
 inl_ok TOKp EOKp MIXp (lkup_cons T60 (lkup_cons T61 (lkup_cons T121 (lkup_cons T122 lkup_nil)))) (inlL_cons O90_3 inlL_nil) (fn := Tryd.f139) Tryd.func139 (by kernel_rfl) (by kernel_rfl) (of_decide_eq_false (by kernel_rfl)) (by kernel_rfl)
noncomputable def C119 : Code := match Tryd.f119.body with | some c => c | none => .skip
/-- slices.ContainsFunc[[]interchange/api.MessageReply,interchange/api.MessageReply], in place -/
noncomputable def X90_1 : Inl := inlOf (tyTab TL) ⟨lkup [], lkup [], mdL [], envL [(60, K60), (61, K61), (121, K121), (122, K122)], itr, inlL [(1001, 2, 139, X90_2)], hasL [(1001, 2, 139, X90_2)], 1000⟩ C119 [.tmp 4]
theorem O90_1 : InlOK Tryd.prog (tyTab TL) 119 X90_1 :=
 inl_ok TOKp EOKp MIXp (lkup_cons T60 (lkup_cons T61 (lkup_cons T121 (lkup_cons T122 lkup_nil)))) (inlL_cons O90_2 inlL_nil) (fn := Tryd.f119) Tryd.func119 (by kernel_rfl) (by kernel_rfl) (of_decide_eq_false (by kernel_rfl)) (by kernel_rfl)
theorem T90 : FunOK Tryd.prog (tyTab TL) 90 K90 :=
 fun_ok_i (loops := lkup [(16, ⟨[.box 107 [.str, .int .i64, .bool, .srow 110, .srow 9]], [(2, .ptr 0 0), (5, .bool), (55, .srow 9), (56, .int .i64), (57, .int .i64)]⟩)]) (joins := lkup [(3, .light [(5, .bool)]), (13, .full ⟨[.box 107 [.str, .int .i64, .bool, .srow 110, .srow 9]], [(2, .ptr 0 0), (5, .bool), (29, .bool)]⟩), (17, .light [(33, .bool)]), (41, .light [(76, .bool)]), (47, .light [(83, .bool)])]) (md := mdL []) (L := [(60, K60), (61, K61), (121, K121), (122, K122)]) (I := [(6, 2, 119, X90_1)]) (res := [.tmp 4]) (code := C90) (fn := Tryd.f90) TOKp EOKp MIXp (lkup_cons T60 (lkup_cons T61 (lkup_cons T121 (lkup_cons T122 lkup_nil)))) (inlL_cons O90_1 inlL_nil) Tryd.func90 (by kernel_rfl) (by kernel_rfl) (of_decide_eq_false (by kernel_rfl)) (by kernel_rfl) (fun k ds => by kernel_rfl)
def B92x0 (k0 : Nat) (rec1 : List D → Option (List D)) (ds2 : List D) : Option (List D) :=
 bif decide ((gt ds2 2).i < (gt ds2 1).i) then
  bif ((inRow ((gt ds2 2).i) (((gt ds2 0).r).length)) && true) then
   bif ((elAt ((gt ds2 0).r) ((gt ds2 2).i)).i != (gt ds2 4).i) then
    some [D.row ((gt ds2 3).r), D.bool (!decide ((gt ds2 2).i ≥ 0))]
   else rec1 [D.row ((gt ds2 0).r), D.int ((gt ds2 1).i), D.int (Go.IntKind.i64.wrap ((gt ds2 2).i + 1)), D.row ((gt ds2 3).r), D.int ((gt ds2 4).i)]
  else none
 else some [D.row ((gt ds2 3).r), D.bool true]
def B92x1 (k4 : Nat) (rec5 : List D → Option (List D)) (ds6 : List D) : Option (List D) :=
 bif decide ((gt ds6 2).i < (gt ds6 1).i) then
  bif ((inRow ((gt ds6 2).i) (((gt ds6 0).r).length)) && true) then
   bif ((elAt ((gt ds6 0).r) ((gt ds6 2).i)).i != (gt ds6 3).i) then
    some [D.bool (!decide ((gt ds6 2).i ≥ 0))]
   else rec5 [D.row ((gt ds6 0).r), D.int ((gt ds6 1).i), D.int (Go.IntKind.i64.wrap ((gt ds6 2).i + 1)), D.int ((gt ds6 3).i)]
  else none
 else some [D.bool true]
/-- interchange/reply.together -/
def F92 (k : Nat) (ds : List D) : Option (List D) :=
 (iter B92x0 k [D.row ((gt ds 0).r), D.int (((gt ds 0).r).length : Int), D.int 0, D.row ((gt ds 0).r), D.int 1]).bind fun ds3 =>
 bif (gt ds3 1).b then
  some [D.int 1]
 else (iter B92x1 k [D.row ((gt ds3 0).r), D.int (((gt ds3 0).r).length : Int), D.int 0, D.int 3]).bind fun ds7 =>
 bif (gt ds7 0).b then
  some [D.int 3]
 else some [D.int 2]
def K92 : Callee := ⟨[.seen 3], [.int .i64], F92⟩
noncomputable def C92 : Code := match Tryd.f92.body with | some c => c | none => .skip
noncomputable def C124 : Code := match Tryd.f124.body with | some c => c | none => .skip
/-- interchange/reply.together$1$1, in place -/
noncomputable def X92_8 : Inl := inlOf (tyTab TL) ⟨lkup [], lkup [], mdL [], envL [], itr, inlL [], hasL [], 8000⟩ C124 [.tmp 3]
theorem O92_8 : InlOK Tryd.prog (tyTab TL) 124 X92_8 :=
 inl_ok TOKp EOKp MIXp lkup_nil inlL_nil (fn := Tryd.f124) Tryd.func124 (by kernel_rfl) (by kernel_rfl) (of_decide_eq_false (by kernel_rfl)) (by kernel_rfl)
noncomputable def C141 : Code := match Tryd.f141.body with | some c => c | none => .skip
/-- slices.IndexFunc[[]int,int], in place -/
noncomputable def X92_7 : Inl := inlOf (tyTab TL) ⟨lkup [(2, ⟨[.box 3 [.int .i64]], [(0, .srow 3), (1, .clo 124 [(0, 0)]), (7, .int .i64), (8, .int .i64)]⟩)], lkup [], mdL [], envL [], itr, inlL [(7004, 5, 124, X92_8)], hasL [(7004, 5, 124, X92_8)], 7000⟩ C141 [.tmp 4]
theorem O92_7 : InlOK Tryd.prog (tyTab TL) 141 X92_7 :=
 inl_ok TOKp EOKp MIXp lkup_nil (inlL_cons O92_8 inlL_nil) (fn := Tryd.f141) Tryd.func141 (by kernel_rfl) (by kernel_rfl) (of_decide_eq_false (by kernel_rfl)) (by kernel_rfl)
noncomputable def C125 : Code := match Tryd.f125.body with | some c => c | none => .skip
/-- slices.ContainsFunc[[]int,int], in place -/
noncomputable def X92_6 : Inl := inlOf (tyTab TL) ⟨lkup [], lkup [], mdL [], envL [], itr, inlL [(6001, 2, 141, X92_7)], hasL [(6001, 2, 141, X92_7)], 6000⟩ C125 [.tmp 4]
theorem O92_6 : InlOK Tryd.prog (tyTab TL) 125 X92_6 :=
 inl_ok TOKp EOKp MIXp lkup_nil (inlL_cons O92_7 inlL_nil) (fn := Tryd.f125) Tryd.func125 (by kernel_rfl) (by kernel_rfl) (of_decide_eq_false (by kernel_rfl)) (by kernel_rfl)
noncomputable def C123 : Code := match Tryd.f123.body with | some c => c | none => .skip
/-- interchange/reply.together$1, in place -/
noncomputable def X92_5 : Inl := inlOf (tyTab TL) ⟨lkup [], lkup [], mdL [], envL [], itr, inlL [], hasL [], 5000⟩ C123 [.tmp 2]
theorem O92_5 : InlOK Tryd.prog (tyTab TL) 123 X92_5 :=
 inl_ok TOKp EOKp MIXp lkup_nil inlL_nil (fn := Tryd.f123) Tryd.func123 (by kernel_rfl) (by kernel_rfl) (of_decide_eq_false (by kernel_rfl)) (by kernel_rfl)
/-- interchange/reply.together$1$1, in place -/
noncomputable def X92_4 : Inl := inlOf (tyTab TL) ⟨lkup [], lkup [], mdL [], envL [], itr, inlL [], hasL [], 4000⟩ C124 [.tmp 3]
theorem O92_4 : InlOK Tryd.prog (tyTab TL) 124 X92_4 :=
 inl_ok TOKp EOKp MIXp lkup_nil inlL_nil (fn := Tryd.f124) Tryd.func124 (by kernel_rfl) (by kernel_rfl) (of_decide_eq_false (by kernel_rfl)) (by kernel_rfl)
/-- slices.IndexFunc[[]int,int], in place -/
noncomputable def X92_3 : Inl := inlOf (tyTab TL) ⟨lkup [(2, ⟨[.box 3 [.int .i64]], [(0, .srow 3), (1, .clo 124 [(0, 0)]), (7, .int .i64), (8, .int .i64), (2000000, .srow 3), (2000003, .clo 123 [])]⟩)], lkup [], mdL [], envL [], itr, inlL [(3004, 5, 124, X92_4)], hasL [(3004, 5, 124, X92_4)], 3000⟩ C141 [.tmp 4]
theorem O92_3 : InlOK Tryd.prog (tyTab TL) 141 X92_3 :=
 inl_ok TOKp EOKp MIXp lkup_nil (inlL_cons O92_4 inlL_nil) (fn := Tryd.f141) Tryd.func141 (by kernel_rfl) (by kernel_rfl) (of_decide_eq_false (by kernel_rfl)) (by kernel_rfl)
/-- slices.ContainsFunc[[]int,int], in place -/
noncomputable def X92_2 : Inl := inlOf (tyTab TL) ⟨lkup [], lkup [], mdL [], envL [], itr, inlL [(2001, 2, 141, X92_3)], hasL [(2001, 2, 141, X92_3)], 2000⟩ C125 [.tmp 4]
theorem O92_2 : InlOK Tryd.prog (tyTab TL) 125 X92_2 :=
 inl_ok TOKp EOKp MIXp lkup_nil (inlL_cons O92_3 inlL_nil) (fn := Tryd.f125) Tryd.func125 (by kernel_rfl) (by kernel_rfl) (of_decide_eq_false (by kernel_rfl)) (by kernel_rfl)
/-- interchange/reply.together$1, in place -/
noncomputable def X92_1 : Inl := inlOf (tyTab TL) ⟨lkup [], lkup [], mdL [], envL [], itr, inlL [], hasL [], 1000⟩ C123 [.tmp 2]
theorem O92_1 : InlOK Tryd.prog (tyTab TL) 123 X92_1 :=
 inl_ok TOKp EOKp MIXp lkup_nil inlL_nil (fn := Tryd.f123) Tryd.func123 (by kernel_rfl) (by kernel_rfl) (of_decide_eq_false (by kernel_rfl)) (by kernel_rfl)
theorem T92 : FunOK Tryd.prog (tyTab TL) 92 K92 :=
 fun_ok_i (loops := lkup []) (joins := lkup [(5, .full ⟨[], [(0, .srow 3), (3, .clo 123 []), (4, .bool)]⟩), (9, .full ⟨[], [(10, .bool)]⟩)]) (md := mdL []) (L := []) (I := [(2, 2, 123, X92_1), (2, 3, 125, X92_2), (4, 2, 123, X92_5), (4, 3, 125, X92_6)]) (res := [.tmp 2]) (code := C92) (fn := Tryd.f92) TOKp EOKp MIXp lkup_nil (inlL_cons O92_1 (inlL_cons O92_2 (inlL_cons O92_5 (inlL_cons O92_6 inlL_nil)))) Tryd.func92 (by kernel_rfl) (by kernel_rfl) (of_decide_eq_false (by kernel_rfl)) (by kernel_rfl) (fun k ds => by kernel_rfl)
/-- interchange/interchangelaw7.awake -/
def F31 (k : Nat) (ds : List D) : Option (List D) :=
 (F65 k [D.row [D.agg [D.int 1, D.int 0, D.int 0, D.str (ByteArray.mk #[65]), D.int 0]], D.int 0]).bind fun ds0 =>
 bif ((gt ds0 6).i == 0) then
  some [D.bool ((gt ds0 0).i == 1)]
 else some [D.bool false]
def K31 : Callee := ⟨[], [.bool], F31⟩
noncomputable def C31 : Code := match Tryd.f31.body with | some c => c | none => .skip
theorem T31 : FunOK Tryd.prog (tyTab TL) 31 K31 :=
 fun_ok (loops := lkup []) (joins := lkup []) (md := mdL []) (L := [(65, K65)]) (res := [.tmp 0]) (code := C31) (fn := Tryd.f31) TOKp EOKp MIXp (lkup_cons T65 lkup_nil) Tryd.func31 (by kernel_rfl) (by kernel_rfl) (of_decide_eq_false (by kernel_rfl)) (by kernel_rfl) (fun k ds => by kernel_rfl)
def B58x0 (k5 : Nat) (rec6 : List D → Option (List D)) (ds7 : List D) : Option (List D) :=
 bif decide ((gt ds7 0).i < (((gt ds7 3).r).length : Int)) then
  (F84 k5 [D.row ((gt ds7 3).r), D.int ((gt ds7 0).i)]).bind fun ds8 =>
  bif ((gt ds8 0).i != 0) then
   some [D.int ((gt ds8 0).i)]
  else rec6 [D.int (Go.IntKind.i64.wrap ((gt ds7 0).i + 1)), D.str ((gt ds7 1).s), D.int ((gt ds7 2).i), D.row ((gt ds7 3).r)]
 else (F85 k5 [D.str ((gt ds7 1).s), D.int ((gt ds7 2).i), D.row ((gt ds7 3).r)]).bind fun ds9 =>
 bif ((gt ds7 2).i != (gt ds9 0).i) then
  some [D.int 12]
 else some [D.int 0]
def B58x1 (k2 : Nat) (rec3 : List D → Option (List D)) (ds4 : List D) : Option (List D) :=
 bif decide ((gt ds4 2).i < (gt ds4 1).i) then
  bif ((inRow ((gt ds4 2).i) (((gt ds4 0).r).length)) && true) then
   bif ((ByteArray.toList (((elAt ((gt ds4 0).r) ((gt ds4 2).i)).c 0).s)) == (ByteArray.toList ((gt ds4 3).s))) then
    some [D.int 7]
   else rec3 [D.row ((gt ds4 0).r), D.int ((gt ds4 1).i), D.int (Go.IntKind.i64.wrap ((gt ds4 2).i + 1)), D.str ((gt ds4 3).s), D.int ((gt ds4 4).i), D.row ((gt ds4 5).r)]
  else none
 else iter B58x0 k2 [D.int 0, D.str ((gt ds4 3).s), D.int ((gt ds4 4).i), D.row ((gt ds4 5).r)]
/-- interchange/interchangeref7.checkGroup -/
def F58 (k : Nat) (ds : List D) : Option (List D) :=
 bif ((inRow ((gt ds 1).i) (((gt ds 0).r).length)) && true) then
  (F56 k [D.str (((elAt ((gt ds 0).r) ((gt ds 1).i)).c 0).s)]).bind fun ds0 =>
  bif (!(gt ds0 0).b) then
   some [D.int 3]
  else (F57 k [D.int (((elAt ((gt ds 0).r) ((gt ds 1).i)).c 1).i)]).bind fun ds1 =>
  bif (!(gt ds1 0).b) then
   some [D.int 4]
  else iter B58x1 k [D.row ((gt ds 0).r), D.int ((gt ds 1).i), D.int 0, D.str (((elAt ((gt ds 0).r) ((gt ds 1).i)).c 0).s), D.int (((elAt ((gt ds 0).r) ((gt ds 1).i)).c 1).i), D.row (((elAt ((gt ds 0).r) ((gt ds 1).i)).c 2).r)]
 else none
def K58 : Callee := ⟨[.seen 104, .int .i64], [.int .i64], F58⟩
noncomputable def C58 : Code := match Tryd.f58.body with | some c => c | none => .skip
theorem T58 : FunOK Tryd.prog (tyTab TL) 58 K58 :=
 fun_ok (loops := lkup [(7, ⟨[.box 104 [.str, .int .i64, .srow 107]], [(0, .srow 104), (1, .int .i64), (5, .ptr 0 0), (6, .int .i64)]⟩), (12, ⟨[.box 104 [.str, .int .i64, .srow 107]], [(5, .ptr 0 0), (7, .int .i64)]⟩)]) (joins := lkup []) (md := mdL []) (L := [(56, K56), (57, K57), (84, K84), (85, K85)]) (res := [.tmp 4]) (code := C58) (fn := Tryd.f58) TOKp EOKp MIXp (lkup_cons T56 (lkup_cons T57 (lkup_cons T84 (lkup_cons T85 lkup_nil)))) Tryd.func58 (by kernel_rfl) (by kernel_rfl) (of_decide_eq_false (by kernel_rfl)) (by kernel_rfl) (fun k ds => by kernel_rfl)
def B63x0 (k0 : Nat) (rec1 : List D → Option (List D)) (ds2 : List D) : Option (List D) :=
 bif decide ((gt ds2 2).i < (gt ds2 1).i) then
  bif ((inRow ((gt ds2 2).i) (((gt ds2 0).r).length)) && true) then
   bif (needOk (((gt ds2 3).r).length + [D.int (((elAt ((gt ds2 0).r) ((gt ds2 2).i)).c 1).i)].length) 8) then
    rec1 [D.row ((gt ds2 0).r), D.int ((gt ds2 1).i), D.int (Go.IntKind.i64.wrap ((gt ds2 2).i + 1)), D.row ((gt ds2 3).r ++ [D.int (((elAt ((gt ds2 0).r) ((gt ds2 2).i)).c 1).i)])]
   else none
  else none
 else (F92 k0 [D.row ((gt ds2 3).r)]).bind fun ds3 =>
 some [D.int ((gt ds3 0).i)]
/-- interchange/reply.verdictOf -/
def F63 (k : Nat) (ds : List D) : Option (List D) :=
 iter B63x0 k [D.row ((gt ds 2).r), D.int (((gt ds 2).r).length : Int), D.int 0, D.row []]
def K63 : Callee := ⟨[.agg [.str, .int .i64, .seen 104]], [.int .i64], F63⟩
noncomputable def C63 : Code := match Tryd.f63.body with | some c => c | none => .skip
theorem T63 : FunOK Tryd.prog (tyTab TL) 63 K63 :=
 fun_ok (loops := lkup [(3, ⟨[.row 3 false], [(3, .orow 0), (7, .srow 104), (8, .int .i64), (9, .int .i64)]⟩)]) (joins := lkup []) (md := mdL []) (L := [(92, K92)]) (res := [.tmp 2]) (code := C63) (fn := Tryd.f63) TOKp EOKp MIXp (lkup_cons T92 lkup_nil) Tryd.func63 (by kernel_rfl) (by kernel_rfl) (of_decide_eq_false (by kernel_rfl)) (by kernel_rfl) (fun k ds => by kernel_rfl)
def B91x0 (k0 : Nat) (rec1 : List D → Option (List D)) (ds2 : List D) : Option (List D) :=
 bif decide ((gt ds2 2).i < (gt ds2 1).i) then
  bif ((inRow ((gt ds2 2).i) (((gt ds2 0).r).length)) && true) then
   bif (needOk (((gt ds2 3).r).length + [D.int (((elAt ((gt ds2 0).r) ((gt ds2 2).i)).c 1).i)].length) 8) then
    rec1 [D.row ((gt ds2 0).r), D.int ((gt ds2 1).i), D.int (Go.IntKind.i64.wrap ((gt ds2 2).i + 1)), D.row ((gt ds2 3).r ++ [D.int (((elAt ((gt ds2 0).r) ((gt ds2 2).i)).c 1).i)])]
   else none
  else none
 else (F92 k0 [D.row ((gt ds2 3).r)]).bind fun ds3 =>
 some [D.int ((gt ds3 0).i)]
/-- interchange/reply.verdictOfGroup -/
def F91 (k : Nat) (ds : List D) : Option (List D) :=
 iter B91x0 k [D.row ((gt ds 2).r), D.int (((gt ds 2).r).length : Int), D.int 0, D.row []]
def K91 : Callee := ⟨[.agg [.str, .int .i64, .seen 107]], [.int .i64], F91⟩
noncomputable def C91 : Code := match Tryd.f91.body with | some c => c | none => .skip
theorem T91 : FunOK Tryd.prog (tyTab TL) 91 K91 :=
 fun_ok (loops := lkup [(3, ⟨[.row 3 false], [(3, .orow 0), (7, .srow 107), (8, .int .i64), (9, .int .i64)]⟩)]) (joins := lkup []) (md := mdL []) (L := [(92, K92)]) (res := [.tmp 2]) (code := C91) (fn := Tryd.f91) TOKp EOKp MIXp (lkup_cons T92 lkup_nil) Tryd.func91 (by kernel_rfl) (by kernel_rfl) (of_decide_eq_false (by kernel_rfl)) (by kernel_rfl) (fun k ds => by kernel_rfl)
def B28x0 (k2 : Nat) (rec3 : List D → Option (List D)) (ds4 : List D) : Option (List D) :=
 bif decide ((gt ds4 1).i < (((gt ds4 4).r).length : Int)) then
  (F58 k2 [D.row ((gt ds4 4).r), D.int ((gt ds4 1).i)]).bind fun ds5 =>
  bif ((gt ds5 0).i != 0) then
   some [D.int ((gt ds5 0).i)]
  else bif ((inRow ((gt ds4 1).i) (((gt ds4 4).r).length)) && true) then
   rec3 [D.int (Go.IntKind.i64.wrap ((gt ds4 0).i + ((((elAt ((gt ds4 4).r) ((gt ds4 1).i)).c 2).r).length : Int))), D.int (Go.IntKind.i64.wrap ((gt ds4 1).i + 1)), D.str ((gt ds4 2).s), D.int ((gt ds4 3).i), D.row ((gt ds4 4).r)]
  else none
 else bif decide ((gt ds4 0).i > 200) then
  some [D.int 2]
 else (F59 k2 [D.str ((gt ds4 2).s), D.int ((gt ds4 3).i), D.row ((gt ds4 4).r)]).bind fun ds6 =>
 bif ((gt ds4 3).i != (gt ds6 0).i) then
  some [D.int 12]
 else some [D.int 0]
/-- interchange/interchangeref7.CheckReply -/
def F28 (k : Nat) (ds : List D) : Option (List D) :=
 (F56 k [D.str ((gt ds 0).s)]).bind fun ds0 =>
 bif (!(gt ds0 0).b) then
  some [D.int 3]
 else (F57 k [D.int ((gt ds 1).i)]).bind fun ds1 =>
 bif (!(gt ds1 0).b) then
  some [D.int 4]
 else bif decide ((((gt ds 2).r).length : Int) > 50) then
  some [D.int 2]
 else iter B28x0 k [D.int 0, D.int 0, D.str ((gt ds 0).s), D.int ((gt ds 1).i), D.row ((gt ds 2).r)]
def K28 : Callee := ⟨[.agg [.str, .int .i64, .seen 104]], [.int .i64], F28⟩
noncomputable def C28 : Code := match Tryd.f28.body with | some c => c | none => .skip
theorem T28 : FunOK Tryd.prog (tyTab TL) 28 K28 :=
 fun_ok (loops := lkup [(9, ⟨[.box 57 [.str, .int .i64, .srow 104]], [(1, .ptr 0 0), (3, .int .i64), (4, .int .i64)]⟩)]) (joins := lkup []) (md := mdL []) (L := [(56, K56), (57, K57), (58, K58), (59, K59)]) (res := [.tmp 2]) (code := C28) (fn := Tryd.f28) TOKp EOKp MIXp (lkup_cons T56 (lkup_cons T57 (lkup_cons T58 (lkup_cons T59 lkup_nil)))) Tryd.func28 (by kernel_rfl) (by kernel_rfl) (of_decide_eq_false (by kernel_rfl)) (by kernel_rfl) (fun k ds => by kernel_rfl)
def B62x0 (k2 : Nat) (rec3 : List D → Option (List D)) (ds4 : List D) : Option (List D) :=
 bif decide ((gt ds4 2).i < (gt ds4 1).i) then
  bif ((inRow ((gt ds4 2).i) (((gt ds4 0).r).length)) && true) then
   bif ((ByteArray.toList (((elAt ((gt ds4 0).r) ((gt ds4 2).i)).c 0).s)) == (ByteArray.toList ((gt ds4 3).s))) then
    some [D.bool (decide ((gt ds4 2).i ≥ 0)), D.str ((gt ds4 3).s), D.int ((gt ds4 4).i), D.row ((gt ds4 5).r)]
   else rec3 [D.row ((gt ds4 0).r), D.int ((gt ds4 1).i), D.int (Go.IntKind.i64.wrap ((gt ds4 2).i + 1)), D.str ((gt ds4 3).s), D.int ((gt ds4 4).i), D.row ((gt ds4 5).r)]
  else none
 else some [D.bool false, D.str ((gt ds4 3).s), D.int ((gt ds4 4).i), D.row ((gt ds4 5).r)]
def B62x1 (k6 : Nat) (rec7 : List D → Option (List D)) (ds8 : List D) : Option (List D) :=
 bif decide ((gt ds8 2).i < (gt ds8 1).i) then
  bif ((inRow ((gt ds8 2).i) (((gt ds8 0).r).length)) && true) then
   bif (decide (0 ≤ (gt ds8 2).i) && decide ((gt ds8 2).i ≤ (((gt ds8 5).r).length : Int))) then
    (F90 k6 [D.str (((elAt ((gt ds8 0).r) ((gt ds8 2).i)).c 0).s), D.int (((elAt ((gt ds8 0).r) ((gt ds8 2).i)).c 1).i), D.bool (((elAt ((gt ds8 0).r) ((gt ds8 2).i)).c 2).b), D.row (((elAt ((gt ds8 0).r) ((gt ds8 2).i)).c 3).r), D.row (((elAt ((gt ds8 0).r) ((gt ds8 2).i)).c 4).r), D.row (List.drop 0 (List.take (Int.toNat ((gt ds8 2).i)) ((gt ds8 5).r)))]).bind fun ds9 =>
    bif ((gt ds9 0).i != 0) then
     some [D.int ((gt ds9 0).i)]
    else rec7 [D.row ((gt ds8 0).r), D.int ((gt ds8 1).i), D.int (Go.IntKind.i64.wrap ((gt ds8 2).i + 1)), D.str ((gt ds8 3).s), D.int ((gt ds8 4).i), D.row ((gt ds8 5).r)]
   else none
  else none
 else (F91 k6 [D.str ((gt ds8 3).s), D.int ((gt ds8 4).i), D.row ((gt ds8 5).r)]).bind fun ds10 =>
 bif ((gt ds10 0).i != (gt ds8 4).i) then
  some [D.int 12]
 else some [D.int 0]
/-- interchange/reply.groupFault -/
def F62 (k : Nat) (ds : List D) : Option (List D) :=
 (F60 k [D.str ((gt ds 0).s)]).bind fun ds0 =>
 bif (!(gt ds0 0).b) then
  some [D.int 3]
 else (F61 k [D.int ((gt ds 1).i)]).bind fun ds1 =>
 bif (!(gt ds1 0).b) then
  some [D.int 4]
 else (iter B62x0 k [D.row ((gt ds 3).r), D.int (((gt ds 3).r).length : Int), D.int 0, D.str ((gt ds 0).s), D.int ((gt ds 1).i), D.row ((gt ds 2).r)]).bind fun ds5 =>
 bif (gt ds5 0).b then
  some [D.int 7]
 else iter B62x1 k [D.row ((gt ds5 3).r), D.int (((gt ds5 3).r).length : Int), D.int 0, D.str ((gt ds5 1).s), D.int ((gt ds5 2).i), D.row ((gt ds5 3).r)]
def K62 : Callee := ⟨[.agg [.str, .int .i64, .seen 107], .seen 104], [.int .i64], F62⟩
noncomputable def C62 : Code := match Tryd.f62.body with | some c => c | none => .skip
noncomputable def C89 : Code := match Tryd.f89.body with | some c => c | none => .skip
/-- interchange/reply.groupFault$1, in place -/
noncomputable def X62_3 : Inl := inlOf (tyTab TL) ⟨lkup [], lkup [], mdL [], envL [(60, K60), (61, K61), (90, K90), (91, K91)], itr, inlL [], hasL [], 3000⟩ C89 [.tmp 3]
theorem O62_3 : InlOK Tryd.prog (tyTab TL) 89 X62_3 :=
 inl_ok TOKp EOKp MIXp (lkup_cons T60 (lkup_cons T61 (lkup_cons T90 (lkup_cons T91 lkup_nil)))) inlL_nil (fn := Tryd.f89) Tryd.func89 (by kernel_rfl) (by kernel_rfl) (of_decide_eq_false (by kernel_rfl)) (by kernel_rfl)
noncomputable def C118 : Code := match Tryd.f118.body with | some c => c | none => .skip
/-- slices.IndexFunc[[]interchange/api.GroupReply,interchange/api.GroupReply], in place -/
noncomputable def X62_2 : Inl := inlOf (tyTab TL) ⟨lkup [(2, ⟨[.box 104 [.str, .int .i64, .srow 107]], [(0, .srow 104), (1, .clo 89 [(0, 0)]), (7, .int .i64), (8, .int .i64), (2000002, .ptr 0 0)]⟩)], lkup [], mdL [], envL [(60, K60), (61, K61), (90, K90), (91, K91)], itr, inlL [(2004, 5, 89, X62_3)], hasL [(2004, 5, 89, X62_3)], 2000⟩ C118 [.tmp 4]
theorem O62_2 : InlOK Tryd.prog (tyTab TL) 118 X62_2 :=
 inl_ok TOKp EOKp MIXp (lkup_cons T60 (lkup_cons T61 (lkup_cons T90 (lkup_cons T91 lkup_nil)))) (inlL_cons O62_3 inlL_nil) (fn := Tryd.f118) Tryd.func118 (by kernel_rfl) (by kernel_rfl) (of_decide_eq_false (by kernel_rfl)) (by kernel_rfl)
noncomputable def C88 : Code := match Tryd.f88.body with | some c => c | none => .skip
/-- slices.ContainsFunc[[]interchange/api.GroupReply,interchange/api.GroupReply], in place -/
noncomputable def X62_1 : Inl := inlOf (tyTab TL) ⟨lkup [], lkup [], mdL [], envL [(60, K60), (61, K61), (90, K90), (91, K91)], itr, inlL [(1001, 2, 118, X62_2)], hasL [(1001, 2, 118, X62_2)], 1000⟩ C88 [.tmp 4]
theorem O62_1 : InlOK Tryd.prog (tyTab TL) 88 X62_1 :=
 inl_ok TOKp EOKp MIXp (lkup_cons T60 (lkup_cons T61 (lkup_cons T90 (lkup_cons T91 lkup_nil)))) (inlL_cons O62_2 inlL_nil) (fn := Tryd.f88) Tryd.func88 (by kernel_rfl) (by kernel_rfl) (of_decide_eq_false (by kernel_rfl)) (by kernel_rfl)
theorem T62 : FunOK Tryd.prog (tyTab TL) 62 K62 :=
 fun_ok_i (loops := lkup [(8, ⟨[.box 104 [.str, .int .i64, .srow 107]], [(2, .ptr 0 0), (23, .srow 107), (24, .int .i64), (25, .int .i64)]⟩)]) (joins := lkup [(11, .full ⟨[.box 104 [.str, .int .i64, .srow 107]], [(2, .ptr 0 0), (18, .bool)]⟩)]) (md := mdL []) (L := [(60, K60), (61, K61), (90, K90), (91, K91)]) (I := [(5, 2, 88, X62_1)]) (res := [.tmp 4]) (code := C62) (fn := Tryd.f62) TOKp EOKp MIXp (lkup_cons T60 (lkup_cons T61 (lkup_cons T90 (lkup_cons T91 lkup_nil)))) (inlL_cons O62_1 inlL_nil) Tryd.func62 (by kernel_rfl) (by kernel_rfl) (of_decide_eq_false (by kernel_rfl)) (by kernel_rfl) (fun k ds => by kernel_rfl)
def B26x0 (rec9 : List D → Option (List D)) (k18 : Nat) (rec19 : List D → Option (List D)) (ds20 : List D) : Option (List D) :=
 bif decide ((gt ds20 0).i < (((gt ds20 12).r).length : Int)) then
  bif ((inRow ((gt ds20 0).i) (((gt ds20 12).r).length)) && true) then
   (F52 k18 [D.str (ByteArray.mk #[65, 75, 82]), D.row [D.row [D.str ((elAt ((gt ds20 12).r) ((gt ds20 0).i)).s)]]]).bind fun ds21 =>
   bif (needOk (((gt ds20 7).r).length + [D.agg [D.str ((gt ds21 0).s), D.row ((gt ds21 1).r)]].length) 40) then
    rec19 [D.int (Go.IntKind.i64.wrap ((gt ds20 0).i + 1)), D.row ((gt ds20 1).r), D.int ((gt ds20 2).i), D.int ((gt ds20 3).i), D.row ((gt ds20 4).r), D.int ((gt ds20 5).i), D.int ((gt ds20 6).i), D.row ((gt ds20 7).r ++ [D.agg [D.str ((gt ds21 0).s), D.row ((gt ds21 1).r)]]), D.str ((gt ds20 8).s), D.int ((gt ds20 9).i), D.bool ((gt ds20 10).b), D.row ((gt ds20 11).r), D.row ((gt ds20 12).r)]
   else none
  else none
 else rec9 [D.row ((gt ds20 1).r), D.int ((gt ds20 2).i), D.int ((gt ds20 3).i), D.row ((gt ds20 4).r), D.int ((gt ds20 5).i), D.int (Go.IntKind.i64.wrap ((gt ds20 6).i + 1)), D.row ((gt ds20 7).r)]
def B26x1 (rec9 : List D → Option (List D)) (k14 : Nat) (rec15 : List D → Option (List D)) (ds16 : List D) : Option (List D) :=
 bif decide ((gt ds16 0).i < (((gt ds16 11).r).length : Int)) then
  bif ((inRow ((gt ds16 0).i) (((gt ds16 11).r).length)) && true) then
   (F54 k14 [D.int (((elAt ((gt ds16 11).r) ((gt ds16 0).i)).c 0).i), D.int (((elAt ((gt ds16 11).r) ((gt ds16 0).i)).c 1).i), D.int (((elAt ((gt ds16 11).r) ((gt ds16 0).i)).c 2).i), D.int (((elAt ((gt ds16 11).r) ((gt ds16 0).i)).c 3).i), D.int (((elAt ((gt ds16 11).r) ((gt ds16 0).i)).c 4).i), D.str (((elAt ((gt ds16 11).r) ((gt ds16 0).i)).c 5).s)]).bind fun ds17 =>
   bif (needOk (((gt ds16 7).r).length + [D.agg [D.str ((gt ds17 0).s), D.row ((gt ds17 1).r)]].length) 40) then
    rec15 [D.int (Go.IntKind.i64.wrap ((gt ds16 0).i + 1)), D.row ((gt ds16 1).r), D.int ((gt ds16 2).i), D.int ((gt ds16 3).i), D.row ((gt ds16 4).r), D.int ((gt ds16 5).i), D.int ((gt ds16 6).i), D.row ((gt ds16 7).r ++ [D.agg [D.str ((gt ds17 0).s), D.row ((gt ds17 1).r)]]), D.str ((gt ds16 8).s), D.int ((gt ds16 9).i), D.bool ((gt ds16 10).b), D.row ((gt ds16 11).r), D.row ((gt ds16 12).r)]
   else none
  else none
 else iter (B26x0 rec9) k14 [D.int 0, D.row ((gt ds16 1).r), D.int ((gt ds16 2).i), D.int ((gt ds16 3).i), D.row ((gt ds16 4).r), D.int ((gt ds16 5).i), D.int ((gt ds16 6).i), D.row ((gt ds16 7).r), D.str ((gt ds16 8).s), D.int ((gt ds16 9).i), D.bool ((gt ds16 10).b), D.row ((gt ds16 11).r), D.row ((gt ds16 12).r)]
def B26x2 (rec4 : List D → Option (List D)) (k8 : Nat) (rec9 : List D → Option (List D)) (ds10 : List D) : Option (List D) :=
 bif decide ((gt ds10 5).i < (gt ds10 4).i) then
  bif ((inRow ((gt ds10 5).i) (((gt ds10 3).r).length)) && true) then
   (F53 k8 [D.int (((elAt ((gt ds10 3).r) ((gt ds10 5).i)).c 1).i)]).bind fun ds11 =>
   (bif ((elAt ((gt ds10 3).r) ((gt ds10 5).i)).c 2).b then
     some [D.row ((gt ds10 0).r), D.int ((gt ds10 1).i), D.int ((gt ds10 2).i), D.row ((gt ds10 3).r), D.int ((gt ds10 4).i), D.int ((gt ds10 5).i), D.row ((gt ds10 6).r), D.str (((elAt ((gt ds10 3).r) ((gt ds10 5).i)).c 0).s), D.int (((elAt ((gt ds10 3).r) ((gt ds10 5).i)).c 1).i), D.bool (((elAt ((gt ds10 3).r) ((gt ds10 5).i)).c 2).b), D.row (((elAt ((gt ds10 3).r) ((gt ds10 5).i)).c 3).r), D.row (((elAt ((gt ds10 3).r) ((gt ds10 5).i)).c 4).r), D.row ([D.row [D.str (((elAt ((gt ds10 3).r) ((gt ds10 5).i)).c 0).s)], D.row [D.str ((gt ds11 0).s)]] ++ [D.row [D.str (ByteArray.mk #[49])]])]
    else some [D.row ((gt ds10 0).r), D.int ((gt ds10 1).i), D.int ((gt ds10 2).i), D.row ((gt ds10 3).r), D.int ((gt ds10 4).i), D.int ((gt ds10 5).i), D.row ((gt ds10 6).r), D.str (((elAt ((gt ds10 3).r) ((gt ds10 5).i)).c 0).s), D.int (((elAt ((gt ds10 3).r) ((gt ds10 5).i)).c 1).i), D.bool (((elAt ((gt ds10 3).r) ((gt ds10 5).i)).c 2).b), D.row (((elAt ((gt ds10 3).r) ((gt ds10 5).i)).c 3).r), D.row (((elAt ((gt ds10 3).r) ((gt ds10 5).i)).c 4).r), D.row [D.row [D.str (((elAt ((gt ds10 3).r) ((gt ds10 5).i)).c 0).s)], D.row [D.str ((gt ds11 0).s)]]]).bind fun ds12 =>
   (F52 k8 [D.str (ByteArray.mk #[65, 75, 77]), D.row ((gt ds12 12).r)]).bind fun ds13 =>
   bif (needOk (((gt ds12 6).r).length + [D.agg [D.str ((gt ds13 0).s), D.row ((gt ds13 1).r)]].length) 40) then
    iter (B26x1 rec9) k8 [D.int 0, D.row ((gt ds12 0).r), D.int ((gt ds12 1).i), D.int ((gt ds12 2).i), D.row ((gt ds12 3).r), D.int ((gt ds12 4).i), D.int ((gt ds12 5).i), D.row ((gt ds12 6).r ++ [D.agg [D.str ((gt ds13 0).s), D.row ((gt ds13 1).r)]]), D.str ((gt ds12 7).s), D.int ((gt ds12 8).i), D.bool ((gt ds12 9).b), D.row ((gt ds12 10).r), D.row ((gt ds12 11).r)]
   else none
  else none
 else rec4 [D.row ((gt ds10 0).r), D.int ((gt ds10 1).i), D.int (Go.IntKind.i64.wrap ((gt ds10 2).i + 1)), D.row ((gt ds10 6).r)]
def B26x3 (k3 : Nat) (rec4 : List D → Option (List D)) (ds5 : List D) : Option (List D) :=
 bif decide ((gt ds5 2).i < (gt ds5 1).i) then
  bif ((inRow ((gt ds5 2).i) (((gt ds5 0).r).length)) && true) then
   (F53 k3 [D.int (((elAt ((gt ds5 0).r) ((gt ds5 2).i)).c 1).i)]).bind fun ds6 =>
   (F52 k3 [D.str (ByteArray.mk #[65, 75, 71]), D.row [D.row [D.str (((elAt ((gt ds5 0).r) ((gt ds5 2).i)).c 0).s)], D.row [D.str ((gt ds6 0).s)]]]).bind fun ds7 =>
   bif (needOk (((gt ds5 3).r).length + [D.agg [D.str ((gt ds7 0).s), D.row ((gt ds7 1).r)]].length) 40) then
    iter (B26x2 rec4) k3 [D.row ((gt ds5 0).r), D.int ((gt ds5 1).i), D.int ((gt ds5 2).i), D.row (((elAt ((gt ds5 0).r) ((gt ds5 2).i)).c 2).r), D.int ((((elAt ((gt ds5 0).r) ((gt ds5 2).i)).c 2).r).length : Int), D.int 0, D.row ((gt ds5 3).r ++ [D.agg [D.str ((gt ds7 0).s), D.row ((gt ds7 1).r)]])]
   else none
  else none
 else bif decide ((((gt ds5 3).r).length : Int) > 2000) then
  some [D.row [], D.int 2]
 else some [D.row ((gt ds5 3).r), D.int 0]
/-- interchange/interchangeref7.Segments -/
def F26 (k : Nat) (ds : List D) : Option (List D) :=
 (F28 k [D.str ((gt ds 0).s), D.int ((gt ds 1).i), D.row ((gt ds 2).r)]).bind fun ds0 =>
 bif ((gt ds0 0).i != 0) then
  some [D.row [], D.int ((gt ds0 0).i)]
 else (F53 k [D.int ((gt ds 1).i)]).bind fun ds1 =>
 (F52 k [D.str (ByteArray.mk #[65, 75, 73]), D.row [D.row [D.str ((gt ds 0).s)], D.row [D.str ((gt ds1 0).s)]]]).bind fun ds2 =>
 iter B26x3 k [D.row ((gt ds 2).r), D.int (((gt ds 2).r).length : Int), D.int 0, D.row [D.agg [D.str ((gt ds2 0).s), D.row ((gt ds2 1).r)]]]
def K26 : Callee := ⟨[.agg [.str, .int .i64, .seen 104]], [.own 53, .int .i64], F26⟩
noncomputable def C26 : Code := match Tryd.f26.body with | some c => c | none => .skip
theorem T26 : FunOK Tryd.prog (tyTab TL) 26 K26 :=
 fun_ok (loops := lkup [(17, ⟨[.row 53 false, .box 107 [.str, .int .i64, .bool, .srow 110, .srow 9]], [(5, .orow 0), (9, .ptr 1 0), (11, .int .i64), (29, .srow 104), (30, .int .i64), (31, .int .i64), (48, .srow 107), (49, .int .i64), (50, .int .i64)]⟩), (21, ⟨[.row 53 false, .box 107 [.str, .int .i64, .bool, .srow 110, .srow 9]], [(5, .orow 0), (9, .ptr 1 0), (12, .int .i64), (29, .srow 104), (30, .int .i64), (31, .int .i64), (48, .srow 107), (49, .int .i64), (50, .int .i64)]⟩), (10, ⟨[.row 53 false], [(5, .orow 0), (29, .srow 104), (30, .int .i64), (31, .int .i64), (48, .srow 107), (49, .int .i64), (50, .int .i64)]⟩), (6, ⟨[.row 53 false], [(5, .orow 0), (29, .srow 104), (30, .int .i64), (31, .int .i64)]⟩)]) (joins := lkup [(30, .full ⟨[.row 53 false, .box 107 [.str, .int .i64, .bool, .srow 110, .srow 9], .row 100 false], [(5, .orow 0), (9, .ptr 1 0), (10, .orow 2), (29, .srow 104), (30, .int .i64), (31, .int .i64), (48, .srow 107), (49, .int .i64), (50, .int .i64)]⟩)]) (md := mdL []) (L := [(28, K28), (53, K53), (52, K52), (54, K54)]) (res := [.tmp 2, .tmp 3]) (code := C26) (fn := Tryd.f26) TOKp EOKp MIXp (lkup_cons T28 (lkup_cons T53 (lkup_cons T52 (lkup_cons T54 lkup_nil)))) Tryd.func26 (by kernel_rfl) (by kernel_rfl) (of_decide_eq_false (by kernel_rfl)) (by kernel_rfl) (fun k ds => by kernel_rfl)
def B29x0 (k2 : Nat) (rec3 : List D → Option (List D)) (ds4 : List D) : Option (List D) :=
 bif decide ((gt ds4 3).i < (gt ds4 2).i) then
  bif ((inRow ((gt ds4 3).i) (((gt ds4 1).r).length)) && true) then
   bif (decide (0 ≤ (gt ds4 3).i) && decide ((gt ds4 3).i ≤ (((gt ds4 6).r).length : Int))) then
    (F62 k2 [D.str (((elAt ((gt ds4 1).r) ((gt ds4 3).i)).c 0).s), D.int (((elAt ((gt ds4 1).r) ((gt ds4 3).i)).c 1).i), D.row (((elAt ((gt ds4 1).r) ((gt ds4 3).i)).c 2).r), D.row (List.drop 0 (List.take (Int.toNat ((gt ds4 3).i)) ((gt ds4 6).r)))]).bind fun ds5 =>
    bif ((gt ds5 0).i != 0) then
     some [D.int ((gt ds5 0).i)]
    else rec3 [D.int (Go.IntKind.i64.wrap ((gt ds4 0).i + ((((elAt ((gt ds4 1).r) ((gt ds4 3).i)).c 2).r).length : Int))), D.row ((gt ds4 1).r), D.int ((gt ds4 2).i), D.int (Go.IntKind.i64.wrap ((gt ds4 3).i + 1)), D.str ((gt ds4 4).s), D.int ((gt ds4 5).i), D.row ((gt ds4 6).r)]
   else none
  else none
 else bif decide ((gt ds4 0).i > 200) then
  some [D.int 2]
 else (F63 k2 [D.str ((gt ds4 4).s), D.int ((gt ds4 5).i), D.row ((gt ds4 6).r)]).bind fun ds6 =>
 bif ((gt ds6 0).i != (gt ds4 5).i) then
  some [D.int 12]
 else some [D.int 0]
/-- interchange/reply.CheckReply -/
def F29 (k : Nat) (ds : List D) : Option (List D) :=
 (F60 k [D.str ((gt ds 0).s)]).bind fun ds0 =>
 bif (!(gt ds0 0).b) then
  some [D.int 3]
 else (F61 k [D.int ((gt ds 1).i)]).bind fun ds1 =>
 bif (!(gt ds1 0).b) then
  some [D.int 4]
 else bif decide ((((gt ds 2).r).length : Int) > 50) then
  some [D.int 2]
 else iter B29x0 k [D.int 0, D.row ((gt ds 2).r), D.int (((gt ds 2).r).length : Int), D.int 0, D.str ((gt ds 0).s), D.int ((gt ds 1).i), D.row ((gt ds 2).r)]
def K29 : Callee := ⟨[.agg [.str, .int .i64, .seen 104]], [.int .i64], F29⟩
noncomputable def C29 : Code := match Tryd.f29.body with | some c => c | none => .skip
theorem T29 : FunOK Tryd.prog (tyTab TL) 29 K29 :=
 fun_ok (loops := lkup [(9, ⟨[.box 57 [.str, .int .i64, .srow 104]], [(1, .ptr 0 0), (3, .int .i64), (23, .srow 104), (24, .int .i64), (25, .int .i64)]⟩)]) (joins := lkup []) (md := mdL []) (L := [(60, K60), (61, K61), (62, K62), (63, K63)]) (res := [.tmp 2]) (code := C29) (fn := Tryd.f29) TOKp EOKp MIXp (lkup_cons T60 (lkup_cons T61 (lkup_cons T62 (lkup_cons T63 lkup_nil)))) Tryd.func29 (by kernel_rfl) (by kernel_rfl) (of_decide_eq_false (by kernel_rfl)) (by kernel_rfl) (fun k ds => by kernel_rfl)
/-- interchange/reply.Segments -/
def F27 (k : Nat) (ds : List D) : Option (List D) :=
 (F29 k [D.str ((gt ds 0).s), D.int ((gt ds 1).i), D.row ((gt ds 2).r)]).bind fun ds0 =>
 bif ((gt ds0 0).i != 0) then
  some [D.row [], D.int ((gt ds0 0).i)]
 else (F55 k [D.str ((gt ds 0).s), D.int ((gt ds 1).i), D.row ((gt ds 2).r)]).bind fun ds1 =>
 bif decide ((((gt ds1 0).r).length : Int) > 2000) then
  some [D.row [], D.int 2]
 else some [D.row ((gt ds1 0).r), D.int 0]
def K27 : Callee := ⟨[.agg [.str, .int .i64, .seen 104]], [.own 53, .int .i64], F27⟩
noncomputable def C27 : Code := match Tryd.f27.body with | some c => c | none => .skip
theorem T27 : FunOK Tryd.prog (tyTab TL) 27 K27 :=
 fun_ok (loops := lkup []) (joins := lkup []) (md := mdL []) (L := [(29, K29), (55, K55)]) (res := [.tmp 2, .tmp 3]) (code := C27) (fn := Tryd.f27) TOKp EOKp MIXp (lkup_cons T29 (lkup_cons T55 lkup_nil)) Tryd.func27 (by kernel_rfl) (by kernel_rfl) (of_decide_eq_false (by kernel_rfl)) (by kernel_rfl) (fun k ds => by kernel_rfl)
/-- interchange/interchangelaw7.ReplyChecksMatchSpec -/
def F8 (k : Nat) (ds : List D) : Option (List D) :=
 (F26 k [D.str ((gt ds 0).s), D.int ((gt ds 1).i), D.row ((gt ds 2).r)]).bind fun ds0 =>
 (F27 k [D.str ((gt ds 0).s), D.int ((gt ds 1).i), D.row ((gt ds 2).r)]).bind fun ds1 =>
 (F28 k [D.str ((gt ds 0).s), D.int ((gt ds 1).i), D.row ((gt ds 2).r)]).bind fun ds2 =>
 (F29 k [D.str ((gt ds 0).s), D.int ((gt ds 1).i), D.row ((gt ds 2).r)]).bind fun ds3 =>
 bif ((gt ds2 0).i == (gt ds3 0).i) then
  (F30 k [D.row ((gt ds1 0).r), D.row ((gt ds0 0).r)]).bind fun ds4 =>
  bif (gt ds4 0).b then
   bif ((gt ds1 1).i == (gt ds0 1).i) then
    (F31 k []).bind fun ds5 =>
    some [D.bool ((gt ds5 0).b)]
   else some [D.bool false]
  else some [D.bool false]
 else some [D.bool false]
def K8 : Callee := ⟨[.agg [.str, .int .i64, .seen 104]], [.bool], F8⟩
noncomputable def C8 : Code := match Tryd.f8.body with | some c => c | none => .skip
theorem T8 : FunOK Tryd.prog (tyTab TL) 8 K8 :=
 fun_ok (loops := lkup []) (joins := lkup []) (md := mdL []) (L := [(26, K26), (27, K27), (28, K28), (29, K29), (30, K30), (31, K31)]) (res := [.tmp 2]) (code := C8) (fn := Tryd.f8) TOKp EOKp MIXp (lkup_cons T26 (lkup_cons T27 (lkup_cons T28 (lkup_cons T29 (lkup_cons T30 (lkup_cons T31 lkup_nil)))))) Tryd.func8 (by kernel_rfl) (by kernel_rfl) (of_decide_eq_false (by kernel_rfl)) (by kernel_rfl) (fun k ds => by kernel_rfl)
end Go.Sx
