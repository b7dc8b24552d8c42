import Derived.Test.YtlhbonpdlghlbaaDoorSxShelf
import Derived.Test.YtlhbonpdlghlbaaDoorSxClone
import Derived.WalkKit
import Derived.Test.YtlhbonpdlghlbaaDoorProg
import Derived.Test.YtlhbonpdlghlbaaDoorShelf
set_option linter.unusedVariables false
set_option linter.unusedSimpArgs false
namespace Go.Sx
open Go.Proofs
set_option maxRecDepth 100000
def TL : List (Nat × TyI) := [(3, ⟨false, [.int .i64], [], 8, false, none⟩), (4, ⟨false, [.bool], [], 1, false, none⟩), (5, ⟨false, [.int .u8], [], 1, false, none⟩), (9, ⟨false, [.str], [], 16, false, none⟩), (23, ⟨true, [.int .u8, .int .u8, .int .u8, .int .u8, .int .u8], [(0, 5), (1, 5), (2, 5), (3, 5), (4, 5)], 5, false, none⟩), (24, ⟨false, [.sl 53], [], 24, false, none⟩), (25, ⟨false, [.int .i64], [], 8, false, none⟩), (32, ⟨false, [.sl 23], [], 24, false, none⟩), (35, ⟨false, [.sl 5], [], 24, false, none⟩), (41, ⟨true, [.int .i64, .int .i64, .int .i64], [(0, 3), (1, 3), (2, 3)], 24, true, none⟩), (43, ⟨true, [.int .i64, .int .i64], [(0, 3), (1, 3)], 16, true, none⟩), (51, ⟨false, [.sl 76], [], 24, false, none⟩), (53, ⟨true, [.str, .sl 76], [(0, 9), (1, 51)], 40, false, none⟩), (64, ⟨false, [.sl 90], [], 24, false, none⟩), (66, ⟨true, [.int .u8, .int .u8, .int .u8, .int .u8, .int .u8, .sl 5, .sl 90, .int .i64], [(0, 23), (5, 35), (6, 64), (7, 3)], 64, false, none⟩), (67, ⟨false, [.ptr], [], 8, false, none⟩), (73, ⟨false, [.fn], [], 8, false, none⟩), (74, ⟨false, [.sl 100], [], 24, false, none⟩), (76, ⟨true, [.sl 100], [(0, 74)], 24, false, none⟩), (81, ⟨false, [.ptr], [], 8, false, none⟩), (84, ⟨false, [.sl 95], [], 24, false, none⟩), (85, ⟨false, [.sl 3], [], 24, false, none⟩), (87, ⟨true, [.int .u8, .int .u8, .int .u8, .int .u8, .int .u8, .bool, .sl 5, .sl 95, .sl 3, .bool], [(0, 23), (5, 4), (6, 35), (7, 84), (8, 85), (9, 4)], 88, false, none⟩), (90, ⟨true, [.int .i64, .int .i64, .int .i64, .int .i64, .int .i64, .int .i64, .int .i64], [(0, 3), (1, 41), (4, 3), (5, 3), (6, 3)], 56, false, none⟩), (95, ⟨true, [.int .i64, .int .i64, .int .i64, .int .i64, .int .i64, .int .i64], [(0, 3), (1, 41), (4, 3), (5, 3)], 48, false, none⟩), (96, ⟨false, [.fn], [], 8, false, none⟩), (100, ⟨false, [.sl 9], [], 24, false, none⟩)]
theorem TOKp : TOK Tryd.prog (tyTab TL) := tok_of (by kernel_rfl)
theorem EOKp : EOK Tryd.prog (tyTab TL) := eok_of (show ∀ t ∈ [41, 43], EqOK Tryd.prog (tyTab TL) t from (List.forall_mem_cons.2 ⟨eqOK_of Tryd.stoodInHeld41 Tryd.eqGuardType41 (by kernel_rfl), (List.forall_mem_cons.2 ⟨eqOK_of Tryd.stoodInHeld43 Tryd.eqGuardType43 (by kernel_rfl), (fun _ h => nomatch h)⟩)⟩))
theorem MIXp : Tryd.prog.follows .mixedOrders = true := by kernel_rfl
/-- strings.ContainsAny: by hand -/
def F70 : Nat → List D → Option (List D) := containsAnyK.f
def K70 : Callee := containsAnyK
theorem T70 : FunOK Tryd.prog (tyTab TL) 70 K70 := contains_any_ok Tryd.lays150 (by kernel_rfl) Tryd.func70 (of_decide_eq_false (by kernel_rfl)) (Option.isSome_iff_ne_none.1 (by kernel_rfl))
/-- strings.IndexByte: by hand -/
def F74 : Nat → List D → Option (List D) := indexByteK.f
def K74 : Callee := indexByteK
theorem T74 : FunOK Tryd.prog (tyTab TL) 74 K74 := index_byte_ok Tryd.lays137 Tryd.func74 (of_decide_eq_false (by kernel_rfl)) (Option.isSome_iff_ne_none.1 (by kernel_rfl))
/-- strings.Trim: by hand -/
def F87 : Nat → List D → Option (List D) := trimK.f
def K87 : Callee := trimK
theorem T87 : FunOK Tryd.prog (tyTab TL) 87 K87 := trim_ok Tryd.lays160 (by kernel_rfl) Tryd.func87 (of_decide_eq_false (by kernel_rfl)) (Option.isSome_iff_ne_none.1 (by kernel_rfl))
/-- bytes.Equal -/
def F20 (k : Nat) (ds : List D) : Option (List D) :=
 some [D.bool ((ByteArray.toList (ByteArray.mk (List.toArray (List.map (fun d => (UInt8.ofNat (Int.toNat d.i))) ((gt ds 0).r))))) == (ByteArray.toList (ByteArray.mk (List.toArray (List.map (fun d => (UInt8.ofNat (Int.toNat d.i))) ((gt ds 1).r))))))]
def K20 : Callee := ⟨[.seen 5, .seen 5], [.bool], F20⟩
noncomputable def C20 : Code := match Tryd.f20.body with | some c => c | none => .skip
theorem T20 : FunOK Tryd.prog (tyTab TL) 20 K20 :=
 fun_ok (loops := lkup []) (joins := lkup []) (md := mdL []) (L := []) (res := [.tmp 4]) (code := C20) (fn := Tryd.f20) TOKp EOKp MIXp lkup_nil Tryd.func20 (by kernel_rfl) (by kernel_rfl) (of_decide_eq_false (by kernel_rfl)) (by kernel_rfl) (fun k ds => by kernel_rfl)
/-- interchange/interchangeref2.mark -/
def F36 (k : Nat) (ds : List D) : Option (List D) :=
 (bif decide ((gt ds 0).i < 33) then
   some [D.bool true]
  else bif decide ((gt ds 0).i > 126) then
   some [D.bool true]
  else bif ((gt ds 0).i == 46) then
   some [D.bool true]
  else bif ((gt ds 0).i == 45) then
   some [D.bool true]
  else bif ((gt ds 0).i == 43) then
   some [D.bool true]
  else some [D.bool ((gt ds 0).i == 95)]).bind fun ds0 =>
 bif (gt ds0 0).b then
  some [D.bool false]
 else bif decide ((gt ds 0).i ≥ 65) then
  bif decide ((gt ds 0).i ≤ 90) then
   some [D.bool false]
  else bif decide ((gt ds 0).i ≥ 97) then
   bif decide ((gt ds 0).i ≤ 122) then
    some [D.bool false]
   else bif decide ((gt ds 0).i ≥ 48) then
    some [D.bool (!decide ((gt ds 0).i ≤ 57))]
   else some [D.bool true]
  else bif decide ((gt ds 0).i ≥ 48) then
   some [D.bool (!decide ((gt ds 0).i ≤ 57))]
  else some [D.bool true]
 else bif decide ((gt ds 0).i ≥ 97) then
  bif decide ((gt ds 0).i ≤ 122) then
   some [D.bool false]
  else bif decide ((gt ds 0).i ≥ 48) then
   some [D.bool (!decide ((gt ds 0).i ≤ 57))]
  else some [D.bool true]
 else bif decide ((gt ds 0).i ≥ 48) then
  some [D.bool (!decide ((gt ds 0).i ≤ 57))]
 else some [D.bool true]
def K36 : Callee := ⟨[.int .u8], [.bool], F36⟩
noncomputable def C36 : Code := match Tryd.f36.body with | some c => c | none => .skip
theorem T36 : FunOK Tryd.prog (tyTab TL) 36 K36 :=
 fun_ok (loops := lkup []) (joins := lkup [(3, .light [(24, .bool)])]) (md := mdL []) (L := []) (res := [.tmp 2]) (code := C36) (fn := Tryd.f36) TOKp EOKp MIXp lkup_nil Tryd.func36 (by kernel_rfl) (by kernel_rfl) (of_decide_eq_false (by kernel_rfl)) (by kernel_rfl) (fun k ds => by kernel_rfl)
/-- interchange/kit.Outside -/
def F46 (k : Nat) (ds : List D) : Option (List D) :=
 bif decide ((gt ds 0).i < (gt ds 1).i) then
  some [D.bool true]
 else some [D.bool (decide ((gt ds 0).i > (gt ds 2).i))]
def K46 : Callee := ⟨[.int .i64, .int .i64, .int .i64], [.bool], F46⟩
noncomputable def C46 : Code := match Tryd.f46.body with | some c => c | none => .skip
theorem T46 : FunOK Tryd.prog (tyTab TL) 46 K46 :=
 fun_ok (loops := lkup []) (joins := lkup []) (md := mdL []) (L := []) (res := [.tmp 6]) (code := C46) (fn := Tryd.f46) TOKp EOKp MIXp lkup_nil Tryd.func46 (by kernel_rfl) (by kernel_rfl) (of_decide_eq_false (by kernel_rfl)) (by kernel_rfl) (fun k ds => by kernel_rfl)
/-- interchange/wire.spotRange -/
def F47 (k : Nat) (ds : List D) : Option (List D) :=
 ((F46 k [D.int ((gt ds 0).i), D.int 1, D.int 50]).bind fun ds0 =>
  bif (gt ds0 0).b then
   some [D.bool true]
  else (F46 k [D.int ((gt ds 1).i), D.int 1, D.int 20]).bind fun ds1 =>
  bif (gt ds1 0).b then
   some [D.bool true]
  else (F46 k [D.int ((gt ds 2).i), D.int 1, D.int 20]).bind fun ds2 =>
  some [D.bool ((gt ds2 0).b)]).bind fun ds3 =>
 bif (gt ds3 0).b then
  some [D.int 1]
 else some [D.int 0]
def K47 : Callee := ⟨[.agg [.int .i64, .int .i64, .int .i64]], [.int .i64], F47⟩
noncomputable def C47 : Code := match Tryd.f47.body with | some c => c | none => .skip
theorem T47 : FunOK Tryd.prog (tyTab TL) 47 K47 :=
 fun_ok (loops := lkup []) (joins := lkup [(3, .light [(15, .bool)])]) (md := mdL []) (L := [(46, K46)]) (res := [.tmp 2]) (code := C47) (fn := Tryd.f47) TOKp EOKp MIXp (lkup_cons T46 lkup_nil) Tryd.func47 (by kernel_rfl) (by kernel_rfl) (of_decide_eq_false (by kernel_rfl)) (by kernel_rfl) (fun k ds => by kernel_rfl)
/-- interchange/wire.TextAt -/
def F51 (k : Nat) (ds : List D) : Option (List D) :=
 bif decide ((gt ds 2).i > (((gt ds 1).r).length : Int)) then
  some [D.str (ByteArray.mk #[]), D.bool false]
 else bif ((inRow (Go.IntKind.i64.wrap ((gt ds 2).i - 1)) (((gt ds 1).r).length)) && true) then
  (bif decide ((gt ds 3).i > ((((elAt ((gt ds 1).r) (Go.IntKind.i64.wrap ((gt ds 2).i - 1))).c 0).r).length : Int)) then
    some [D.bool true]
   else bif ((inRow (Go.IntKind.i64.wrap ((gt ds 3).i - 1)) ((((elAt ((gt ds 1).r) (Go.IntKind.i64.wrap ((gt ds 2).i - 1))).c 0).r).length)) && true) then
    some [D.bool (decide ((gt ds 4).i > (((elAt (((elAt ((gt ds 1).r) (Go.IntKind.i64.wrap ((gt ds 2).i - 1))).c 0).r) (Go.IntKind.i64.wrap ((gt ds 3).i - 1))).r).length : Int)))]
   else none).bind fun ds0 =>
  bif (gt ds0 0).b then
   some [D.str (ByteArray.mk #[]), D.bool false]
  else bif ((inRow (Go.IntKind.i64.wrap ((gt ds 3).i - 1)) ((((elAt ((gt ds 1).r) (Go.IntKind.i64.wrap ((gt ds 2).i - 1))).c 0).r).length)) && true) then
   bif ((inRow (Go.IntKind.i64.wrap ((gt ds 4).i - 1)) (((elAt (((elAt ((gt ds 1).r) (Go.IntKind.i64.wrap ((gt ds 2).i - 1))).c 0).r) (Go.IntKind.i64.wrap ((gt ds 3).i - 1))).r).length)) && true) then
    some [D.str ((elAt ((elAt (((elAt ((gt ds 1).r) (Go.IntKind.i64.wrap ((gt ds 2).i - 1))).c 0).r) (Go.IntKind.i64.wrap ((gt ds 3).i - 1))).r) (Go.IntKind.i64.wrap ((gt ds 4).i - 1))).s), D.bool true]
   else none
  else none
 else none
def K51 : Callee := ⟨[.agg [.str, .seen 76], .agg [.int .i64, .int .i64, .int .i64]], [.str, .bool], F51⟩
noncomputable def C51 : Code := match Tryd.f51.body with | some c => c | none => .skip
theorem T51 : FunOK Tryd.prog (tyTab TL) 51 K51 :=
 fun_ok (loops := lkup []) (joins := lkup [(9, .light [(37, .bool)])]) (md := mdL []) (L := []) (res := [.tmp 4, .tmp 5]) (code := C51) (fn := Tryd.f51) TOKp EOKp MIXp lkup_nil Tryd.func51 (by kernel_rfl) (by kernel_rfl) (of_decide_eq_false (by kernel_rfl)) (by kernel_rfl) (fun k ds => by kernel_rfl)
/-- interchange/kit.IsTagPart -/
def F68 (k : Nat) (ds : List D) : Option (List D) :=
 (F87 k [D.str ((gt ds 0).s), D.str (ByteArray.mk #[65, 66, 67, 68, 69, 70, 71, 72, 73, 74, 75, 76, 77, 78, 79, 80, 81, 82, 83, 84, 85, 86, 87, 88, 89, 90, 48, 49, 50, 51, 52, 53, 54, 55, 56, 57])]).bind fun ds0 =>
 some [D.bool ((ByteArray.toList ((gt ds0 0).s)) == (ByteArray.toList (ByteArray.mk #[])))]
def K68 : Callee := ⟨[.str], [.bool], F68⟩
noncomputable def C68 : Code := match Tryd.f68.body with | some c => c | none => .skip
theorem T68 : FunOK Tryd.prog (tyTab TL) 68 K68 :=
 fun_ok (loops := lkup []) (joins := lkup []) (md := mdL []) (L := [(87, K87)]) (res := [.tmp 2]) (code := C68) (fn := Tryd.f68) TOKp EOKp MIXp (lkup_cons T87 lkup_nil) Tryd.func68 (by kernel_rfl) (by kernel_rfl) (of_decide_eq_false (by kernel_rfl)) (by kernel_rfl) (fun k ds => by kernel_rfl)
def B69x0 (k0 : Nat) (rec1 : List D → Option (List D)) (ds2 : List D) : Option (List D) :=
 bif decide ((gt ds2 4).i < (gt ds2 3).i) then
  (bif (((inRow ((gt ds2 4).i) (ByteArray.size ((gt ds2 0).s))) && true) && true) then
    bif decide (((UInt8.toNat (List.getD (ByteArray.toList ((gt ds2 0).s)) (Int.toNat ((gt ds2 4).i)) 0)) : Int) < (gt ds2 1).i) then
     some [D.bool true]
    else bif (((inRow ((gt ds2 4).i) (ByteArray.size ((gt ds2 0).s))) && true) && true) then
     some [D.bool (decide (((UInt8.toNat (List.getD (ByteArray.toList ((gt ds2 0).s)) (Int.toNat ((gt ds2 4).i)) 0)) : Int) > (gt ds2 2).i))]
    else none
   else none).bind fun ds3 =>
  bif (gt ds3 0).b then
   some [D.bool false]
  else rec1 [D.str ((gt ds2 0).s), D.int ((gt ds2 1).i), D.int ((gt ds2 2).i), D.int ((gt ds2 3).i), D.int (Go.IntKind.i64.wrap ((gt ds2 4).i + 1))]
 else some [D.bool true]
/-- interchange/kit.InBytes -/
def F69 (k : Nat) (ds : List D) : Option (List D) :=
 iter B69x0 k [D.str ((gt ds 0).s), D.int ((gt ds 1).i), D.int ((gt ds 2).i), D.int ((ByteArray.size ((gt ds 0).s)) : Int), D.int 0]
def K69 : Callee := ⟨[.str, .int .u8, .int .u8], [.bool], F69⟩
noncomputable def C69 : Code := match Tryd.f69.body with | some c => c | none => .skip
theorem T69 : FunOK Tryd.prog (tyTab TL) 69 K69 :=
 fun_ok (loops := lkup [(2, ⟨[], [(0, .str), (1, .int .u8), (2, .int .u8), (9, .int .i64), (10, .int .i64)]⟩)]) (joins := lkup [(9, .light [(24, .bool)])]) (md := mdL []) (L := []) (res := [.tmp 6]) (code := C69) (fn := Tryd.f69) TOKp EOKp MIXp lkup_nil Tryd.func69 (by kernel_rfl) (by kernel_rfl) (of_decide_eq_false (by kernel_rfl)) (by kernel_rfl) (fun k ds => by kernel_rfl)
def B71x0 (k0 : Nat) (rec1 : List D → Option (List D)) (ds2 : List D) : Option (List D) :=
 bif decide ((gt ds2 3).i < (gt ds2 2).i) then
  bif ((inRow ((gt ds2 3).i) (((gt ds2 0).r).length)) && true) then
   bif ((gt ds2 1).i == (elAt ((gt ds2 0).r) ((gt ds2 3).i)).i) then
    some [D.int ((gt ds2 3).i)]
   else rec1 [D.row ((gt ds2 0).r), D.int ((gt ds2 1).i), D.int ((gt ds2 2).i), D.int (Go.IntKind.i64.wrap ((gt ds2 3).i + 1))]
  else none
 else some [D.int (-1)]
/-- slices.Index[[]byte,byte] -/
def F71 (k : Nat) (ds : List D) : Option (List D) :=
 iter B71x0 k [D.row ((gt ds 0).r), D.int ((gt ds 1).i), D.int (((gt ds 0).r).length : Int), D.int 0]
def K71 : Callee := ⟨[.seen 5, .int .u8], [.int .i64], F71⟩
noncomputable def C71 : Code := match Tryd.f71.body with | some c => c | none => .skip
theorem T71 : FunOK Tryd.prog (tyTab TL) 71 K71 :=
 fun_ok (loops := lkup [(2, ⟨[], [(0, .srow 5), (1, .int .u8), (7, .int .i64), (8, .int .i64)]⟩)]) (joins := lkup []) (md := mdL []) (L := []) (res := [.tmp 4]) (code := C71) (fn := Tryd.f71) TOKp EOKp MIXp lkup_nil Tryd.func71 (by kernel_rfl) (by kernel_rfl) (of_decide_eq_false (by kernel_rfl)) (by kernel_rfl) (fun k ds => by kernel_rfl)
/-- interchange/interchangeref2.within -/
def F79 (k : Nat) (ds : List D) : Option (List D) :=
 bif decide ((gt ds 0).i ≥ 1) then
  some [D.bool (decide ((gt ds 0).i ≤ (gt ds 1).i))]
 else some [D.bool false]
def K79 : Callee := ⟨[.int .i64, .int .i64], [.bool], F79⟩
noncomputable def C79 : Code := match Tryd.f79.body with | some c => c | none => .skip
theorem T79 : FunOK Tryd.prog (tyTab TL) 79 K79 :=
 fun_ok (loops := lkup []) (joins := lkup []) (md := mdL []) (L := []) (res := [.tmp 4]) (code := C79) (fn := Tryd.f79) TOKp EOKp MIXp lkup_nil Tryd.func79 (by kernel_rfl) (by kernel_rfl) (of_decide_eq_false (by kernel_rfl)) (by kernel_rfl) (fun k ds => by kernel_rfl)
/-- interchange/interchangeref2.isMark -/
def F98 (k : Nat) (ds : List D) : Option (List D) :=
 bif ((gt ds 5).i == (gt ds 0).i) then
  some [D.bool true]
 else bif ((gt ds 5).i == (gt ds 1).i) then
  some [D.bool true]
 else bif ((gt ds 5).i == (gt ds 2).i) then
  some [D.bool true]
 else bif ((gt ds 5).i == (gt ds 4).i) then
  some [D.bool true]
 else bif ((gt ds 3).i != 0) then
  some [D.bool ((gt ds 5).i == (gt ds 3).i)]
 else some [D.bool false]
def K98 : Callee := ⟨[.agg [.int .u8, .int .u8, .int .u8, .int .u8, .int .u8], .int .u8], [.bool], F98⟩
noncomputable def C98 : Code := match Tryd.f98.body with | some c => c | none => .skip
theorem T98 : FunOK Tryd.prog (tyTab TL) 98 K98 :=
 fun_ok (loops := lkup []) (joins := lkup []) (md := mdL []) (L := []) (res := [.tmp 4]) (code := C98) (fn := Tryd.f98) TOKp EOKp MIXp lkup_nil Tryd.func98 (by kernel_rfl) (by kernel_rfl) (of_decide_eq_false (by kernel_rfl)) (by kernel_rfl) (fun k ds => by kernel_rfl)
/-- interchange/wire.isMark -/
def F99 (k : Nat) (ds : List D) : Option (List D) :=
 bif ((gt ds 5).i == (gt ds 0).i) then
  some [D.bool true]
 else bif ((gt ds 5).i == (gt ds 1).i) then
  some [D.bool true]
 else bif ((gt ds 5).i == (gt ds 2).i) then
  some [D.bool true]
 else bif ((gt ds 5).i == (gt ds 4).i) then
  some [D.bool true]
 else bif ((gt ds 3).i != 0) then
  some [D.bool ((gt ds 5).i == (gt ds 3).i)]
 else some [D.bool false]
def K99 : Callee := ⟨[.agg [.int .u8, .int .u8, .int .u8, .int .u8, .int .u8], .int .u8], [.bool], F99⟩
noncomputable def C99 : Code := match Tryd.f99.body with | some c => c | none => .skip
theorem T99 : FunOK Tryd.prog (tyTab TL) 99 K99 :=
 fun_ok (loops := lkup []) (joins := lkup []) (md := mdL []) (L := []) (res := [.tmp 4]) (code := C99) (fn := Tryd.f99) TOKp EOKp MIXp lkup_nil Tryd.func99 (by kernel_rfl) (by kernel_rfl) (of_decide_eq_false (by kernel_rfl)) (by kernel_rfl) (fun k ds => by kernel_rfl)
def B101x0 (k0 : Nat) (rec1 : List D → Option (List D)) (ds2 : List D) : Option (List D) :=
 bif decide ((gt ds2 1).i < ((ByteArray.size ((gt ds2 0).s)) : Int)) then
  (bif (((inRow ((gt ds2 1).i) (ByteArray.size ((gt ds2 0).s))) && true) && true) then
    bif decide (((UInt8.toNat (List.getD (ByteArray.toList ((gt ds2 0).s)) (Int.toNat ((gt ds2 1).i)) 0)) : Int) ≥ 65) then
     bif (((inRow ((gt ds2 1).i) (ByteArray.size ((gt ds2 0).s))) && true) && true) then
      some [D.bool (decide (((UInt8.toNat (List.getD (ByteArray.toList ((gt ds2 0).s)) (Int.toNat ((gt ds2 1).i)) 0)) : Int) ≤ 90))]
     else none
    else some [D.bool false]
   else none).bind fun ds3 =>
  (bif (!(gt ds3 0).b) then
    bif ((gt ds2 1).i == 0) then
     some [D.bool true]
    else bif (((inRow ((gt ds2 1).i) (ByteArray.size ((gt ds2 0).s))) && true) && true) then
     bif decide (((UInt8.toNat (List.getD (ByteArray.toList ((gt ds2 0).s)) (Int.toNat ((gt ds2 1).i)) 0)) : Int) < 48) then
      some [D.bool true]
     else bif (((inRow ((gt ds2 1).i) (ByteArray.size ((gt ds2 0).s))) && true) && true) then
      some [D.bool (decide (((UInt8.toNat (List.getD (ByteArray.toList ((gt ds2 0).s)) (Int.toNat ((gt ds2 1).i)) 0)) : Int) > 57))]
     else none
    else none
   else some [D.bool false]).bind fun ds4 =>
  bif (gt ds4 0).b then
   some [D.bool false]
  else rec1 [D.str ((gt ds2 0).s), D.int (Go.IntKind.i64.wrap ((gt ds2 1).i + 1))]
 else some [D.bool (decide (((ByteArray.size ((gt ds2 0).s)) : Int) ≤ 6))]
/-- interchange/interchangeref2.beginsTag -/
def F101 (k : Nat) (ds : List D) : Option (List D) :=
 iter B101x0 k [D.str ((gt ds 0).s), D.int 0]
def K101 : Callee := ⟨[.str], [.bool], F101⟩
noncomputable def C101 : Code := match Tryd.f101.body with | some c => c | none => .skip
theorem T101 : FunOK Tryd.prog (tyTab TL) 101 K101 :=
 fun_ok (loops := lkup [(2, ⟨[], [(0, .str), (3, .int .i64)]⟩)]) (joins := lkup [(9, .light [(4, .bool)]), (11, .light [(38, .bool)])]) (md := mdL []) (L := []) (res := [.tmp 2]) (code := C101) (fn := Tryd.f101) TOKp EOKp MIXp lkup_nil Tryd.func101 (by kernel_rfl) (by kernel_rfl) (of_decide_eq_false (by kernel_rfl)) (by kernel_rfl) (fun k ds => by kernel_rfl)
def B102x0 (k0 : Nat) (rec1 : List D → Option (List D)) (ds2 : List D) : Option (List D) :=
 bif decide ((gt ds2 1).i < ((ByteArray.size ((gt ds2 0).s)) : Int)) then
  (bif (((inRow ((gt ds2 1).i) (ByteArray.size ((gt ds2 0).s))) && true) && true) then
    bif decide (((UInt8.toNat (List.getD (ByteArray.toList ((gt ds2 0).s)) (Int.toNat ((gt ds2 1).i)) 0)) : Int) < 32) then
     some [D.bool true]
    else bif (((inRow ((gt ds2 1).i) (ByteArray.size ((gt ds2 0).s))) && true) && true) then
     some [D.bool (decide (((UInt8.toNat (List.getD (ByteArray.toList ((gt ds2 0).s)) (Int.toNat ((gt ds2 1).i)) 0)) : Int) > 126))]
    else none
   else none).bind fun ds3 =>
  bif (gt ds3 0).b then
   some [D.int 3]
  else rec1 [D.str ((gt ds2 0).s), D.int (Go.IntKind.i64.wrap ((gt ds2 1).i + 1))]
 else some [D.int 0]
/-- interchange/interchangeref2.checkText -/
def F102 (k : Nat) (ds : List D) : Option (List D) :=
 bif decide (((ByteArray.size ((gt ds 0).s)) : Int) > 1000) then
  some [D.int 2]
 else iter B102x0 k [D.str ((gt ds 0).s), D.int 0]
def K102 : Callee := ⟨[.str], [.int .i64], F102⟩
noncomputable def C102 : Code := match Tryd.f102.body with | some c => c | none => .skip
theorem T102 : FunOK Tryd.prog (tyTab TL) 102 K102 :=
 fun_ok (loops := lkup [(4, ⟨[], [(0, .str), (3, .int .i64)]⟩)]) (joins := lkup [(13, .light [(22, .bool)])]) (md := mdL []) (L := []) (res := [.tmp 2]) (code := C102) (fn := Tryd.f102) TOKp EOKp MIXp lkup_nil Tryd.func102 (by kernel_rfl) (by kernel_rfl) (of_decide_eq_false (by kernel_rfl)) (by kernel_rfl) (fun k ds => by kernel_rfl)
/-- interchange/kit.IsText -/
def F104 (k : Nat) (ds : List D) : Option (List D) :=
 bif decide (((ByteArray.size ((gt ds 0).s)) : Int) ≤ 1000) then
  (F69 k [D.str ((gt ds 0).s), D.int 32, D.int 126]).bind fun ds0 =>
  some [D.bool ((gt ds0 0).b)]
 else some [D.bool false]
def K104 : Callee := ⟨[.str], [.bool], F104⟩
noncomputable def C104 : Code := match Tryd.f104.body with | some c => c | none => .skip
theorem T104 : FunOK Tryd.prog (tyTab TL) 104 K104 :=
 fun_ok (loops := lkup []) (joins := lkup []) (md := mdL []) (L := [(69, K69)]) (res := [.tmp 2]) (code := C104) (fn := Tryd.f104) TOKp EOKp MIXp (lkup_cons T69 lkup_nil) Tryd.func104 (by kernel_rfl) (by kernel_rfl) (of_decide_eq_false (by kernel_rfl)) (by kernel_rfl) (fun k ds => by kernel_rfl)
def B11x0 (rec7 : List D → Option (List D)) (k9 : Nat) (rec10 : List D → Option (List D)) (ds11 : List D) : Option (List D) :=
 bif decide ((gt ds11 1).i < (gt ds11 0).i) then
  bif ((inRow ((gt ds11 0).i) (((gt ds11 2).r).length)) && true) then
   bif ((inRow ((gt ds11 1).i) (((gt ds11 2).r).length)) && true) then
    bif ((elAt ((gt ds11 2).r) ((gt ds11 0).i)).i == (elAt ((gt ds11 2).r) ((gt ds11 1).i)).i) then
     some [D.int 7]
    else rec10 [D.int ((gt ds11 0).i), D.int (Go.IntKind.i64.wrap ((gt ds11 1).i + 1)), D.row ((gt ds11 2).r)]
   else none
  else none
 else rec7 [D.int (Go.IntKind.i64.wrap ((gt ds11 0).i + 1)), D.row ((gt ds11 2).r)]
def B11x1 (k6 : Nat) (rec7 : List D → Option (List D)) (ds8 : List D) : Option (List D) :=
 bif decide ((gt ds8 0).i < (((gt ds8 1).r).length : Int)) then
  iter (B11x0 rec7) k6 [D.int ((gt ds8 0).i), D.int 0, D.row ((gt ds8 1).r)]
 else some [D.int 0]
/-- interchange/interchangeref2.CheckMarks -/
def F11 (k : Nat) (ds : List D) : Option (List D) :=
 ((F36 k [D.int ((gt ds 0).i)]).bind fun ds0 =>
  bif (!(gt ds0 0).b) then
   some [D.bool true]
  else (F36 k [D.int ((gt ds 1).i)]).bind fun ds1 =>
  bif (!(gt ds1 0).b) then
   some [D.bool true]
  else (F36 k [D.int ((gt ds 2).i)]).bind fun ds2 =>
  bif (!(gt ds2 0).b) then
   some [D.bool true]
  else (F36 k [D.int ((gt ds 4).i)]).bind fun ds3 =>
  bif (!(gt ds3 0).b) then
   some [D.bool true]
  else bif ((gt ds 3).i != 0) then
   (F36 k [D.int ((gt ds 3).i)]).bind fun ds4 =>
   some [D.bool (!(gt ds4 0).b)]
  else some [D.bool false]).bind fun ds5 =>
 bif (gt ds5 0).b then
  some [D.int 3]
 else iter B11x1 k [D.int 0, D.row [D.int ((gt ds 0).i), D.int ((gt ds 1).i), D.int ((gt ds 2).i), D.int ((gt ds 3).i), D.int ((gt ds 4).i)]]
def K11 : Callee := ⟨[.agg [.int .u8, .int .u8, .int .u8, .int .u8, .int .u8]], [.int .i64], F11⟩
noncomputable def C11 : Code := match Tryd.f11.body with | some c => c | none => .skip
theorem T11 : FunOK Tryd.prog (tyTab TL) 11 K11 :=
 fun_ok (loops := lkup [(8, ⟨[.row 5 true], [(3, .orow 0), (4, .int .i64), (5, .int .i64)]⟩), (5, ⟨[.row 5 true], [(3, .orow 0), (4, .int .i64)]⟩)]) (joins := lkup [(3, .light [(38, .bool)])]) (md := mdL []) (L := [(36, K36)]) (res := [.tmp 2]) (code := C11) (fn := Tryd.f11) TOKp EOKp MIXp (lkup_cons T36 lkup_nil) Tryd.func11 (by kernel_rfl) (by kernel_rfl) (of_decide_eq_false (by kernel_rfl)) (by kernel_rfl) (fun k ds => by kernel_rfl)
/-- interchange/wire.isMarkByte -/
def F37 (k : Nat) (ds : List D) : Option (List D) :=
 bif decide ((gt ds 0).i ≥ 33) then
  bif decide ((gt ds 0).i ≤ 126) then
   (F68 k [D.str (Go.Utf8.encode ((gt ds 0).i))]).bind fun ds0 =>
   bif (!(gt ds0 0).b) then
    (F69 k [D.str (Go.Utf8.encode ((gt ds 0).i)), D.int 97, D.int 122]).bind fun ds1 =>
    bif (!(gt ds1 0).b) then
     (F70 k [D.str (Go.Utf8.encode ((gt ds 0).i)), D.str (ByteArray.mk #[46, 45, 43, 95])]).bind fun ds2 =>
     some [D.bool (!(gt ds2 0).b)]
    else some [D.bool false]
   else some [D.bool false]
  else some [D.bool false]
 else some [D.bool false]
def K37 : Callee := ⟨[.int .u8], [.bool], F37⟩
noncomputable def C37 : Code := match Tryd.f37.body with | some c => c | none => .skip
theorem T37 : FunOK Tryd.prog (tyTab TL) 37 K37 :=
 fun_ok (loops := lkup []) (joins := lkup []) (md := mdL []) (L := [(68, K68), (69, K69), (70, K70)]) (res := [.tmp 2]) (code := C37) (fn := Tryd.f37) TOKp EOKp MIXp (lkup_cons T68 (lkup_cons T69 (lkup_cons T70 lkup_nil))) Tryd.func37 (by kernel_rfl) (by kernel_rfl) (of_decide_eq_false (by kernel_rfl)) (by kernel_rfl) (fun k ds => by kernel_rfl)
/-- slices.Contains[[]byte,byte] -/
def F38 (k : Nat) (ds : List D) : Option (List D) :=
 (F71 k [D.row ((gt ds 0).r), D.int ((gt ds 1).i)]).bind fun ds0 =>
 some [D.bool (decide ((gt ds0 0).i ≥ 0))]
def K38 : Callee := ⟨[.seen 5, .int .u8], [.bool], F38⟩
noncomputable def C38 : Code := match Tryd.f38.body with | some c => c | none => .skip
theorem T38 : FunOK Tryd.prog (tyTab TL) 38 K38 :=
 fun_ok (loops := lkup []) (joins := lkup []) (md := mdL []) (L := [(71, K71)]) (res := [.tmp 4]) (code := C38) (fn := Tryd.f38) TOKp EOKp MIXp (lkup_cons T71 lkup_nil) Tryd.func38 (by kernel_rfl) (by kernel_rfl) (of_decide_eq_false (by kernel_rfl)) (by kernel_rfl) (fun k ds => by kernel_rfl)
/-- interchange/kit.IsTag -/
def F40 (k : Nat) (ds : List D) : Option (List D) :=
 bif decide (((ByteArray.size ((gt ds 0).s)) : Int) ≥ 2) then
  bif decide (((ByteArray.size ((gt ds 0).s)) : Int) ≤ 6) then
   bif (((inRow 0 (ByteArray.size ((gt ds 0).s))) && true) && true) then
    (F74 k [D.str (ByteArray.mk #[65, 66, 67, 68, 69, 70, 71, 72, 73, 74, 75, 76, 77, 78, 79, 80, 81, 82, 83, 84, 85, 86, 87, 88, 89, 90]), D.int ((UInt8.toNat (List.getD (ByteArray.toList ((gt ds 0).s)) 0 0)) : Int)]).bind fun ds0 =>
    bif decide ((gt ds0 0).i ≥ 0) then
     (F68 k [D.str ((gt ds 0).s)]).bind fun ds1 =>
     some [D.bool ((gt ds1 0).b)]
    else some [D.bool false]
   else none
  else some [D.bool false]
 else some [D.bool false]
def K40 : Callee := ⟨[.str], [.bool], F40⟩
noncomputable def C40 : Code := match Tryd.f40.body with | some c => c | none => .skip
theorem T40 : FunOK Tryd.prog (tyTab TL) 40 K40 :=
 fun_ok (loops := lkup []) (joins := lkup []) (md := mdL []) (L := [(74, K74), (68, K68)]) (res := [.tmp 2]) (code := C40) (fn := Tryd.f40) TOKp EOKp MIXp (lkup_cons T74 (lkup_cons T68 lkup_nil)) Tryd.func40 (by kernel_rfl) (by kernel_rfl) (of_decide_eq_false (by kernel_rfl)) (by kernel_rfl) (fun k ds => by kernel_rfl)
def B67x0 (k0 : Nat) (rec1 : List D → Option (List D)) (ds2 : List D) : Option (List D) :=
 bif decide ((gt ds2 3).i < (gt ds2 2).i) then
  (bif (((inRow ((gt ds2 3).i) (ByteArray.size ((gt ds2 0).s))) && true) && true) then
    (F99 k0 [D.int ((gt ds2 4).i), D.int ((gt ds2 5).i), D.int ((gt ds2 6).i), D.int ((gt ds2 7).i), D.int ((gt ds2 8).i), D.int ((UInt8.toNat (List.getD (ByteArray.toList ((gt ds2 0).s)) (Int.toNat ((gt ds2 3).i)) 0)) : Int)]).bind fun ds3 =>
    bif (gt ds3 0).b then
     some [D.int (Go.IntKind.i64.wrap ((gt ds2 1).i + 1))]
    else some [D.int ((gt ds2 1).i)]
   else none).bind fun ds4 =>
  rec1 [D.str ((gt ds2 0).s), D.int ((gt ds4 0).i), D.int ((gt ds2 2).i), D.int (Go.IntKind.i64.wrap ((gt ds2 3).i + 1)), D.int ((gt ds2 4).i), D.int ((gt ds2 5).i), D.int ((gt ds2 6).i), D.int ((gt ds2 7).i), D.int ((gt ds2 8).i)]
 else some [D.int ((gt ds2 1).i)]
/-- interchange/wire.needed -/
def F67 (k : Nat) (ds : List D) : Option (List D) :=
 iter B67x0 k [D.str ((gt ds 5).s), D.int 0, D.int ((ByteArray.size ((gt ds 5).s)) : Int), D.int 0, D.int ((gt ds 0).i), D.int ((gt ds 1).i), D.int ((gt ds 2).i), D.int ((gt ds 3).i), D.int ((gt ds 4).i)]
def K67 : Callee := ⟨[.agg [.int .u8, .int .u8, .int .u8, .int .u8, .int .u8], .str], [.int .i64], F67⟩
noncomputable def C67 : Code := match Tryd.f67.body with | some c => c | none => .skip
theorem T67 : FunOK Tryd.prog (tyTab TL) 67 K67 :=
 fun_ok (loops := lkup [(3, ⟨[.box 23 [.int .u8, .int .u8, .int .u8, .int .u8, .int .u8]], [(1, .str), (2, .ptr 0 0), (5, .int .i64), (8, .int .i64), (9, .int .i64)]⟩)]) (joins := lkup [(14, .light [(5, .int .i64)])]) (md := mdL []) (L := [(99, K99)]) (res := [.tmp 4]) (code := C67) (fn := Tryd.f67) TOKp EOKp MIXp (lkup_cons T99 lkup_nil) Tryd.func67 (by kernel_rfl) (by kernel_rfl) (of_decide_eq_false (by kernel_rfl)) (by kernel_rfl) (fun k ds => by kernel_rfl)
/-- interchange/interchangeref2.IsTag -/
def F72 (k : Nat) (ds : List D) : Option (List D) :=
 bif decide (((ByteArray.size ((gt ds 0).s)) : Int) ≥ 2) then
  (F101 k [D.str ((gt ds 0).s)]).bind fun ds0 =>
  some [D.bool ((gt ds0 0).b)]
 else some [D.bool false]
def K72 : Callee := ⟨[.str], [.bool], F72⟩
noncomputable def C72 : Code := match Tryd.f72.body with | some c => c | none => .skip
theorem T72 : FunOK Tryd.prog (tyTab TL) 72 K72 :=
 fun_ok (loops := lkup []) (joins := lkup []) (md := mdL []) (L := [(101, K101)]) (res := [.tmp 2]) (code := C72) (fn := Tryd.f72) TOKp EOKp MIXp (lkup_cons T101 lkup_nil) Tryd.func72 (by kernel_rfl) (by kernel_rfl) (of_decide_eq_false (by kernel_rfl)) (by kernel_rfl) (fun k ds => by kernel_rfl)
def B73x0 (rec1 : List D → Option (List D)) (k3 : Nat) (rec4 : List D → Option (List D)) (ds5 : List D) : Option (List D) :=
 bif ((inRow ((gt ds5 0).i) (((gt ds5 2).r).length)) && true) then
  bif decide ((gt ds5 1).i < (((elAt ((gt ds5 2).r) ((gt ds5 0).i)).r).length : Int)) then
   bif ((inRow ((gt ds5 0).i) (((gt ds5 2).r).length)) && true) then
    bif ((inRow ((gt ds5 1).i) (((elAt ((gt ds5 2).r) ((gt ds5 0).i)).r).length)) && true) then
     (F102 k3 [D.str ((elAt ((elAt ((gt ds5 2).r) ((gt ds5 0).i)).r) ((gt ds5 1).i)).s)]).bind fun ds6 =>
     bif ((gt ds6 0).i != 0) then
      some [D.int ((gt ds6 0).i)]
     else rec4 [D.int ((gt ds5 0).i), D.int (Go.IntKind.i64.wrap ((gt ds5 1).i + 1)), D.row ((gt ds5 2).r)]
    else none
   else none
  else rec1 [D.int (Go.IntKind.i64.wrap ((gt ds5 0).i + 1)), D.row ((gt ds5 2).r)]
 else none
def B73x1 (k0 : Nat) (rec1 : List D → Option (List D)) (ds2 : List D) : Option (List D) :=
 bif decide ((gt ds2 0).i < (((gt ds2 1).r).length : Int)) then
  bif ((inRow ((gt ds2 0).i) (((gt ds2 1).r).length)) && true) then
   bif ((((elAt ((gt ds2 1).r) ((gt ds2 0).i)).r).length : Int) == 0) then
    some [D.int 9]
   else bif ((inRow ((gt ds2 0).i) (((gt ds2 1).r).length)) && true) then
    bif decide ((((elAt ((gt ds2 1).r) ((gt ds2 0).i)).r).length : Int) > 20) then
     some [D.int 2]
    else iter (B73x0 rec1) k0 [D.int ((gt ds2 0).i), D.int 0, D.row ((gt ds2 1).r)]
   else none
  else none
 else some [D.int 0]
/-- interchange/interchangeref2.checkElement -/
def F73 (k : Nat) (ds : List D) : Option (List D) :=
 bif ((((gt ds 0).r).length : Int) == 0) then
  some [D.int 9]
 else bif decide ((((gt ds 0).r).length : Int) > 20) then
  some [D.int 2]
 else iter B73x1 k [D.int 0, D.row ((gt ds 0).r)]
def K73 : Callee := ⟨[.agg [.seen 100]], [.int .i64], F73⟩
noncomputable def C73 : Code := match Tryd.f73.body with | some c => c | none => .skip
theorem T73 : FunOK Tryd.prog (tyTab TL) 73 K73 :=
 fun_ok (loops := lkup [(13, ⟨[.box 76 [.srow 100]], [(1, .ptr 0 0), (3, .int .i64), (4, .int .i64)]⟩), (6, ⟨[.box 76 [.srow 100]], [(1, .ptr 0 0), (3, .int .i64)]⟩)]) (joins := lkup []) (md := mdL []) (L := [(102, K102)]) (res := [.tmp 2]) (code := C73) (fn := Tryd.f73) TOKp EOKp MIXp (lkup_cons T102 lkup_nil) Tryd.func73 (by kernel_rfl) (by kernel_rfl) (of_decide_eq_false (by kernel_rfl)) (by kernel_rfl) (fun k ds => by kernel_rfl)
/-- interchange/wire.textFault -/
def F75 (k : Nat) (ds : List D) : Option (List D) :=
 bif decide (((ByteArray.size ((gt ds 0).s)) : Int) > 1000) then
  some [D.int 2]
 else (F104 k [D.str ((gt ds 0).s)]).bind fun ds0 =>
 bif (!(gt ds0 0).b) then
  some [D.int 3]
 else some [D.int 0]
def K75 : Callee := ⟨[.str], [.int .i64], F75⟩
noncomputable def C75 : Code := match Tryd.f75.body with | some c => c | none => .skip
theorem T75 : FunOK Tryd.prog (tyTab TL) 75 K75 :=
 fun_ok (loops := lkup []) (joins := lkup []) (md := mdL []) (L := [(104, K104)]) (res := [.tmp 2]) (code := C75) (fn := Tryd.f75) TOKp EOKp MIXp (lkup_cons T104 lkup_nil) Tryd.func75 (by kernel_rfl) (by kernel_rfl) (of_decide_eq_false (by kernel_rfl)) (by kernel_rfl) (fun k ds => by kernel_rfl)
def B12x0 (k6 : Nat) (rec7 : List D → Option (List D)) (ds8 : List D) : Option (List D) :=
 bif decide ((gt ds8 1).i < (gt ds8 0).i) then
  bif ((inRow ((gt ds8 1).i) (((gt ds8 3).r).length)) && true) then
   bif (decide (0 ≤ (bif decide ((((gt ds8 2).r).length : Int) < (gt ds8 1).i) then (((gt ds8 2).r).length : Int) else (gt ds8 1).i)) && decide ((bif decide ((((gt ds8 2).r).length : Int) < (gt ds8 1).i) then (((gt ds8 2).r).length : Int) else (gt ds8 1).i) ≤ (((gt ds8 2).r).length : Int))) then
    (F38 k6 [D.row (List.drop 0 (List.take (Int.toNat (bif decide ((((gt ds8 2).r).length : Int) < (gt ds8 1).i) then (((gt ds8 2).r).length : Int) else (gt ds8 1).i)) ((gt ds8 2).r))), D.int ((elAt ((gt ds8 3).r) ((gt ds8 1).i)).i)]).bind fun ds9 =>
    bif (gt ds9 0).b then
     some [D.int 7]
    else rec7 [D.int ((gt ds8 0).i), D.int (Go.IntKind.i64.wrap ((gt ds8 1).i + 1)), D.row ((gt ds8 2).r), D.row ((gt ds8 3).r)]
   else none
  else none
 else some [D.int 0]
def B12x1 (k0 : Nat) (rec1 : List D → Option (List D)) (ds2 : List D) : Option (List D) :=
 bif decide ((gt ds2 1).i < (gt ds2 0).i) then
  bif ((inRow ((gt ds2 1).i) (((gt ds2 7).r).length)) && true) then
   (F37 k0 [D.int ((elAt ((gt ds2 7).r) ((gt ds2 1).i)).i)]).bind fun ds3 =>
   bif (!(gt ds3 0).b) then
    some [D.int 3]
   else rec1 [D.int ((gt ds2 0).i), D.int (Go.IntKind.i64.wrap ((gt ds2 1).i + 1)), D.int ((gt ds2 2).i), D.int ((gt ds2 3).i), D.int ((gt ds2 4).i), D.int ((gt ds2 5).i), D.int ((gt ds2 6).i), D.row ((gt ds2 7).r)]
  else none
 else (bif ((gt ds2 5).i != 0) then
   (F37 k0 [D.int ((gt ds2 5).i)]).bind fun ds4 =>
   some [D.bool (!(gt ds4 0).b)]
  else some [D.bool false]).bind fun ds5 =>
 bif (gt ds5 0).b then
  some [D.int 3]
 else bif (needOk (((gt ds2 7).r).length + [D.int ((gt ds2 5).i)].length) 1) then
  iter B12x0 k0 [D.int (((gt ds2 7).r ++ [D.int ((gt ds2 5).i)]).length : Int), D.int 0, D.row ((gt ds2 7).r), D.row ((gt ds2 7).r ++ [D.int ((gt ds2 5).i)])]
 else none
/-- interchange/wire.CheckMarks -/
def F12 (k : Nat) (ds : List D) : Option (List D) :=
 iter B12x1 k [D.int ([D.int ((gt ds 0).i), D.int ((gt ds 1).i), D.int ((gt ds 2).i), D.int ((gt ds 4).i)].length : Int), D.int 0, D.int ((gt ds 0).i), D.int ((gt ds 1).i), D.int ((gt ds 2).i), D.int ((gt ds 3).i), D.int ((gt ds 4).i), D.row [D.int ((gt ds 0).i), D.int ((gt ds 1).i), D.int ((gt ds 2).i), D.int ((gt ds 4).i)]]
def K12 : Callee := ⟨[.agg [.int .u8, .int .u8, .int .u8, .int .u8, .int .u8]], [.int .i64], F12⟩
noncomputable def C12 : Code := match Tryd.f12.body with | some c => c | none => .skip
theorem T12 : FunOK Tryd.prog (tyTab TL) 12 K12 :=
 fun_ok (loops := lkup [(3, ⟨[.box 23 [.int .u8, .int .u8, .int .u8, .int .u8, .int .u8], .row 5 true], [(1, .ptr 0 0), (3, .orow 1), (17, .orow 1), (18, .int .i64), (19, .int .i64)]⟩), (11, ⟨[.frz 5, .row 5 false], [(3, .orow 0), (40, .orow 1), (41, .int .i64), (42, .int .i64)]⟩)]) (joins := lkup [(17, .light [(35, .bool)])]) (md := mdL [(10, 4, 2)]) (L := [(37, K37), (38, K38)]) (res := [.tmp 2]) (code := C12) (fn := Tryd.f12) TOKp EOKp MIXp (lkup_cons T37 (lkup_cons T38 lkup_nil)) Tryd.func12 (by kernel_rfl) (by kernel_rfl) (of_decide_eq_false (by kernel_rfl)) (by kernel_rfl) (fun k ds => by kernel_rfl)
def B33x0 (rec10 : List D → Option (List D)) (k12 : Nat) (rec13 : List D → Option (List D)) (ds14 : List D) : Option (List D) :=
 bif decide ((gt ds14 1).i < ((ByteArray.size ((gt ds14 0).s)) : Int)) then
  (bif (((inRow ((gt ds14 1).i) (ByteArray.size ((gt ds14 0).s))) && true) && true) then
    (F98 k12 [D.int ((gt ds14 9).i), D.int ((gt ds14 10).i), D.int ((gt ds14 11).i), D.int ((gt ds14 12).i), D.int ((gt ds14 13).i), D.int ((UInt8.toNat (List.getD (ByteArray.toList ((gt ds14 0).s)) (Int.toNat ((gt ds14 1).i)) 0)) : Int)]).bind fun ds15 =>
    bif (gt ds15 0).b then
     bif ((gt ds14 12).i != 0) then
      bif (needOk (((gt ds14 27).r).length + [D.int ((gt ds14 12).i)].length) 1) then
       some [D.str ((gt ds14 0).s), D.int ((gt ds14 1).i), D.row ((gt ds14 2).r), D.bool ((gt ds14 3).b), D.int ((gt ds14 4).i), D.int ((gt ds14 5).i), D.int ((gt ds14 6).i), D.row ((gt ds14 7).r), D.int ((gt ds14 8).i), D.int ((gt ds14 9).i), D.int ((gt ds14 10).i), D.int ((gt ds14 11).i), D.int ((gt ds14 12).i), D.int ((gt ds14 13).i), D.int (Go.IntKind.i64.wrap ((gt ds14 14).i + 1)), D.int ((gt ds14 15).i), D.int ((gt ds14 16).i), D.int ((gt ds14 17).i), D.int ((gt ds14 18).i), D.int ((gt ds14 19).i), D.int ((gt ds14 20).i), D.int ((gt ds14 21).i), D.int ((gt ds14 22).i), D.int ((gt ds14 23).i), D.int ((gt ds14 24).i), D.int ((gt ds14 25).i), D.int ((gt ds14 26).i), D.row ((gt ds14 27).r ++ [D.int ((gt ds14 12).i)]), D.row ((gt ds14 28).r)]
      else none
     else some [D.str ((gt ds14 0).s), D.int ((gt ds14 1).i), D.row ((gt ds14 2).r), D.bool ((gt ds14 3).b), D.int ((gt ds14 4).i), D.int ((gt ds14 5).i), D.int ((gt ds14 6).i), D.row ((gt ds14 7).r), D.int ((gt ds14 8).i), D.int ((gt ds14 9).i), D.int ((gt ds14 10).i), D.int ((gt ds14 11).i), D.int ((gt ds14 12).i), D.int ((gt ds14 13).i), D.int (Go.IntKind.i64.wrap ((gt ds14 14).i + 1)), D.int ((gt ds14 15).i), D.int ((gt ds14 16).i), D.int ((gt ds14 17).i), D.int ((gt ds14 18).i), D.int ((gt ds14 19).i), D.int ((gt ds14 20).i), D.int ((gt ds14 21).i), D.int ((gt ds14 22).i), D.int ((gt ds14 23).i), D.int ((gt ds14 24).i), D.int ((gt ds14 25).i), D.int ((gt ds14 26).i), D.row ((gt ds14 27).r), D.row ((gt ds14 28).r)]
    else some [D.str ((gt ds14 0).s), D.int ((gt ds14 1).i), D.row ((gt ds14 2).r), D.bool ((gt ds14 3).b), D.int ((gt ds14 4).i), D.int ((gt ds14 5).i), D.int ((gt ds14 6).i), D.row ((gt ds14 7).r), D.int ((gt ds14 8).i), D.int ((gt ds14 9).i), D.int ((gt ds14 10).i), D.int ((gt ds14 11).i), D.int ((gt ds14 12).i), D.int ((gt ds14 13).i), D.int ((gt ds14 14).i), D.int ((gt ds14 15).i), D.int ((gt ds14 16).i), D.int ((gt ds14 17).i), D.int ((gt ds14 18).i), D.int ((gt ds14 19).i), D.int ((gt ds14 20).i), D.int ((gt ds14 21).i), D.int ((gt ds14 22).i), D.int ((gt ds14 23).i), D.int ((gt ds14 24).i), D.int ((gt ds14 25).i), D.int ((gt ds14 26).i), D.row ((gt ds14 27).r), D.row ((gt ds14 28).r)]
   else none).bind fun ds16 =>
  bif (((inRow ((gt ds16 1).i) (ByteArray.size ((gt ds16 0).s))) && true) && true) then
   bif (needOk (((gt ds16 27).r).length + [D.int ((UInt8.toNat (List.getD (ByteArray.toList ((gt ds16 0).s)) (Int.toNat ((gt ds16 1).i)) 0)) : Int)].length) 1) then
    rec13 [D.str ((gt ds16 0).s), D.int (Go.IntKind.i64.wrap ((gt ds16 1).i + 1)), D.row ((gt ds16 2).r), D.bool ((gt ds16 3).b), D.int ((gt ds16 4).i), D.int ((gt ds16 5).i), D.int ((gt ds16 6).i), D.row ((gt ds16 7).r), D.int ((gt ds16 8).i), D.int ((gt ds16 9).i), D.int ((gt ds16 10).i), D.int ((gt ds16 11).i), D.int ((gt ds16 12).i), D.int ((gt ds16 13).i), D.int ((gt ds16 14).i), D.int ((gt ds16 15).i), D.int ((gt ds16 16).i), D.int ((gt ds16 17).i), D.int ((gt ds16 18).i), D.int ((gt ds16 19).i), D.int ((gt ds16 20).i), D.int ((gt ds16 21).i), D.int ((gt ds16 22).i), D.int ((gt ds16 23).i), D.int ((gt ds16 24).i), D.int ((gt ds16 25).i), D.int ((gt ds16 26).i), D.row ((gt ds16 27).r ++ [D.int ((UInt8.toNat (List.getD (ByteArray.toList ((gt ds16 0).s)) (Int.toNat ((gt ds16 1).i)) 0)) : Int)]), D.row ((gt ds16 28).r)]
   else none
  else none
 else bif (needOk (((gt ds14 28).r).length + [D.agg [D.int ((gt ds14 15).i), D.int ((gt ds14 16).i), D.int ((gt ds14 17).i), D.int ((gt ds14 18).i), D.int ((gt ds14 19).i), D.int ((gt ds14 20).i), D.int (((gt ds14 27).r).length : Int)]].length) 56) then
  rec10 [D.row ((gt ds14 2).r), D.bool ((gt ds14 3).b), D.int ((gt ds14 4).i), D.int ((gt ds14 5).i), D.int ((gt ds14 23).i), D.int ((gt ds14 6).i), D.row ((gt ds14 7).r), D.int (Go.IntKind.i64.wrap ((gt ds14 8).i + 1)), D.int ((gt ds14 22).i), D.int ((gt ds14 23).i), D.int ((gt ds14 24).i), D.int ((gt ds14 25).i), D.int ((gt ds14 26).i), D.int ((gt ds14 9).i), D.int ((gt ds14 10).i), D.int ((gt ds14 11).i), D.int ((gt ds14 12).i), D.int ((gt ds14 13).i), D.int ((gt ds14 14).i), D.row ((gt ds14 27).r), D.row ((gt ds14 28).r ++ [D.agg [D.int ((gt ds14 15).i), D.int ((gt ds14 16).i), D.int ((gt ds14 17).i), D.int ((gt ds14 18).i), D.int ((gt ds14 19).i), D.int ((gt ds14 20).i), D.int (((gt ds14 27).r).length : Int)]])]
 else none
def B33x1 (rec7 : List D → Option (List D)) (k9 : Nat) (rec10 : List D → Option (List D)) (ds11 : List D) : Option (List D) :=
 bif decide ((gt ds11 7).i < (((gt ds11 6).r).length : Int)) then
  bif ((inRow ((gt ds11 7).i) (((gt ds11 6).r).length)) && true) then
   bif (needOk (((gt ds11 19).r).length + [D.int ((gt ds11 4).i)].length) 1) then
    iter (B33x0 rec10) k9 [D.str ((elAt ((gt ds11 6).r) ((gt ds11 7).i)).s), D.int 0, D.row ((gt ds11 0).r), D.bool ((gt ds11 1).b), D.int ((gt ds11 2).i), D.int ((gt ds11 3).i), D.int ((gt ds11 5).i), D.row ((gt ds11 6).r), D.int ((gt ds11 7).i), D.int ((gt ds11 13).i), D.int ((gt ds11 14).i), D.int ((gt ds11 15).i), D.int ((gt ds11 16).i), D.int ((gt ds11 17).i), D.int ((gt ds11 18).i), D.int ((gt ds11 2).i), D.int (Go.IntKind.i64.wrap ((gt ds11 3).i + 1)), D.int (Go.IntKind.i64.wrap ((gt ds11 5).i + 1)), D.int (Go.IntKind.i64.wrap ((gt ds11 7).i + 1)), D.int (((gt ds11 19).r).length : Int), D.int (((gt ds11 19).r ++ [D.int ((gt ds11 4).i)]).length : Int), D.int 0, D.int ((gt ds11 8).i), D.int ((gt ds11 9).i), D.int ((gt ds11 10).i), D.int ((gt ds11 11).i), D.int ((gt ds11 12).i), D.row ((gt ds11 19).r ++ [D.int ((gt ds11 4).i)]), D.row ((gt ds11 20).r)]
   else none
  else none
 else rec7 [D.row ((gt ds11 0).r), D.bool ((gt ds11 1).b), D.int ((gt ds11 2).i), D.int ((gt ds11 3).i), D.int ((gt ds11 10).i), D.int (Go.IntKind.i64.wrap ((gt ds11 5).i + 1)), D.int ((gt ds11 8).i), D.int ((gt ds11 9).i), D.int ((gt ds11 10).i), D.int ((gt ds11 11).i), D.int ((gt ds11 12).i), D.int ((gt ds11 13).i), D.int ((gt ds11 14).i), D.int ((gt ds11 15).i), D.int ((gt ds11 16).i), D.int ((gt ds11 17).i), D.int ((gt ds11 18).i), D.row ((gt ds11 19).r), D.row ((gt ds11 20).r)]
def B33x2 (rec4 : List D → Option (List D)) (k6 : Nat) (rec7 : List D → Option (List D)) (ds8 : List D) : Option (List D) :=
 bif ((inRow ((gt ds8 2).i) (((gt ds8 0).r).length)) && true) then
  bif ((inRow ((gt ds8 3).i) ((((elAt ((gt ds8 0).r) ((gt ds8 2).i)).c 1).r).length)) && true) then
   bif decide ((gt ds8 5).i < ((((elAt (((elAt ((gt ds8 0).r) ((gt ds8 2).i)).c 1).r) ((gt ds8 3).i)).c 0).r).length : Int)) then
    bif ((inRow ((gt ds8 2).i) (((gt ds8 0).r).length)) && true) then
     bif ((inRow ((gt ds8 3).i) ((((elAt ((gt ds8 0).r) ((gt ds8 2).i)).c 1).r).length)) && true) then
      bif ((inRow ((gt ds8 5).i) ((((elAt (((elAt ((gt ds8 0).r) ((gt ds8 2).i)).c 1).r) ((gt ds8 3).i)).c 0).r).length)) && true) then
       iter (B33x1 rec7) k6 [D.row ((gt ds8 0).r), D.bool ((gt ds8 1).b), D.int ((gt ds8 2).i), D.int ((gt ds8 3).i), D.int ((gt ds8 4).i), D.int ((gt ds8 5).i), D.row ((elAt (((elAt (((elAt ((gt ds8 0).r) ((gt ds8 2).i)).c 1).r) ((gt ds8 3).i)).c 0).r) ((gt ds8 5).i)).r), D.int 0, D.int ((gt ds8 6).i), D.int ((gt ds8 7).i), D.int ((gt ds8 8).i), D.int ((gt ds8 9).i), D.int ((gt ds8 10).i), D.int ((gt ds8 11).i), D.int ((gt ds8 12).i), D.int ((gt ds8 13).i), D.int ((gt ds8 14).i), D.int ((gt ds8 15).i), D.int ((gt ds8 16).i), D.row ((gt ds8 17).r), D.row ((gt ds8 18).r)]
      else none
     else none
    else none
   else rec4 [D.row ((gt ds8 0).r), D.bool ((gt ds8 1).b), D.int ((gt ds8 2).i), D.int (Go.IntKind.i64.wrap ((gt ds8 3).i + 1)), D.int ((gt ds8 6).i), D.int ((gt ds8 7).i), D.int ((gt ds8 8).i), D.int ((gt ds8 9).i), D.int ((gt ds8 10).i), D.int ((gt ds8 11).i), D.int ((gt ds8 12).i), D.int ((gt ds8 13).i), D.int ((gt ds8 14).i), D.int ((gt ds8 15).i), D.int ((gt ds8 16).i), D.row ((gt ds8 17).r), D.row ((gt ds8 18).r)]
  else none
 else none
def B33x3 (k3 : Nat) (rec4 : List D → Option (List D)) (ds5 : List D) : Option (List D) :=
 bif ((inRow ((gt ds5 2).i) (((gt ds5 0).r).length)) && true) then
  bif decide ((gt ds5 3).i < ((((elAt ((gt ds5 0).r) ((gt ds5 2).i)).c 1).r).length : Int)) then
   iter (B33x2 rec4) k3 [D.row ((gt ds5 0).r), D.bool ((gt ds5 1).b), D.int ((gt ds5 2).i), D.int ((gt ds5 3).i), D.int ((gt ds5 4).i), D.int 0, D.int ((gt ds5 4).i), D.int ((gt ds5 5).i), D.int ((gt ds5 6).i), D.int ((gt ds5 7).i), D.int ((gt ds5 8).i), D.int ((gt ds5 9).i), D.int ((gt ds5 10).i), D.int ((gt ds5 11).i), D.int ((gt ds5 12).i), D.int ((gt ds5 13).i), D.int ((gt ds5 14).i), D.row ((gt ds5 15).r), D.row ((gt ds5 16).r)]
  else bif (needOk (((gt ds5 15).r).length + [D.int ((gt ds5 8).i)].length) 1) then
   bif (gt ds5 1).b then
    bif (needOk (((gt ds5 15).r ++ [D.int ((gt ds5 8).i)]).length + 1) 1) then
     some [D.row ((gt ds5 0).r), D.bool ((gt ds5 1).b), D.int ((gt ds5 2).i), D.int ((gt ds5 4).i), D.int ((gt ds5 5).i), D.int ((gt ds5 6).i), D.int ((gt ds5 7).i), D.int ((gt ds5 8).i), D.int ((gt ds5 9).i), D.int ((gt ds5 10).i), D.int ((gt ds5 11).i), D.int ((gt ds5 12).i), D.int ((gt ds5 13).i), D.int ((gt ds5 14).i), D.row (((gt ds5 15).r ++ [D.int ((gt ds5 8).i)]) ++ [D.int 10]), D.row ((gt ds5 16).r)]
    else none
   else some [D.row ((gt ds5 0).r), D.bool ((gt ds5 1).b), D.int ((gt ds5 2).i), D.int ((gt ds5 4).i), D.int ((gt ds5 5).i), D.int ((gt ds5 6).i), D.int ((gt ds5 7).i), D.int ((gt ds5 8).i), D.int ((gt ds5 9).i), D.int ((gt ds5 10).i), D.int ((gt ds5 11).i), D.int ((gt ds5 12).i), D.int ((gt ds5 13).i), D.int ((gt ds5 14).i), D.row ((gt ds5 15).r ++ [D.int ((gt ds5 8).i)]), D.row ((gt ds5 16).r)]
  else none
 else none
def B33x4 (k0 : Nat) (rec1 : List D → Option (List D)) (ds2 : List D) : Option (List D) :=
 bif decide ((gt ds2 2).i < (((gt ds2 0).r).length : Int)) then
  (bif ((inRow ((gt ds2 2).i) (((gt ds2 0).r).length)) && true) then
    bif (needOk (((gt ds2 15).r).length + [D.agg [D.int ((gt ds2 2).i), D.int 0, D.int 0, D.int 0, D.int (((gt ds2 14).r).length : Int), D.int (((gt ds2 14).r).length : Int), D.int (Go.IntKind.i64.wrap ((((gt ds2 14).r).length : Int) + ((ByteArray.size (((elAt ((gt ds2 0).r) ((gt ds2 2).i)).c 0).s)) : Int)))]].length) 56) then
     bif ((inRow ((gt ds2 2).i) (((gt ds2 0).r).length)) && true) then
      bif (needOk (((gt ds2 14).r).length + (List.map (fun c => D.int ((UInt8.toNat c) : Int)) (ByteArray.toList (((elAt ((gt ds2 0).r) ((gt ds2 2).i)).c 0).s))).length) 1) then
       iter B33x3 k0 [D.row ((gt ds2 0).r), D.bool ((gt ds2 1).b), D.int ((gt ds2 2).i), D.int 0, D.int ((gt ds2 3).i), D.int ((gt ds2 4).i), D.int ((gt ds2 5).i), D.int ((gt ds2 6).i), D.int ((gt ds2 7).i), D.int ((gt ds2 8).i), D.int ((gt ds2 9).i), D.int ((gt ds2 10).i), D.int ((gt ds2 11).i), D.int ((gt ds2 12).i), D.int ((gt ds2 13).i), D.row ((gt ds2 14).r ++ (List.map (fun c => D.int ((UInt8.toNat c) : Int)) (ByteArray.toList (((elAt ((gt ds2 0).r) ((gt ds2 2).i)).c 0).s)))), D.row ((gt ds2 15).r ++ [D.agg [D.int ((gt ds2 2).i), D.int 0, D.int 0, D.int 0, D.int (((gt ds2 14).r).length : Int), D.int (((gt ds2 14).r).length : Int), D.int (Go.IntKind.i64.wrap ((((gt ds2 14).r).length : Int) + ((ByteArray.size (((elAt ((gt ds2 0).r) ((gt ds2 2).i)).c 0).s)) : Int)))]])]
      else none
     else none
    else none
   else none).bind fun ds17 =>
  rec1 [D.row ((gt ds17 0).r), D.bool ((gt ds17 1).b), D.int (Go.IntKind.i64.wrap ((gt ds17 2).i + 1)), D.int ((gt ds17 3).i), D.int ((gt ds17 4).i), D.int ((gt ds17 5).i), D.int ((gt ds17 6).i), D.int ((gt ds17 7).i), D.int ((gt ds17 8).i), D.int ((gt ds17 9).i), D.int ((gt ds17 10).i), D.int ((gt ds17 11).i), D.int ((gt ds17 12).i), D.int ((gt ds17 13).i), D.row ((gt ds17 14).r), D.row ((gt ds17 15).r)]
 else some [D.agg [D.bool false, D.agg [D.int ((gt ds2 8).i), D.int ((gt ds2 9).i), D.int ((gt ds2 10).i), D.int ((gt ds2 11).i), D.int ((gt ds2 12).i), D.row ((gt ds2 14).r), D.row ((gt ds2 15).r), D.int ((gt ds2 13).i)]]]
/-- interchange/interchangeref2.written -/
def F33 (k : Nat) (ds : List D) : Option (List D) :=
 iter B33x4 k [D.row ((gt ds 0).r), D.bool ((gt ds 6).b), D.int 0, D.int ((gt ds 1).i), D.int ((gt ds 2).i), D.int ((gt ds 3).i), D.int ((gt ds 4).i), D.int ((gt ds 5).i), D.int ((gt ds 1).i), D.int ((gt ds 2).i), D.int ((gt ds 3).i), D.int ((gt ds 4).i), D.int ((gt ds 5).i), D.int 0, D.row [], D.row []]
def K33 : Callee := ⟨[.seen 53, .agg [.int .u8, .int .u8, .int .u8, .int .u8, .int .u8], .bool], [.sp 66 [.int .u8, .int .u8, .int .u8, .int .u8, .int .u8, .seen 5, .seen 90, .int .i64]], F33⟩
noncomputable def C33 : Code := match Tryd.f33.body with | some c => c | none => .skip
noncomputable def C66 : Code := match Tryd.f66.body with | some c => c | none => .skip
/-- (*interchange/interchangeref2.writer).part, in place -/
noncomputable def X33_1 : Inl := inlOf (tyTab TL) ⟨lkup [(5, ⟨[.box 66 [.int .u8, .int .u8, .int .u8, .int .u8, .int .u8, .orow 3, .orow 4, .int .i64], .box 90 [.int .i64, .int .i64, .int .i64, .int .i64, .int .i64, .int .i64, .int .i64], .box 23 [.int .u8, .int .u8, .int .u8, .int .u8, .int .u8], .row 5 false, .row 90 false], [(0, .ptr 0 0), (4, .str), (10, .ptr 1 0), (11, .int .i64), (1000000, .srow 53), (1000002, .bool), (1000004, .ptr 2 0), (1000007, .ptr 0 0), (1000008, .int .i64), (1000009, .int .i64), (1000011, .int .i64), (1000012, .srow 9), (1000013, .int .i64)]⟩)], lkup [(22, .full ⟨[.box 66 [.int .u8, .int .u8, .int .u8, .int .u8, .int .u8, .orow 3, .orow 4, .int .i64], .box 90 [.int .i64, .int .i64, .int .i64, .int .i64, .int .i64, .int .i64, .int .i64], .box 23 [.int .u8, .int .u8, .int .u8, .int .u8, .int .u8], .row 5 false, .row 90 false], [(0, .ptr 0 0), (4, .str), (10, .ptr 1 0), (11, .int .i64), (1000000, .srow 53), (1000002, .bool), (1000004, .ptr 2 0), (1000007, .ptr 0 0), (1000008, .int .i64), (1000009, .int .i64), (1000011, .int .i64), (1000012, .srow 9), (1000013, .int .i64)]⟩)], mdL [], envL [(98, K98)], itr, inlL [], hasL [], 1000⟩ C66 []
theorem O33_1 : InlOK Tryd.prog (tyTab TL) 66 X33_1 :=
 inl_ok TOKp EOKp MIXp (lkup_cons T98 lkup_nil) inlL_nil (fn := Tryd.f66) Tryd.func66 (by kernel_rfl) (by kernel_rfl) (of_decide_eq_false (by kernel_rfl)) (by kernel_rfl)
theorem T33 : FunOK Tryd.prog (tyTab TL) 33 K33 :=
 fun_ok_i (loops := lkup [(16, ⟨[.box 23 [.int .u8, .int .u8, .int .u8, .int .u8, .int .u8], .box 66 [.int .u8, .int .u8, .int .u8, .int .u8, .int .u8, .orow 2, .orow 3, .int .i64], .row 5 false, .row 90 false], [(0, .srow 53), (2, .bool), (4, .ptr 0 0), (7, .ptr 1 0), (8, .int .i64), (9, .int .i64), (10, .int .u8), (11, .int .i64), (12, .srow 9), (13, .int .i64)]⟩), (12, ⟨[.box 23 [.int .u8, .int .u8, .int .u8, .int .u8, .int .u8], .box 66 [.int .u8, .int .u8, .int .u8, .int .u8, .int .u8, .orow 2, .orow 3, .int .i64], .row 5 false, .row 90 false], [(0, .srow 53), (2, .bool), (4, .ptr 0 0), (7, .ptr 1 0), (8, .int .i64), (9, .int .i64), (10, .int .u8), (11, .int .i64)]⟩), (8, ⟨[.box 23 [.int .u8, .int .u8, .int .u8, .int .u8, .int .u8], .box 66 [.int .u8, .int .u8, .int .u8, .int .u8, .int .u8, .orow 2, .orow 3, .int .i64], .row 5 false, .row 90 false], [(0, .srow 53), (2, .bool), (4, .ptr 0 0), (7, .ptr 1 0), (8, .int .i64), (9, .int .i64)]⟩), (3, ⟨[.box 23 [.int .u8, .int .u8, .int .u8, .int .u8, .int .u8], .box 66 [.int .u8, .int .u8, .int .u8, .int .u8, .int .u8, .orow 2, .orow 3, .int .i64], .row 5 false, .row 90 false], [(0, .srow 53), (2, .bool), (4, .ptr 0 0), (7, .ptr 1 0), (8, .int .i64)]⟩)]) (joins := lkup [(8, .full ⟨[.box 23 [.int .u8, .int .u8, .int .u8, .int .u8, .int .u8], .box 66 [.int .u8, .int .u8, .int .u8, .int .u8, .int .u8, .orow 2, .orow 3, .int .i64], .row 5 false, .row 90 false], [(0, .srow 53), (2, .bool), (4, .ptr 0 0), (7, .ptr 1 0), (8, .int .i64)]⟩)]) (md := mdL []) (L := [(98, K98)]) (I := [(18, 14, 66, X33_1)]) (res := [.tmp 6]) (code := C33) (fn := Tryd.f33) TOKp EOKp MIXp (lkup_cons T98 lkup_nil) (inlL_cons O33_1 inlL_nil) Tryd.func33 (by kernel_rfl) (by kernel_rfl) (of_decide_eq_false (by kernel_rfl)) (by kernel_rfl) (fun k ds => by kernel_rfl)
def B35x0 (rec7 : List D → Option (List D)) (k9 : Nat) (rec10 : List D → Option (List D)) (ds11 : List D) : Option (List D) :=
 bif decide ((gt ds11 12).i < (gt ds11 11).i) then
  bif ((inRow ((gt ds11 12).i) (((gt ds11 10).r).length)) && true) then
   (F67 k9 [D.int ((gt ds11 13).i), D.int ((gt ds11 14).i), D.int ((gt ds11 15).i), D.int ((gt ds11 16).i), D.int ((gt ds11 17).i), D.str ((elAt ((gt ds11 10).r) ((gt ds11 12).i)).s)]).bind fun ds12 =>
   rec10 [D.int (Go.IntKind.i64.wrap ((gt ds11 0).i + (gt ds12 0).i)), D.row ((gt ds11 1).r), D.int ((gt ds11 2).i), D.int ((gt ds11 3).i), D.row ((gt ds11 4).r), D.int ((gt ds11 5).i), D.int ((gt ds11 6).i), D.row ((gt ds11 7).r), D.int ((gt ds11 8).i), D.int ((gt ds11 9).i), D.row ((gt ds11 10).r), D.int ((gt ds11 11).i), D.int (Go.IntKind.i64.wrap ((gt ds11 12).i + 1)), D.int ((gt ds11 13).i), D.int ((gt ds11 14).i), D.int ((gt ds11 15).i), D.int ((gt ds11 16).i), D.int ((gt ds11 17).i)]
  else none
 else rec7 [D.int ((gt ds11 0).i), D.row ((gt ds11 1).r), D.int ((gt ds11 2).i), D.int ((gt ds11 3).i), D.row ((gt ds11 4).r), D.int ((gt ds11 5).i), D.int ((gt ds11 6).i), D.row ((gt ds11 7).r), D.int ((gt ds11 8).i), D.int (Go.IntKind.i64.wrap ((gt ds11 9).i + 1)), D.int ((gt ds11 13).i), D.int ((gt ds11 14).i), D.int ((gt ds11 15).i), D.int ((gt ds11 16).i), D.int ((gt ds11 17).i)]
def B35x1 (rec4 : List D → Option (List D)) (k6 : Nat) (rec7 : List D → Option (List D)) (ds8 : List D) : Option (List D) :=
 bif decide ((gt ds8 9).i < (gt ds8 8).i) then
  bif ((inRow ((gt ds8 9).i) (((gt ds8 7).r).length)) && true) then
   iter (B35x0 rec7) k6 [D.int ((gt ds8 0).i), D.row ((gt ds8 1).r), D.int ((gt ds8 2).i), D.int ((gt ds8 3).i), D.row ((gt ds8 4).r), D.int ((gt ds8 5).i), D.int ((gt ds8 6).i), D.row ((gt ds8 7).r), D.int ((gt ds8 8).i), D.int ((gt ds8 9).i), D.row ((elAt ((gt ds8 7).r) ((gt ds8 9).i)).r), D.int (((elAt ((gt ds8 7).r) ((gt ds8 9).i)).r).length : Int), D.int 0, D.int ((gt ds8 10).i), D.int ((gt ds8 11).i), D.int ((gt ds8 12).i), D.int ((gt ds8 13).i), D.int ((gt ds8 14).i)]
  else none
 else rec4 [D.int ((gt ds8 0).i), D.row ((gt ds8 1).r), D.int ((gt ds8 2).i), D.int ((gt ds8 3).i), D.row ((gt ds8 4).r), D.int ((gt ds8 5).i), D.int (Go.IntKind.i64.wrap ((gt ds8 6).i + 1)), D.int ((gt ds8 10).i), D.int ((gt ds8 11).i), D.int ((gt ds8 12).i), D.int ((gt ds8 13).i), D.int ((gt ds8 14).i)]
def B35x2 (rec1 : List D → Option (List D)) (k3 : Nat) (rec4 : List D → Option (List D)) (ds5 : List D) : Option (List D) :=
 bif decide ((gt ds5 6).i < (gt ds5 5).i) then
  bif ((inRow ((gt ds5 6).i) (((gt ds5 4).r).length)) && true) then
   iter (B35x1 rec4) k3 [D.int ((gt ds5 0).i), D.row ((gt ds5 1).r), D.int ((gt ds5 2).i), D.int ((gt ds5 3).i), D.row ((gt ds5 4).r), D.int ((gt ds5 5).i), D.int ((gt ds5 6).i), D.row (((elAt ((gt ds5 4).r) ((gt ds5 6).i)).c 0).r), D.int ((((elAt ((gt ds5 4).r) ((gt ds5 6).i)).c 0).r).length : Int), D.int 0, D.int ((gt ds5 7).i), D.int ((gt ds5 8).i), D.int ((gt ds5 9).i), D.int ((gt ds5 10).i), D.int ((gt ds5 11).i)]
  else none
 else rec1 [D.int ((gt ds5 0).i), D.row ((gt ds5 1).r), D.int ((gt ds5 2).i), D.int (Go.IntKind.i64.wrap ((gt ds5 3).i + 1)), D.int ((gt ds5 7).i), D.int ((gt ds5 8).i), D.int ((gt ds5 9).i), D.int ((gt ds5 10).i), D.int ((gt ds5 11).i)]
def B35x3 (k0 : Nat) (rec1 : List D → Option (List D)) (ds2 : List D) : Option (List D) :=
 bif decide ((gt ds2 3).i < (gt ds2 2).i) then
  bif ((inRow ((gt ds2 3).i) (((gt ds2 1).r).length)) && true) then
   iter (B35x2 rec1) k0 [D.int ((gt ds2 0).i), D.row ((gt ds2 1).r), D.int ((gt ds2 2).i), D.int ((gt ds2 3).i), D.row (((elAt ((gt ds2 1).r) ((gt ds2 3).i)).c 1).r), D.int ((((elAt ((gt ds2 1).r) ((gt ds2 3).i)).c 1).r).length : Int), D.int 0, D.int ((gt ds2 4).i), D.int ((gt ds2 5).i), D.int ((gt ds2 6).i), D.int ((gt ds2 7).i), D.int ((gt ds2 8).i)]
  else none
 else some [D.int ((gt ds2 0).i)]
/-- interchange/wire.escapes -/
def F35 (k : Nat) (ds : List D) : Option (List D) :=
 iter B35x3 k [D.int 0, D.row ((gt ds 0).r), D.int (((gt ds 0).r).length : Int), D.int 0, D.int ((gt ds 1).i), D.int ((gt ds 2).i), D.int ((gt ds 3).i), D.int ((gt ds 4).i), D.int ((gt ds 5).i)]
def K35 : Callee := ⟨[.seen 53, .agg [.int .u8, .int .u8, .int .u8, .int .u8, .int .u8]], [.int .i64], F35⟩
noncomputable def C35 : Code := match Tryd.f35.body with | some c => c | none => .skip
theorem T35 : FunOK Tryd.prog (tyTab TL) 35 K35 :=
 fun_ok (loops := lkup [(12, ⟨[.box 23 [.int .u8, .int .u8, .int .u8, .int .u8, .int .u8]], [(3, .ptr 0 0), (5, .int .i64), (14, .srow 53), (15, .int .i64), (16, .int .i64), (21, .srow 76), (22, .int .i64), (23, .int .i64), (28, .srow 100), (29, .int .i64), (30, .int .i64), (34, .srow 9), (35, .int .i64), (36, .int .i64)]⟩), (9, ⟨[.box 23 [.int .u8, .int .u8, .int .u8, .int .u8, .int .u8]], [(3, .ptr 0 0), (5, .int .i64), (14, .srow 53), (15, .int .i64), (16, .int .i64), (21, .srow 76), (22, .int .i64), (23, .int .i64), (28, .srow 100), (29, .int .i64), (30, .int .i64)]⟩), (6, ⟨[.box 23 [.int .u8, .int .u8, .int .u8, .int .u8, .int .u8]], [(3, .ptr 0 0), (5, .int .i64), (14, .srow 53), (15, .int .i64), (16, .int .i64), (21, .srow 76), (22, .int .i64), (23, .int .i64)]⟩), (3, ⟨[.box 23 [.int .u8, .int .u8, .int .u8, .int .u8, .int .u8]], [(3, .ptr 0 0), (5, .int .i64), (14, .srow 53), (15, .int .i64), (16, .int .i64)]⟩)]) (joins := lkup []) (md := mdL []) (L := [(67, K67)]) (res := [.tmp 4]) (code := C35) (fn := Tryd.f35) TOKp EOKp MIXp (lkup_cons T67 lkup_nil) Tryd.func35 (by kernel_rfl) (by kernel_rfl) (of_decide_eq_false (by kernel_rfl)) (by kernel_rfl) (fun k ds => by kernel_rfl)
def B39x0 (k1 : Nat) (rec2 : List D → Option (List D)) (ds3 : List D) : Option (List D) :=
 bif decide ((gt ds3 0).i < (((gt ds3 2).r).length : Int)) then
  bif ((inRow ((gt ds3 0).i) (((gt ds3 2).r).length)) && true) then
   (F73 k1 [D.row (((elAt ((gt ds3 2).r) ((gt ds3 0).i)).c 0).r)]).bind fun ds4 =>
   bif ((gt ds4 0).i != 0) then
    some [D.int ((gt ds4 0).i)]
   else rec2 [D.int (Go.IntKind.i64.wrap ((gt ds3 0).i + 1)), D.str ((gt ds3 1).s), D.row ((gt ds3 2).r)]
  else none
 else some [D.int 0]
/-- interchange/interchangeref2.CheckOne -/
def F39 (k : Nat) (ds : List D) : Option (List D) :=
 (F72 k [D.str ((gt ds 0).s)]).bind fun ds0 =>
 bif (!(gt ds0 0).b) then
  some [D.int 5]
 else bif decide ((((gt ds 1).r).length : Int) > 50) then
  some [D.int 2]
 else iter B39x0 k [D.int 0, D.str ((gt ds 0).s), D.row ((gt ds 1).r)]
def K39 : Callee := ⟨[.agg [.str, .seen 76]], [.int .i64], F39⟩
noncomputable def C39 : Code := match Tryd.f39.body with | some c => c | none => .skip
theorem T39 : FunOK Tryd.prog (tyTab TL) 39 K39 :=
 fun_ok (loops := lkup [(6, ⟨[.box 53 [.str, .srow 76]], [(1, .ptr 0 0), (3, .int .i64)]⟩)]) (joins := lkup []) (md := mdL []) (L := [(72, K72), (73, K73)]) (res := [.tmp 2]) (code := C39) (fn := Tryd.f39) TOKp EOKp MIXp (lkup_cons T72 (lkup_cons T73 lkup_nil)) Tryd.func39 (by kernel_rfl) (by kernel_rfl) (of_decide_eq_false (by kernel_rfl)) (by kernel_rfl) (fun k ds => by kernel_rfl)
def B41x0 (rec1 : List D → Option (List D)) (k3 : Nat) (rec4 : List D → Option (List D)) (ds5 : List D) : Option (List D) :=
 bif decide ((gt ds5 5).i < (gt ds5 4).i) then
  bif ((inRow ((gt ds5 5).i) (((gt ds5 3).r).length)) && true) then
   (F75 k3 [D.str ((elAt ((gt ds5 3).r) ((gt ds5 5).i)).s)]).bind fun ds6 =>
   bif ((gt ds6 0).i != 0) then
    some [D.int ((gt ds6 0).i)]
   else rec4 [D.row ((gt ds5 0).r), D.int ((gt ds5 1).i), D.int ((gt ds5 2).i), D.row ((gt ds5 3).r), D.int ((gt ds5 4).i), D.int (Go.IntKind.i64.wrap ((gt ds5 5).i + 1))]
  else none
 else rec1 [D.row ((gt ds5 0).r), D.int ((gt ds5 1).i), D.int (Go.IntKind.i64.wrap ((gt ds5 2).i + 1))]
def B41x1 (k0 : Nat) (rec1 : List D → Option (List D)) (ds2 : List D) : Option (List D) :=
 bif decide ((gt ds2 2).i < (gt ds2 1).i) then
  bif ((inRow ((gt ds2 2).i) (((gt ds2 0).r).length)) && true) then
   bif ((((elAt ((gt ds2 0).r) ((gt ds2 2).i)).r).length : Int) == 0) then
    some [D.int 9]
   else bif decide ((((elAt ((gt ds2 0).r) ((gt ds2 2).i)).r).length : Int) > 20) then
    some [D.int 2]
   else iter (B41x0 rec1) k0 [D.row ((gt ds2 0).r), D.int ((gt ds2 1).i), D.int ((gt ds2 2).i), D.row ((elAt ((gt ds2 0).r) ((gt ds2 2).i)).r), D.int (((elAt ((gt ds2 0).r) ((gt ds2 2).i)).r).length : Int), D.int 0]
  else none
 else some [D.int 0]
/-- interchange/wire.elementFault -/
def F41 (k : Nat) (ds : List D) : Option (List D) :=
 bif ((((gt ds 0).r).length : Int) == 0) then
  some [D.int 9]
 else bif decide ((((gt ds 0).r).length : Int) > 20) then
  some [D.int 2]
 else iter B41x1 k [D.row ((gt ds 0).r), D.int (((gt ds 0).r).length : Int), D.int 0]
def K41 : Callee := ⟨[.agg [.seen 100]], [.int .i64], F41⟩
noncomputable def C41 : Code := match Tryd.f41.body with | some c => c | none => .skip
theorem T41 : FunOK Tryd.prog (tyTab TL) 41 K41 :=
 fun_ok (loops := lkup [(13, ⟨[], [(17, .srow 100), (18, .int .i64), (19, .int .i64), (29, .srow 9), (30, .int .i64), (31, .int .i64)]⟩), (6, ⟨[], [(17, .srow 100), (18, .int .i64), (19, .int .i64)]⟩)]) (joins := lkup []) (md := mdL []) (L := [(75, K75)]) (res := [.tmp 2]) (code := C41) (fn := Tryd.f41) TOKp EOKp MIXp (lkup_cons T75 lkup_nil) Tryd.func41 (by kernel_rfl) (by kernel_rfl) (of_decide_eq_false (by kernel_rfl)) (by kernel_rfl) (fun k ds => by kernel_rfl)
/-- interchange/wire.Heading -/
def F42 (k : Nat) (ds : List D) : Option (List D) :=
 (F12 k [D.int ((gt ds 0).i), D.int ((gt ds 1).i), D.int ((gt ds 2).i), D.int ((gt ds 3).i), D.int ((gt ds 4).i)]).bind fun ds0 =>
 bif ((gt ds0 0).i != 0) then
  some [D.row [], D.int ((gt ds0 0).i)]
 else (bif ((gt ds 3).i == 0) then
   some [D.int 32]
  else some [D.int ((gt ds 3).i)]).bind fun ds1 =>
 some [D.row ([D.int 77, D.int 82, D.int 75] ++ [D.int ((gt ds 0).i), D.int ((gt ds 1).i), D.int ((gt ds 2).i), D.int ((gt ds1 0).i), D.int ((gt ds 4).i)]), D.int 0]
def K42 : Callee := ⟨[.agg [.int .u8, .int .u8, .int .u8, .int .u8, .int .u8]], [.own 5, .int .i64], F42⟩
noncomputable def C42 : Code := match Tryd.f42.body with | some c => c | none => .skip
theorem T42 : FunOK Tryd.prog (tyTab TL) 42 K42 :=
 fun_ok (loops := lkup []) (joins := lkup [(14, .light [(5, .int .u8)])]) (md := mdL []) (L := [(12, K12)]) (res := [.tmp 2, .tmp 3]) (code := C42) (fn := Tryd.f42) TOKp EOKp MIXp (lkup_cons T12 lkup_nil) Tryd.func42 (by kernel_rfl) (by kernel_rfl) (of_decide_eq_false (by kernel_rfl)) (by kernel_rfl) (fun k ds => by kernel_rfl)
/-- interchange/interchangeref2.join -/
def F43 (k : Nat) (ds : List D) : Option (List D) :=
 (F33 k [D.row ((gt ds 0).r), D.int ((gt ds 1).i), D.int ((gt ds 2).i), D.int ((gt ds 3).i), D.int ((gt ds 4).i), D.int ((gt ds 5).i), D.bool ((gt ds 6).b)]).bind fun ds0 =>
 (bif ((gt ds 4).i == 0) then
   bif (!((gt ds0 0).c 0).b) then
    some [D.bool (decide ((((gt ds0 0).c 1).c 7).i > 0))]
   else none
  else some [D.bool false]).bind fun ds1 =>
 bif (gt ds1 0).b then
  some [D.agg [D.bool true, D.int 0], D.int 3]
 else bif (!((gt ds0 0).c 0).b) then
  bif decide ((((((gt ds0 0).c 1).c 5).r).length : Int) > (gt ds 7).i) then
   some [D.agg [D.bool true, D.int 0], D.int 2]
  else some [(gt ds0 0), D.int 0]
 else none
def K43 : Callee := ⟨[.seen 53, .agg [.int .u8, .int .u8, .int .u8, .int .u8, .int .u8], .bool, .int .i64], [.sp 66 [.int .u8, .int .u8, .int .u8, .int .u8, .int .u8, .seen 5, .seen 90, .int .i64], .int .i64], F43⟩
noncomputable def C43 : Code := match Tryd.f43.body with | some c => c | none => .skip
theorem T43 : FunOK Tryd.prog (tyTab TL) 43 K43 :=
 fun_ok (loops := lkup []) (joins := lkup [(5, .light [(24, .bool)])]) (md := mdL []) (L := [(33, K33)]) (res := [.tmp 8, .tmp 9]) (code := C43) (fn := Tryd.f43) TOKp EOKp MIXp (lkup_cons T33 lkup_nil) Tryd.func43 (by kernel_rfl) (by kernel_rfl) (of_decide_eq_false (by kernel_rfl)) (by kernel_rfl) (fun k ds => by kernel_rfl)
/-- interchange/interchangeref2.checkSpot -/
def F45 (k : Nat) (ds : List D) : Option (List D) :=
 (F39 k [D.str ((gt ds 0).s), D.row ((gt ds 1).r)]).bind fun ds0 =>
 bif ((gt ds0 0).i != 0) then
  some [D.int ((gt ds0 0).i)]
 else ((F79 k [D.int ((gt ds 2).i), D.int 50]).bind fun ds1 =>
  bif (!(gt ds1 0).b) then
   some [D.bool true]
  else (F79 k [D.int ((gt ds 3).i), D.int 20]).bind fun ds2 =>
  bif (!(gt ds2 0).b) then
   some [D.bool true]
  else (F79 k [D.int ((gt ds 4).i), D.int 20]).bind fun ds3 =>
  some [D.bool (!(gt ds3 0).b)]).bind fun ds4 =>
 bif (gt ds4 0).b then
  some [D.int 1]
 else some [D.int 0]
def K45 : Callee := ⟨[.agg [.str, .seen 76], .agg [.int .i64, .int .i64, .int .i64]], [.int .i64], F45⟩
noncomputable def C45 : Code := match Tryd.f45.body with | some c => c | none => .skip
theorem T45 : FunOK Tryd.prog (tyTab TL) 45 K45 :=
 fun_ok (loops := lkup []) (joins := lkup [(9, .light [(26, .bool)])]) (md := mdL []) (L := [(39, K39), (79, K79)]) (res := [.tmp 4]) (code := C45) (fn := Tryd.f45) TOKp EOKp MIXp (lkup_cons T39 (lkup_cons T79 lkup_nil)) Tryd.func45 (by kernel_rfl) (by kernel_rfl) (of_decide_eq_false (by kernel_rfl)) (by kernel_rfl) (fun k ds => by kernel_rfl)
def B13x0 (k0 : Nat) (rec1 : List D → Option (List D)) (ds2 : List D) : Option (List D) :=
 bif decide ((gt ds2 1).i < (((gt ds2 0).r).length : Int)) then
  bif ((inRow ((gt ds2 1).i) (((gt ds2 0).r).length)) && true) then
   (F39 k0 [D.str (((elAt ((gt ds2 0).r) ((gt ds2 1).i)).c 0).s), D.row (((elAt ((gt ds2 0).r) ((gt ds2 1).i)).c 1).r)]).bind fun ds3 =>
   bif ((gt ds3 0).i != 0) then
    some [D.int ((gt ds3 0).i)]
   else rec1 [D.row ((gt ds2 0).r), D.int (Go.IntKind.i64.wrap ((gt ds2 1).i + 1))]
  else none
 else some [D.int 0]
/-- interchange/interchangeref2.CheckSegments -/
def F13 (k : Nat) (ds : List D) : Option (List D) :=
 bif decide ((((gt ds 0).r).length : Int) > 2000) then
  some [D.int 2]
 else iter B13x0 k [D.row ((gt ds 0).r), D.int 0]
def K13 : Callee := ⟨[.seen 53], [.int .i64], F13⟩
noncomputable def C13 : Code := match Tryd.f13.body with | some c => c | none => .skip
theorem T13 : FunOK Tryd.prog (tyTab TL) 13 K13 :=
 fun_ok (loops := lkup [(4, ⟨[], [(0, .srow 53), (3, .int .i64)]⟩)]) (joins := lkup []) (md := mdL []) (L := [(39, K39)]) (res := [.tmp 2]) (code := C13) (fn := Tryd.f13) TOKp EOKp MIXp (lkup_cons T39 lkup_nil) Tryd.func13 (by kernel_rfl) (by kernel_rfl) (of_decide_eq_false (by kernel_rfl)) (by kernel_rfl) (fun k ds => by kernel_rfl)
def B14x0 (rec1 : List D → Option (List D)) (k4 : Nat) (rec5 : List D → Option (List D)) (ds6 : List D) : Option (List D) :=
 bif decide ((gt ds6 5).i < (gt ds6 4).i) then
  bif ((inRow ((gt ds6 5).i) (((gt ds6 3).r).length)) && true) then
   (F41 k4 [D.row (((elAt ((gt ds6 3).r) ((gt ds6 5).i)).c 0).r)]).bind fun ds7 =>
   bif ((gt ds7 0).i != 0) then
    some [D.int ((gt ds7 0).i)]
   else rec5 [D.row ((gt ds6 0).r), D.int ((gt ds6 1).i), D.int ((gt ds6 2).i), D.row ((gt ds6 3).r), D.int ((gt ds6 4).i), D.int (Go.IntKind.i64.wrap ((gt ds6 5).i + 1))]
  else none
 else rec1 [D.row ((gt ds6 0).r), D.int ((gt ds6 1).i), D.int (Go.IntKind.i64.wrap ((gt ds6 2).i + 1))]
def B14x1 (k0 : Nat) (rec1 : List D → Option (List D)) (ds2 : List D) : Option (List D) :=
 bif decide ((gt ds2 2).i < (gt ds2 1).i) then
  bif ((inRow ((gt ds2 2).i) (((gt ds2 0).r).length)) && true) then
   (F40 k0 [D.str (((elAt ((gt ds2 0).r) ((gt ds2 2).i)).c 0).s)]).bind fun ds3 =>
   bif (!(gt ds3 0).b) then
    some [D.int 5]
   else bif decide (((((elAt ((gt ds2 0).r) ((gt ds2 2).i)).c 1).r).length : Int) > 50) then
    some [D.int 2]
   else iter (B14x0 rec1) k0 [D.row ((gt ds2 0).r), D.int ((gt ds2 1).i), D.int ((gt ds2 2).i), D.row (((elAt ((gt ds2 0).r) ((gt ds2 2).i)).c 1).r), D.int ((((elAt ((gt ds2 0).r) ((gt ds2 2).i)).c 1).r).length : Int), D.int 0]
  else none
 else some [D.int 0]
/-- interchange/wire.CheckSegments -/
def F14 (k : Nat) (ds : List D) : Option (List D) :=
 bif decide ((((gt ds 0).r).length : Int) > 2000) then
  some [D.int 2]
 else iter B14x1 k [D.row ((gt ds 0).r), D.int (((gt ds 0).r).length : Int), D.int 0]
def K14 : Callee := ⟨[.seen 53], [.int .i64], F14⟩
noncomputable def C14 : Code := match Tryd.f14.body with | some c => c | none => .skip
theorem T14 : FunOK Tryd.prog (tyTab TL) 14 K14 :=
 fun_ok (loops := lkup [(11, ⟨[], [(11, .srow 53), (12, .int .i64), (13, .int .i64), (26, .srow 76), (27, .int .i64), (28, .int .i64)]⟩), (4, ⟨[], [(11, .srow 53), (12, .int .i64), (13, .int .i64)]⟩)]) (joins := lkup []) (md := mdL []) (L := [(40, K40), (41, K41)]) (res := [.tmp 2]) (code := C14) (fn := Tryd.f14) TOKp EOKp MIXp (lkup_cons T40 (lkup_cons T41 lkup_nil)) Tryd.func14 (by kernel_rfl) (by kernel_rfl) (of_decide_eq_false (by kernel_rfl)) (by kernel_rfl) (fun k ds => by kernel_rfl)
/-- interchange/interchangelaw2.awake -/
def F15 (k : Nat) (ds : List D) : Option (List D) :=
 (F42 k [D.int 42, D.int 58, D.int 94, D.int 63, D.int 126]).bind fun ds0 =>
 bif ((gt ds0 1).i == 0) then
  some [D.bool ((ByteArray.toList (ByteArray.mk (List.toArray (List.map (fun d => (UInt8.ofNat (Int.toNat d.i))) ((gt ds0 0).r))))) == (ByteArray.toList (ByteArray.mk #[77, 82, 75, 42, 58, 94, 63, 126])))]
 else some [D.bool false]
def K15 : Callee := ⟨[], [.bool], F15⟩
noncomputable def C15 : Code := match Tryd.f15.body with | some c => c | none => .skip
theorem T15 : FunOK Tryd.prog (tyTab TL) 15 K15 :=
 fun_ok (loops := lkup []) (joins := lkup []) (md := mdL []) (L := [(42, K42)]) (res := [.tmp 0]) (code := C15) (fn := Tryd.f15) TOKp EOKp MIXp (lkup_cons T42 lkup_nil) Tryd.func15 (by kernel_rfl) (by kernel_rfl) (of_decide_eq_false (by kernel_rfl)) (by kernel_rfl) (fun k ds => by kernel_rfl)
def B16x0 (k5 : Nat) (rec6 : List D → Option (List D)) (ds7 : List D) : Option (List D) :=
 bif decide ((gt ds7 4).i < (((gt ds7 1).r).length : Int)) then
  (bif ((inRow ((gt ds7 4).i) (((gt ds7 1).r).length)) && true) then
    (F33 k5 [D.row ((gt ds7 0).r), D.int (((elAt ((gt ds7 1).r) ((gt ds7 4).i)).c 0).i), D.int (((elAt ((gt ds7 1).r) ((gt ds7 4).i)).c 1).i), D.int (((elAt ((gt ds7 1).r) ((gt ds7 4).i)).c 2).i), D.int (((elAt ((gt ds7 1).r) ((gt ds7 4).i)).c 3).i), D.int (((elAt ((gt ds7 1).r) ((gt ds7 4).i)).c 4).i), D.bool false]).bind fun ds8 =>
    bif (!((gt ds8 0).c 0).b) then
     (bif ((inRow ((gt ds7 4).i) (((gt ds7 1).r).length)) && true) then
       bif (((elAt ((gt ds7 1).r) ((gt ds7 4).i)).c 3).i != 0) then
        bif decide ((gt ds7 2).i < 0) then
         some [D.bool true]
        else some [D.bool (decide ((((gt ds8 0).c 1).c 7).i < (gt ds7 3).i))]
       else bif ((((gt ds8 0).c 1).c 7).i == 0) then
        bif decide ((gt ds7 2).i < 0) then
         some [D.bool true]
        else some [D.bool (decide ((((gt ds8 0).c 1).c 7).i < (gt ds7 3).i))]
       else some [D.bool false]
      else none).bind fun ds9 =>
     bif (gt ds9 0).b then
      some [D.int ((gt ds7 4).i), D.int ((((gt ds8 0).c 1).c 7).i)]
     else some [D.int ((gt ds7 2).i), D.int ((gt ds7 3).i)]
    else none
   else none).bind fun ds10 =>
  rec6 [D.row ((gt ds7 0).r), D.row ((gt ds7 1).r), D.int ((gt ds10 0).i), D.int ((gt ds10 1).i), D.int (Go.IntKind.i64.wrap ((gt ds7 4).i + 1))]
 else bif decide ((gt ds7 2).i < 0) then
  some [D.int 0, D.int 9]
 else some [D.int ((gt ds7 2).i), D.int 0]
def B16x1 (k1 : Nat) (rec2 : List D → Option (List D)) (ds3 : List D) : Option (List D) :=
 bif decide ((gt ds3 2).i < (((gt ds3 1).r).length : Int)) then
  bif ((inRow ((gt ds3 2).i) (((gt ds3 1).r).length)) && true) then
   (F11 k1 [D.int (((elAt ((gt ds3 1).r) ((gt ds3 2).i)).c 0).i), D.int (((elAt ((gt ds3 1).r) ((gt ds3 2).i)).c 1).i), D.int (((elAt ((gt ds3 1).r) ((gt ds3 2).i)).c 2).i), D.int (((elAt ((gt ds3 1).r) ((gt ds3 2).i)).c 3).i), D.int (((elAt ((gt ds3 1).r) ((gt ds3 2).i)).c 4).i)]).bind fun ds4 =>
   bif ((gt ds4 0).i != 0) then
    some [D.int 0, D.int ((gt ds4 0).i)]
   else rec2 [D.row ((gt ds3 0).r), D.row ((gt ds3 1).r), D.int (Go.IntKind.i64.wrap ((gt ds3 2).i + 1))]
  else none
 else iter B16x0 k1 [D.row ((gt ds3 0).r), D.row ((gt ds3 1).r), D.int (-1), D.int 0, D.int 0]
/-- interchange/interchangeref2.BestMarks -/
def F16 (k : Nat) (ds : List D) : Option (List D) :=
 (F13 k [D.row ((gt ds 0).r)]).bind fun ds0 =>
 bif ((gt ds0 0).i != 0) then
  some [D.int 0, D.int ((gt ds0 0).i)]
 else bif ((((gt ds 1).r).length : Int) == 0) then
  some [D.int 0, D.int 9]
 else bif decide ((((gt ds 1).r).length : Int) > 50) then
  some [D.int 0, D.int 2]
 else iter B16x1 k [D.row ((gt ds 0).r), D.row ((gt ds 1).r), D.int 0]
def K16 : Callee := ⟨[.seen 53, .seen 23], [.int .i64, .int .i64], F16⟩
noncomputable def C16 : Code := match Tryd.f16.body with | some c => c | none => .skip
theorem T16 : FunOK Tryd.prog (tyTab TL) 16 K16 :=
 fun_ok (loops := lkup [(9, ⟨[], [(0, .srow 53), (1, .srow 23), (7, .int .i64)]⟩), (16, ⟨[], [(0, .srow 53), (1, .srow 23), (9, .int .i64), (10, .int .i64), (11, .int .i64)]⟩)]) (joins := lkup [(39, .light [(71, .bool)]), (34, .light [(9, .int .i64), (10, .int .i64)])]) (md := mdL []) (L := [(13, K13), (11, K11), (33, K33)]) (res := [.tmp 4, .tmp 5]) (code := C16) (fn := Tryd.f16) TOKp EOKp MIXp (lkup_cons T13 (lkup_cons T11 (lkup_cons T33 lkup_nil))) Tryd.func16 (by kernel_rfl) (by kernel_rfl) (of_decide_eq_false (by kernel_rfl)) (by kernel_rfl) (fun k ds => by kernel_rfl)
def B17x0 (k5 : Nat) (rec6 : List D → Option (List D)) (ds7 : List D) : Option (List D) :=
 bif decide ((gt ds7 5).i < (gt ds7 4).i) then
  (bif ((inRow ((gt ds7 5).i) (((gt ds7 3).r).length)) && true) then
    (F35 k5 [D.row ((gt ds7 0).r), D.int (((elAt ((gt ds7 3).r) ((gt ds7 5).i)).c 0).i), D.int (((elAt ((gt ds7 3).r) ((gt ds7 5).i)).c 1).i), D.int (((elAt ((gt ds7 3).r) ((gt ds7 5).i)).c 2).i), D.int (((elAt ((gt ds7 3).r) ((gt ds7 5).i)).c 3).i), D.int (((elAt ((gt ds7 3).r) ((gt ds7 5).i)).c 4).i)]).bind fun ds8 =>
    (bif (((elAt ((gt ds7 3).r) ((gt ds7 5).i)).c 3).i != 0) then
      bif decide ((gt ds7 1).i < 0) then
       some [D.bool true]
      else some [D.bool (decide ((gt ds8 0).i < (gt ds7 2).i))]
     else bif ((gt ds8 0).i == 0) then
      bif decide ((gt ds7 1).i < 0) then
       some [D.bool true]
      else some [D.bool (decide ((gt ds8 0).i < (gt ds7 2).i))]
     else some [D.bool false]).bind fun ds9 =>
    bif (gt ds9 0).b then
     some [D.row ((gt ds7 0).r), D.int ((gt ds7 5).i), D.int ((gt ds8 0).i), D.row ((gt ds7 3).r), D.int ((gt ds7 4).i), D.int ((gt ds7 5).i)]
    else some [D.row ((gt ds7 0).r), D.int ((gt ds7 1).i), D.int ((gt ds7 2).i), D.row ((gt ds7 3).r), D.int ((gt ds7 4).i), D.int ((gt ds7 5).i)]
   else none).bind fun ds10 =>
  rec6 [D.row ((gt ds10 0).r), D.int ((gt ds10 1).i), D.int ((gt ds10 2).i), D.row ((gt ds10 3).r), D.int ((gt ds10 4).i), D.int (Go.IntKind.i64.wrap ((gt ds10 5).i + 1))]
 else bif decide ((gt ds7 1).i < 0) then
  some [D.int 0, D.int 9]
 else some [D.int ((gt ds7 1).i), D.int 0]
def B17x1 (k1 : Nat) (rec2 : List D → Option (List D)) (ds3 : List D) : Option (List D) :=
 bif decide ((gt ds3 4).i < (gt ds3 3).i) then
  bif ((inRow ((gt ds3 4).i) (((gt ds3 2).r).length)) && true) then
   (F12 k1 [D.int (((elAt ((gt ds3 2).r) ((gt ds3 4).i)).c 0).i), D.int (((elAt ((gt ds3 2).r) ((gt ds3 4).i)).c 1).i), D.int (((elAt ((gt ds3 2).r) ((gt ds3 4).i)).c 2).i), D.int (((elAt ((gt ds3 2).r) ((gt ds3 4).i)).c 3).i), D.int (((elAt ((gt ds3 2).r) ((gt ds3 4).i)).c 4).i)]).bind fun ds4 =>
   bif ((gt ds4 0).i != 0) then
    some [D.int 0, D.int ((gt ds4 0).i)]
   else rec2 [D.row ((gt ds3 0).r), D.row ((gt ds3 1).r), D.row ((gt ds3 2).r), D.int ((gt ds3 3).i), D.int (Go.IntKind.i64.wrap ((gt ds3 4).i + 1))]
  else none
 else iter B17x0 k1 [D.row ((gt ds3 0).r), D.int (-1), D.int 0, D.row ((gt ds3 1).r), D.int (((gt ds3 1).r).length : Int), D.int 0]
/-- interchange/wire.BestMarks -/
def F17 (k : Nat) (ds : List D) : Option (List D) :=
 (F14 k [D.row ((gt ds 0).r)]).bind fun ds0 =>
 bif ((gt ds0 0).i != 0) then
  some [D.int 0, D.int ((gt ds0 0).i)]
 else bif ((((gt ds 1).r).length : Int) == 0) then
  some [D.int 0, D.int 9]
 else bif decide ((((gt ds 1).r).length : Int) > 50) then
  some [D.int 0, D.int 2]
 else iter B17x1 k [D.row ((gt ds 0).r), D.row ((gt ds 1).r), D.row ((gt ds 1).r), D.int (((gt ds 1).r).length : Int), D.int 0]
def K17 : Callee := ⟨[.seen 53, .seen 23], [.int .i64, .int .i64], F17⟩
noncomputable def C17 : Code := match Tryd.f17.body with | some c => c | none => .skip
theorem T17 : FunOK Tryd.prog (tyTab TL) 17 K17 :=
 fun_ok (loops := lkup [(9, ⟨[], [(0, .srow 53), (1, .srow 23), (26, .srow 23), (27, .int .i64), (28, .int .i64)]⟩), (17, ⟨[], [(0, .srow 53), (10, .int .i64), (11, .int .i64), (38, .srow 23), (39, .int .i64), (40, .int .i64)]⟩)]) (joins := lkup [(41, .light [(63, .bool)]), (44, .full ⟨[], [(0, .srow 53), (10, .int .i64), (11, .int .i64), (38, .srow 23), (39, .int .i64), (40, .int .i64)]⟩)]) (md := mdL []) (L := [(14, K14), (12, K12), (35, K35)]) (res := [.tmp 4, .tmp 5]) (code := C17) (fn := Tryd.f17) TOKp EOKp MIXp (lkup_cons T14 (lkup_cons T12 (lkup_cons T35 lkup_nil))) Tryd.func17 (by kernel_rfl) (by kernel_rfl) (of_decide_eq_false (by kernel_rfl)) (by kernel_rfl) (fun k ds => by kernel_rfl)
/-- interchange/interchangeref2.both -/
def F32 (k : Nat) (ds : List D) : Option (List D) :=
 (F13 k [D.row ((gt ds 0).r)]).bind fun ds0 =>
 bif ((gt ds0 0).i != 0) then
  some [D.int ((gt ds0 0).i)]
 else (F11 k [D.int ((gt ds 1).i), D.int ((gt ds 2).i), D.int ((gt ds 3).i), D.int ((gt ds 4).i), D.int ((gt ds 5).i)]).bind fun ds1 =>
 some [D.int ((gt ds1 0).i)]
def K32 : Callee := ⟨[.seen 53, .agg [.int .u8, .int .u8, .int .u8, .int .u8, .int .u8]], [.int .i64], F32⟩
noncomputable def C32 : Code := match Tryd.f32.body with | some c => c | none => .skip
theorem T32 : FunOK Tryd.prog (tyTab TL) 32 K32 :=
 fun_ok (loops := lkup []) (joins := lkup []) (md := mdL []) (L := [(13, K13), (11, K11)]) (res := [.tmp 4]) (code := C32) (fn := Tryd.f32) TOKp EOKp MIXp (lkup_cons T13 (lkup_cons T11 lkup_nil)) Tryd.func32 (by kernel_rfl) (by kernel_rfl) (of_decide_eq_false (by kernel_rfl)) (by kernel_rfl) (fun k ds => by kernel_rfl)
/-- interchange/wire.checkBoth -/
def F34 (k : Nat) (ds : List D) : Option (List D) :=
 (F14 k [D.row ((gt ds 0).r)]).bind fun ds0 =>
 bif ((gt ds0 0).i != 0) then
  some [D.int ((gt ds0 0).i)]
 else (F12 k [D.int ((gt ds 1).i), D.int ((gt ds 2).i), D.int ((gt ds 3).i), D.int ((gt ds 4).i), D.int ((gt ds 5).i)]).bind fun ds1 =>
 some [D.int ((gt ds1 0).i)]
def K34 : Callee := ⟨[.seen 53, .agg [.int .u8, .int .u8, .int .u8, .int .u8, .int .u8]], [.int .i64], F34⟩
noncomputable def C34 : Code := match Tryd.f34.body with | some c => c | none => .skip
theorem T34 : FunOK Tryd.prog (tyTab TL) 34 K34 :=
 fun_ok (loops := lkup []) (joins := lkup []) (md := mdL []) (L := [(14, K14), (12, K12)]) (res := [.tmp 4]) (code := C34) (fn := Tryd.f34) TOKp EOKp MIXp (lkup_cons T14 (lkup_cons T12 lkup_nil)) Tryd.func34 (by kernel_rfl) (by kernel_rfl) (of_decide_eq_false (by kernel_rfl)) (by kernel_rfl) (fun k ds => by kernel_rfl)
def B44x0 (rec11 : List D → Option (List D)) (k13 : Nat) (rec14 : List D → Option (List D)) (ds15 : List D) : Option (List D) :=
 bif decide ((gt ds15 2).i < (gt ds15 1).i) then
  (bif (((inRow ((gt ds15 2).i) (ByteArray.size ((gt ds15 0).s))) && true) && true) then
    (F99 k13 [D.int ((gt ds15 21).i), D.int ((gt ds15 22).i), D.int ((gt ds15 23).i), D.int ((gt ds15 24).i), D.int ((gt ds15 25).i), D.int ((UInt8.toNat (List.getD (ByteArray.toList ((gt ds15 0).s)) (Int.toNat ((gt ds15 2).i)) 0)) : Int)]).bind fun ds16 =>
    bif (gt ds16 0).b then
     (bif (gt ds15 27).b then
       some [D.str ((gt ds15 0).s), D.int ((gt ds15 2).i), D.int ((gt ds15 1).i), D.int ((gt ds15 2).i), D.int ((gt ds15 3).i), D.int ((gt ds15 4).i), D.int ((gt ds15 5).i), D.int ((gt ds15 6).i), D.int ((gt ds15 7).i), D.row ((gt ds15 8).r), D.int ((gt ds15 9).i), D.int ((gt ds15 10).i), D.row ((gt ds15 11).r), D.int ((gt ds15 12).i), D.int ((gt ds15 13).i), D.row ((gt ds15 14).r), D.int ((gt ds15 15).i), D.int ((gt ds15 16).i), D.int ((gt ds15 17).i), D.row ((gt ds15 18).r), D.int ((gt ds15 19).i), D.int ((gt ds15 20).i), D.int ((gt ds15 21).i), D.int ((gt ds15 22).i), D.int ((gt ds15 23).i), D.int ((gt ds15 24).i), D.int ((gt ds15 25).i), D.bool ((gt ds15 26).b), D.bool true, D.int ((gt ds15 28).i), D.int ((gt ds15 29).i), D.int ((gt ds15 30).i), D.int ((gt ds15 31).i), D.int ((gt ds15 32).i), D.row ((gt ds15 33).r), D.row ((gt ds15 34).r), D.row ((gt ds15 35).r)]
      else some [D.str ((gt ds15 0).s), D.int ((gt ds15 2).i), D.int ((gt ds15 1).i), D.int ((gt ds15 2).i), D.int ((gt ds15 3).i), D.int ((gt ds15 4).i), D.int ((gt ds15 5).i), D.int ((gt ds15 6).i), D.int ((gt ds15 7).i), D.row ((gt ds15 8).r), D.int ((gt ds15 9).i), D.int ((gt ds15 10).i), D.row ((gt ds15 11).r), D.int ((gt ds15 12).i), D.int ((gt ds15 13).i), D.row ((gt ds15 14).r), D.int ((gt ds15 15).i), D.int ((gt ds15 16).i), D.int ((gt ds15 17).i), D.row ((gt ds15 18).r), D.int ((gt ds15 19).i), D.int ((gt ds15 20).i), D.int ((gt ds15 21).i), D.int ((gt ds15 22).i), D.int ((gt ds15 23).i), D.int ((gt ds15 24).i), D.int ((gt ds15 25).i), D.bool ((gt ds15 26).b), D.bool ((gt ds15 24).i == 0), D.int ((gt ds15 28).i), D.int ((gt ds15 29).i), D.int ((gt ds15 30).i), D.int ((gt ds15 31).i), D.int ((gt ds15 32).i), D.row ((gt ds15 33).r), D.row ((gt ds15 34).r), D.row ((gt ds15 35).r)]).bind fun ds17 =>
     bif (needOk (((gt ds17 34).r).length + [D.int ((gt ds17 25).i)].length) 1) then
      some [D.str ((gt ds17 0).s), D.int ((gt ds17 1).i), D.int ((gt ds17 2).i), D.int ((gt ds17 3).i), D.int ((gt ds17 4).i), D.int ((gt ds17 5).i), D.int ((gt ds17 6).i), D.int ((gt ds17 7).i), D.int ((gt ds17 8).i), D.row ((gt ds17 9).r), D.int ((gt ds17 10).i), D.int ((gt ds17 11).i), D.row ((gt ds17 12).r), D.int ((gt ds17 13).i), D.int ((gt ds17 14).i), D.row ((gt ds17 15).r), D.int ((gt ds17 16).i), D.int ((gt ds17 17).i), D.int ((gt ds17 18).i), D.row ((gt ds17 19).r), D.int ((gt ds17 20).i), D.int ((gt ds17 21).i), D.int ((gt ds17 22).i), D.int ((gt ds17 23).i), D.int ((gt ds17 24).i), D.int ((gt ds17 25).i), D.int ((gt ds17 26).i), D.bool ((gt ds17 27).b), D.bool ((gt ds17 28).b), D.int ((gt ds17 29).i), D.int ((gt ds17 30).i), D.int ((gt ds17 31).i), D.int ((gt ds17 32).i), D.int ((gt ds17 33).i), D.row ((gt ds17 34).r ++ [D.int ((gt ds17 25).i)]), D.row ((gt ds17 35).r), D.row ((gt ds17 36).r)]
     else none
    else some [D.str ((gt ds15 0).s), D.int ((gt ds15 2).i), D.int ((gt ds15 1).i), D.int ((gt ds15 2).i), D.int ((gt ds15 3).i), D.int ((gt ds15 4).i), D.int ((gt ds15 5).i), D.int ((gt ds15 6).i), D.int ((gt ds15 7).i), D.row ((gt ds15 8).r), D.int ((gt ds15 9).i), D.int ((gt ds15 10).i), D.row ((gt ds15 11).r), D.int ((gt ds15 12).i), D.int ((gt ds15 13).i), D.row ((gt ds15 14).r), D.int ((gt ds15 15).i), D.int ((gt ds15 16).i), D.int ((gt ds15 17).i), D.row ((gt ds15 18).r), D.int ((gt ds15 19).i), D.int ((gt ds15 20).i), D.int ((gt ds15 21).i), D.int ((gt ds15 22).i), D.int ((gt ds15 23).i), D.int ((gt ds15 24).i), D.int ((gt ds15 25).i), D.bool ((gt ds15 26).b), D.bool ((gt ds15 27).b), D.int ((gt ds15 28).i), D.int ((gt ds15 29).i), D.int ((gt ds15 30).i), D.int ((gt ds15 31).i), D.int ((gt ds15 32).i), D.row ((gt ds15 33).r), D.row ((gt ds15 34).r), D.row ((gt ds15 35).r)]
   else none).bind fun ds18 =>
  bif (((inRow ((gt ds18 1).i) (ByteArray.size ((gt ds18 0).s))) && true) && true) then
   bif (needOk (((gt ds18 34).r).length + [D.int ((UInt8.toNat (List.getD (ByteArray.toList ((gt ds18 0).s)) (Int.toNat ((gt ds18 1).i)) 0)) : Int)].length) 1) then
    rec14 [D.str ((gt ds18 0).s), D.int ((gt ds18 2).i), D.int (Go.IntKind.i64.wrap ((gt ds18 3).i + 1)), D.int ((gt ds18 4).i), D.int ((gt ds18 5).i), D.int ((gt ds18 6).i), D.int ((gt ds18 7).i), D.int ((gt ds18 8).i), D.row ((gt ds18 9).r), D.int ((gt ds18 10).i), D.int ((gt ds18 11).i), D.row ((gt ds18 12).r), D.int ((gt ds18 13).i), D.int ((gt ds18 14).i), D.row ((gt ds18 15).r), D.int ((gt ds18 16).i), D.int ((gt ds18 17).i), D.int ((gt ds18 18).i), D.row ((gt ds18 19).r), D.int ((gt ds18 20).i), D.int ((gt ds18 21).i), D.int ((gt ds18 22).i), D.int ((gt ds18 23).i), D.int ((gt ds18 24).i), D.int ((gt ds18 25).i), D.int ((gt ds18 26).i), D.bool ((gt ds18 27).b), D.bool ((gt ds18 28).b), D.int ((gt ds18 29).i), D.int ((gt ds18 30).i), D.int ((gt ds18 31).i), D.int ((gt ds18 32).i), D.int ((gt ds18 33).i), D.row ((gt ds18 34).r ++ [D.int ((UInt8.toNat (List.getD (ByteArray.toList ((gt ds18 0).s)) (Int.toNat ((gt ds18 1).i)) 0)) : Int)]), D.row ((gt ds18 35).r), D.row ((gt ds18 36).r)]
   else none
  else none
 else bif (needOk (((gt ds15 34).r).length + [D.agg [D.int ((gt ds15 3).i), D.int (Go.IntKind.i64.wrap ((gt ds15 4).i + 1)), D.int (Go.IntKind.i64.wrap ((gt ds15 5).i + 1)), D.int (Go.IntKind.i64.wrap ((gt ds15 6).i + 1)), D.int ((gt ds15 7).i), D.int (((gt ds15 33).r).length : Int)]].length) 48) then
  rec11 [D.int ((gt ds15 3).i), D.int ((gt ds15 4).i), D.int ((gt ds15 22).i), D.int ((gt ds15 5).i), D.row ((gt ds15 8).r), D.int ((gt ds15 9).i), D.int ((gt ds15 10).i), D.row ((gt ds15 11).r), D.int ((gt ds15 12).i), D.int ((gt ds15 13).i), D.row ((gt ds15 14).r), D.int ((gt ds15 15).i), D.int (Go.IntKind.i64.wrap ((gt ds15 16).i + 1)), D.int ((gt ds15 17).i), D.row ((gt ds15 18).r), D.int ((gt ds15 19).i), D.int ((gt ds15 20).i), D.int ((gt ds15 21).i), D.int ((gt ds15 22).i), D.int ((gt ds15 23).i), D.int ((gt ds15 24).i), D.int ((gt ds15 25).i), D.bool ((gt ds15 26).b), D.bool ((gt ds15 27).b), D.int ((gt ds15 28).i), D.int ((gt ds15 29).i), D.int ((gt ds15 30).i), D.int ((gt ds15 31).i), D.int ((gt ds15 32).i), D.row ((gt ds15 33).r), D.row ((gt ds15 34).r ++ [D.agg [D.int ((gt ds15 3).i), D.int (Go.IntKind.i64.wrap ((gt ds15 4).i + 1)), D.int (Go.IntKind.i64.wrap ((gt ds15 5).i + 1)), D.int (Go.IntKind.i64.wrap ((gt ds15 6).i + 1)), D.int ((gt ds15 7).i), D.int (((gt ds15 33).r).length : Int)]]), D.row ((gt ds15 35).r)]
 else none
def B44x1 (rec8 : List D → Option (List D)) (k10 : Nat) (rec11 : List D → Option (List D)) (ds12 : List D) : Option (List D) :=
 bif decide ((gt ds12 12).i < (gt ds12 11).i) then
  bif ((inRow ((gt ds12 12).i) (((gt ds12 10).r).length)) && true) then
   bif (needOk (((gt ds12 29).r).length + [D.int ((gt ds12 2).i)].length) 1) then
    iter (B44x0 rec11) k10 [D.str ((elAt ((gt ds12 10).r) ((gt ds12 12).i)).s), D.int ((ByteArray.size ((elAt ((gt ds12 10).r) ((gt ds12 12).i)).s)) : Int), D.int 0, D.int ((gt ds12 0).i), D.int ((gt ds12 1).i), D.int ((gt ds12 3).i), D.int ((gt ds12 12).i), D.int (((gt ds12 29).r ++ [D.int ((gt ds12 2).i)]).length : Int), D.row ((gt ds12 4).r), D.int ((gt ds12 5).i), D.int ((gt ds12 6).i), D.row ((gt ds12 7).r), D.int ((gt ds12 8).i), D.int ((gt ds12 9).i), D.row ((gt ds12 10).r), D.int ((gt ds12 11).i), D.int ((gt ds12 12).i), D.int ((gt ds12 13).i), D.row ((gt ds12 14).r), D.int ((gt ds12 15).i), D.int ((gt ds12 16).i), D.int ((gt ds12 17).i), D.int ((gt ds12 18).i), D.int ((gt ds12 19).i), D.int ((gt ds12 20).i), D.int ((gt ds12 21).i), D.bool ((gt ds12 22).b), D.bool ((gt ds12 23).b), D.int ((gt ds12 24).i), D.int ((gt ds12 25).i), D.int ((gt ds12 26).i), D.int ((gt ds12 27).i), D.int ((gt ds12 28).i), D.row ((gt ds12 29).r ++ [D.int ((gt ds12 2).i)]), D.row ((gt ds12 30).r), D.row ((gt ds12 31).r)]
   else none
  else none
 else rec8 [D.int ((gt ds12 0).i), D.int ((gt ds12 1).i), D.int ((gt ds12 19).i), D.row ((gt ds12 4).r), D.int ((gt ds12 5).i), D.int ((gt ds12 6).i), D.row ((gt ds12 7).r), D.int ((gt ds12 8).i), D.int (Go.IntKind.i64.wrap ((gt ds12 9).i + 1)), D.int ((gt ds12 13).i), D.row ((gt ds12 14).r), D.int ((gt ds12 15).i), D.int ((gt ds12 16).i), D.int ((gt ds12 17).i), D.int ((gt ds12 18).i), D.int ((gt ds12 19).i), D.int ((gt ds12 20).i), D.int ((gt ds12 21).i), D.bool ((gt ds12 22).b), D.bool ((gt ds12 23).b), D.int ((gt ds12 24).i), D.int ((gt ds12 25).i), D.int ((gt ds12 26).i), D.int ((gt ds12 27).i), D.int ((gt ds12 28).i), D.row ((gt ds12 29).r), D.row ((gt ds12 30).r), D.row ((gt ds12 31).r)]
def B44x2 (rec5 : List D → Option (List D)) (k7 : Nat) (rec8 : List D → Option (List D)) (ds9 : List D) : Option (List D) :=
 bif decide ((gt ds9 8).i < (gt ds9 7).i) then
  bif ((inRow ((gt ds9 8).i) (((gt ds9 6).r).length)) && true) then
   iter (B44x1 rec8) k7 [D.int ((gt ds9 0).i), D.int ((gt ds9 1).i), D.int ((gt ds9 2).i), D.int ((gt ds9 8).i), D.row ((gt ds9 3).r), D.int ((gt ds9 4).i), D.int ((gt ds9 5).i), D.row ((gt ds9 6).r), D.int ((gt ds9 7).i), D.int ((gt ds9 8).i), D.row ((elAt ((gt ds9 6).r) ((gt ds9 8).i)).r), D.int (((elAt ((gt ds9 6).r) ((gt ds9 8).i)).r).length : Int), D.int 0, D.int ((gt ds9 9).i), D.row ((gt ds9 10).r), D.int ((gt ds9 11).i), D.int ((gt ds9 12).i), D.int ((gt ds9 13).i), D.int ((gt ds9 14).i), D.int ((gt ds9 15).i), D.int ((gt ds9 16).i), D.int ((gt ds9 17).i), D.bool ((gt ds9 18).b), D.bool ((gt ds9 19).b), D.int ((gt ds9 20).i), D.int ((gt ds9 21).i), D.int ((gt ds9 22).i), D.int ((gt ds9 23).i), D.int ((gt ds9 24).i), D.row ((gt ds9 25).r), D.row ((gt ds9 26).r), D.row ((gt ds9 27).r)]
  else none
 else rec5 [D.int ((gt ds9 0).i), D.row ((gt ds9 3).r), D.int ((gt ds9 4).i), D.int (Go.IntKind.i64.wrap ((gt ds9 5).i + 1)), D.int ((gt ds9 9).i), D.row ((gt ds9 10).r), D.int ((gt ds9 11).i), D.int ((gt ds9 12).i), D.int ((gt ds9 13).i), D.int ((gt ds9 14).i), D.int ((gt ds9 15).i), D.int ((gt ds9 16).i), D.int ((gt ds9 17).i), D.bool ((gt ds9 18).b), D.bool ((gt ds9 19).b), D.int ((gt ds9 20).i), D.int ((gt ds9 21).i), D.int ((gt ds9 22).i), D.int ((gt ds9 23).i), D.int ((gt ds9 24).i), D.row ((gt ds9 25).r), D.row ((gt ds9 26).r), D.row ((gt ds9 27).r)]
def B44x3 (k4 : Nat) (rec5 : List D → Option (List D)) (ds6 : List D) : Option (List D) :=
 bif decide ((gt ds6 3).i < (gt ds6 2).i) then
  bif ((inRow ((gt ds6 3).i) (((gt ds6 1).r).length)) && true) then
   iter (B44x2 rec5) k4 [D.int ((gt ds6 0).i), D.int ((gt ds6 3).i), D.int ((gt ds6 8).i), D.row ((gt ds6 1).r), D.int ((gt ds6 2).i), D.int ((gt ds6 3).i), D.row (((elAt ((gt ds6 1).r) ((gt ds6 3).i)).c 0).r), D.int ((((elAt ((gt ds6 1).r) ((gt ds6 3).i)).c 0).r).length : Int), D.int 0, D.int ((gt ds6 4).i), D.row ((gt ds6 5).r), D.int ((gt ds6 6).i), D.int ((gt ds6 7).i), D.int ((gt ds6 8).i), D.int ((gt ds6 9).i), D.int ((gt ds6 10).i), D.int ((gt ds6 11).i), D.int ((gt ds6 12).i), D.bool ((gt ds6 13).b), D.bool ((gt ds6 14).b), D.int ((gt ds6 15).i), D.int ((gt ds6 16).i), D.int ((gt ds6 17).i), D.int ((gt ds6 18).i), D.int ((gt ds6 19).i), D.row ((gt ds6 20).r), D.row ((gt ds6 21).r), D.row ((gt ds6 22).r)]
  else none
 else bif (needOk (((gt ds6 20).r).length + [D.int ((gt ds6 12).i)].length) 1) then
  bif (gt ds6 13).b then
   bif (needOk (((gt ds6 20).r ++ [D.int ((gt ds6 12).i)]).length + 1) 1) then
    some [D.int ((gt ds6 4).i), D.row ((gt ds6 5).r), D.int ((gt ds6 6).i), D.int ((gt ds6 7).i), D.int ((gt ds6 15).i), D.int ((gt ds6 16).i), D.int ((gt ds6 17).i), D.int ((gt ds6 18).i), D.int ((gt ds6 19).i), D.int ((gt ds6 8).i), D.int ((gt ds6 9).i), D.int ((gt ds6 10).i), D.int ((gt ds6 11).i), D.int ((gt ds6 12).i), D.bool ((gt ds6 13).b), D.bool ((gt ds6 14).b), D.row (((gt ds6 20).r ++ [D.int ((gt ds6 12).i)]) ++ [D.int 10]), D.row ((gt ds6 21).r), D.row ((gt ds6 22).r)]
   else none
  else some [D.int ((gt ds6 4).i), D.row ((gt ds6 5).r), D.int ((gt ds6 6).i), D.int ((gt ds6 7).i), D.int ((gt ds6 15).i), D.int ((gt ds6 16).i), D.int ((gt ds6 17).i), D.int ((gt ds6 18).i), D.int ((gt ds6 19).i), D.int ((gt ds6 8).i), D.int ((gt ds6 9).i), D.int ((gt ds6 10).i), D.int ((gt ds6 11).i), D.int ((gt ds6 12).i), D.bool ((gt ds6 13).b), D.bool ((gt ds6 14).b), D.row ((gt ds6 20).r ++ [D.int ((gt ds6 12).i)]), D.row ((gt ds6 21).r), D.row ((gt ds6 22).r)]
 else none
def B44x4 (k25 : Nat) (rec26 : List D → Option (List D)) (ds27 : List D) : Option (List D) :=
 bif decide ((gt ds27 2).i < (gt ds27 1).i) then
  bif ((inRow ((gt ds27 2).i) (((gt ds27 0).r).length)) && true) then
   (F67 k25 [D.int ((gt ds27 15).i), D.int ((gt ds27 16).i), D.int ((gt ds27 17).i), D.int ((gt ds27 18).i), D.int ((gt ds27 19).i), D.str ((elAt ((gt ds27 0).r) ((gt ds27 2).i)).s)]).bind fun ds28 =>
   bif decide ((gt ds28 0).i > 0) then
    bif (gt ds27 13).b then
     bif (gt ds27 13).b then
      some [D.int ((gt ds27 3).i), D.row ((gt ds27 4).r), D.int ((gt ds27 5).i), D.int ((gt ds27 6).i), D.row ((gt ds27 7).r), D.int ((gt ds27 8).i), D.int ((gt ds27 9).i), D.row ((gt ds27 10).r), D.int ((gt ds27 11).i), D.int ((gt ds27 12).i), D.int ((gt ds27 15).i), D.int ((gt ds27 16).i), D.int ((gt ds27 17).i), D.int ((gt ds27 18).i), D.int ((gt ds27 19).i), D.int ((gt ds27 20).i), D.int ((gt ds27 21).i), D.int ((gt ds27 22).i), D.int ((gt ds27 23).i), D.int ((gt ds27 24).i), D.bool ((gt ds27 25).b), D.bool true, D.row ((gt ds27 27).r), D.row ((gt ds27 28).r), D.row ((gt ds27 29).r)]
     else none
    else some [D.int ((gt ds27 3).i), D.row ((gt ds27 4).r), D.int ((gt ds27 5).i), D.int ((gt ds27 6).i), D.row ((gt ds27 7).r), D.int ((gt ds27 8).i), D.int ((gt ds27 9).i), D.row ((gt ds27 10).r), D.int ((gt ds27 11).i), D.int ((gt ds27 12).i), D.int ((gt ds27 15).i), D.int ((gt ds27 16).i), D.int ((gt ds27 17).i), D.int ((gt ds27 18).i), D.int ((gt ds27 19).i), D.int ((gt ds27 20).i), D.int ((gt ds27 21).i), D.int ((gt ds27 22).i), D.int ((gt ds27 23).i), D.int ((gt ds27 24).i), D.bool ((gt ds27 25).b), D.bool (bif (gt ds27 13).b then true else (bif (gt ds27 14).b then decide ((gt ds27 2).i ≥ 0) else false)), D.row ((gt ds27 27).r), D.row ((gt ds27 28).r), D.row ((gt ds27 29).r)]
   else rec26 [D.row ((gt ds27 0).r), D.int ((gt ds27 1).i), D.int (Go.IntKind.i64.wrap ((gt ds27 2).i + 1)), D.int ((gt ds27 3).i), D.row ((gt ds27 4).r), D.int ((gt ds27 5).i), D.int ((gt ds27 6).i), D.row ((gt ds27 7).r), D.int ((gt ds27 8).i), D.int ((gt ds27 9).i), D.row ((gt ds27 10).r), D.int ((gt ds27 11).i), D.int ((gt ds27 12).i), D.bool ((gt ds27 13).b), D.bool ((gt ds27 14).b), D.int ((gt ds27 15).i), D.int ((gt ds27 16).i), D.int ((gt ds27 17).i), D.int ((gt ds27 18).i), D.int ((gt ds27 19).i), D.int ((gt ds27 20).i), D.int ((gt ds27 21).i), D.int ((gt ds27 22).i), D.int ((gt ds27 23).i), D.int ((gt ds27 24).i), D.bool ((gt ds27 25).b), D.bool ((gt ds27 26).b), D.row ((gt ds27 27).r), D.row ((gt ds27 28).r), D.row ((gt ds27 29).r)]
  else none
 else bif (gt ds27 13).b then
  bif (gt ds27 13).b then
   some [D.int ((gt ds27 3).i), D.row ((gt ds27 4).r), D.int ((gt ds27 5).i), D.int ((gt ds27 6).i), D.row ((gt ds27 7).r), D.int ((gt ds27 8).i), D.int ((gt ds27 9).i), D.row ((gt ds27 10).r), D.int ((gt ds27 11).i), D.int ((gt ds27 12).i), D.int ((gt ds27 15).i), D.int ((gt ds27 16).i), D.int ((gt ds27 17).i), D.int ((gt ds27 18).i), D.int ((gt ds27 19).i), D.int ((gt ds27 20).i), D.int ((gt ds27 21).i), D.int ((gt ds27 22).i), D.int ((gt ds27 23).i), D.int ((gt ds27 24).i), D.bool ((gt ds27 25).b), D.bool true, D.row ((gt ds27 27).r), D.row ((gt ds27 28).r), D.row ((gt ds27 29).r)]
  else none
 else some [D.int ((gt ds27 3).i), D.row ((gt ds27 4).r), D.int ((gt ds27 5).i), D.int ((gt ds27 6).i), D.row ((gt ds27 7).r), D.int ((gt ds27 8).i), D.int ((gt ds27 9).i), D.row ((gt ds27 10).r), D.int ((gt ds27 11).i), D.int ((gt ds27 12).i), D.int ((gt ds27 15).i), D.int ((gt ds27 16).i), D.int ((gt ds27 17).i), D.int ((gt ds27 18).i), D.int ((gt ds27 19).i), D.int ((gt ds27 20).i), D.int ((gt ds27 21).i), D.int ((gt ds27 22).i), D.int ((gt ds27 23).i), D.int ((gt ds27 24).i), D.bool ((gt ds27 25).b), D.bool (bif (gt ds27 13).b then true else (bif (gt ds27 14).b then false else false)), D.row ((gt ds27 27).r), D.row ((gt ds27 28).r), D.row ((gt ds27 29).r)]
def B44x5 (rec20 : List D → Option (List D)) (k22 : Nat) (rec23 : List D → Option (List D)) (ds24 : List D) : Option (List D) :=
 bif decide ((gt ds24 9).i < (gt ds24 8).i) then
  (bif ((inRow ((gt ds24 9).i) (((gt ds24 7).r).length)) && true) then
    bif (gt ds24 21).b then
     bif (gt ds24 21).b then
      bif (gt ds24 21).b then
       bif (gt ds24 21).b then
        bif (gt ds24 21).b then
         bif (gt ds24 21).b then
          some [D.int ((gt ds24 0).i), D.row ((gt ds24 1).r), D.int ((gt ds24 2).i), D.int ((gt ds24 3).i), D.row ((gt ds24 4).r), D.int ((gt ds24 5).i), D.int ((gt ds24 6).i), D.row ((gt ds24 7).r), D.int ((gt ds24 8).i), D.int ((gt ds24 9).i), D.int ((gt ds24 10).i), D.int ((gt ds24 11).i), D.int ((gt ds24 12).i), D.int ((gt ds24 13).i), D.int ((gt ds24 14).i), D.int ((gt ds24 15).i), D.int ((gt ds24 16).i), D.int ((gt ds24 17).i), D.int ((gt ds24 18).i), D.int ((gt ds24 19).i), D.bool ((gt ds24 20).b), D.bool true, D.row ((gt ds24 22).r), D.row ((gt ds24 23).r), D.row ((gt ds24 24).r)]
         else none
        else none
       else bif (gt ds24 21).b then
        bif (gt ds24 21).b then
         some [D.int ((gt ds24 0).i), D.row ((gt ds24 1).r), D.int ((gt ds24 2).i), D.int ((gt ds24 3).i), D.row ((gt ds24 4).r), D.int ((gt ds24 5).i), D.int ((gt ds24 6).i), D.row ((gt ds24 7).r), D.int ((gt ds24 8).i), D.int ((gt ds24 9).i), D.int ((gt ds24 10).i), D.int ((gt ds24 11).i), D.int ((gt ds24 12).i), D.int ((gt ds24 13).i), D.int ((gt ds24 14).i), D.int ((gt ds24 15).i), D.int ((gt ds24 16).i), D.int ((gt ds24 17).i), D.int ((gt ds24 18).i), D.int ((gt ds24 19).i), D.bool ((gt ds24 20).b), D.bool true, D.row ((gt ds24 22).r), D.row ((gt ds24 23).r), D.row ((gt ds24 24).r)]
        else none
       else none
      else none
     else none
    else bif (gt ds24 21).b then
     bif (gt ds24 21).b then
      bif (gt ds24 21).b then
       bif (gt ds24 21).b then
        bif (gt ds24 21).b then
         some [D.int ((gt ds24 0).i), D.row ((gt ds24 1).r), D.int ((gt ds24 2).i), D.int ((gt ds24 3).i), D.row ((gt ds24 4).r), D.int ((gt ds24 5).i), D.int ((gt ds24 6).i), D.row ((gt ds24 7).r), D.int ((gt ds24 8).i), D.int ((gt ds24 9).i), D.int ((gt ds24 10).i), D.int ((gt ds24 11).i), D.int ((gt ds24 12).i), D.int ((gt ds24 13).i), D.int ((gt ds24 14).i), D.int ((gt ds24 15).i), D.int ((gt ds24 16).i), D.int ((gt ds24 17).i), D.int ((gt ds24 18).i), D.int ((gt ds24 19).i), D.bool ((gt ds24 20).b), D.bool true, D.row ((gt ds24 22).r), D.row ((gt ds24 23).r), D.row ((gt ds24 24).r)]
        else none
       else none
      else bif (gt ds24 21).b then
       bif (gt ds24 21).b then
        some [D.int ((gt ds24 0).i), D.row ((gt ds24 1).r), D.int ((gt ds24 2).i), D.int ((gt ds24 3).i), D.row ((gt ds24 4).r), D.int ((gt ds24 5).i), D.int ((gt ds24 6).i), D.row ((gt ds24 7).r), D.int ((gt ds24 8).i), D.int ((gt ds24 9).i), D.int ((gt ds24 10).i), D.int ((gt ds24 11).i), D.int ((gt ds24 12).i), D.int ((gt ds24 13).i), D.int ((gt ds24 14).i), D.int ((gt ds24 15).i), D.int ((gt ds24 16).i), D.int ((gt ds24 17).i), D.int ((gt ds24 18).i), D.int ((gt ds24 19).i), D.bool ((gt ds24 20).b), D.bool true, D.row ((gt ds24 22).r), D.row ((gt ds24 23).r), D.row ((gt ds24 24).r)]
       else none
      else none
     else none
    else bif (gt ds24 21).b then
     bif (gt ds24 21).b then
      bif (gt ds24 21).b then
       bif (gt ds24 21).b then
        some [D.int ((gt ds24 0).i), D.row ((gt ds24 1).r), D.int ((gt ds24 2).i), D.int ((gt ds24 3).i), D.row ((gt ds24 4).r), D.int ((gt ds24 5).i), D.int ((gt ds24 6).i), D.row ((gt ds24 7).r), D.int ((gt ds24 8).i), D.int ((gt ds24 9).i), D.int ((gt ds24 10).i), D.int ((gt ds24 11).i), D.int ((gt ds24 12).i), D.int ((gt ds24 13).i), D.int ((gt ds24 14).i), D.int ((gt ds24 15).i), D.int ((gt ds24 16).i), D.int ((gt ds24 17).i), D.int ((gt ds24 18).i), D.int ((gt ds24 19).i), D.bool ((gt ds24 20).b), D.bool true, D.row ((gt ds24 22).r), D.row ((gt ds24 23).r), D.row ((gt ds24 24).r)]
       else none
      else none
     else bif (gt ds24 21).b then
      bif (gt ds24 21).b then
       some [D.int ((gt ds24 0).i), D.row ((gt ds24 1).r), D.int ((gt ds24 2).i), D.int ((gt ds24 3).i), D.row ((gt ds24 4).r), D.int ((gt ds24 5).i), D.int ((gt ds24 6).i), D.row ((gt ds24 7).r), D.int ((gt ds24 8).i), D.int ((gt ds24 9).i), D.int ((gt ds24 10).i), D.int ((gt ds24 11).i), D.int ((gt ds24 12).i), D.int ((gt ds24 13).i), D.int ((gt ds24 14).i), D.int ((gt ds24 15).i), D.int ((gt ds24 16).i), D.int ((gt ds24 17).i), D.int ((gt ds24 18).i), D.int ((gt ds24 19).i), D.bool ((gt ds24 20).b), D.bool true, D.row ((gt ds24 22).r), D.row ((gt ds24 23).r), D.row ((gt ds24 24).r)]
      else none
     else none
    else bif (gt ds24 21).b then
     bif (gt ds24 21).b then
      bif (gt ds24 21).b then
       some [D.int ((gt ds24 0).i), D.row ((gt ds24 1).r), D.int ((gt ds24 2).i), D.int ((gt ds24 3).i), D.row ((gt ds24 4).r), D.int ((gt ds24 5).i), D.int ((gt ds24 6).i), D.row ((gt ds24 7).r), D.int ((gt ds24 8).i), D.int ((gt ds24 9).i), D.int ((gt ds24 10).i), D.int ((gt ds24 11).i), D.int ((gt ds24 12).i), D.int ((gt ds24 13).i), D.int ((gt ds24 14).i), D.int ((gt ds24 15).i), D.int ((gt ds24 16).i), D.int ((gt ds24 17).i), D.int ((gt ds24 18).i), D.int ((gt ds24 19).i), D.bool ((gt ds24 20).b), D.bool true, D.row ((gt ds24 22).r), D.row ((gt ds24 23).r), D.row ((gt ds24 24).r)]
      else none
     else none
    else bif ((gt ds24 13).i == 0) then
     bif ((gt ds24 13).i == 0) then
      bif ((gt ds24 13).i == 0) then
       iter B44x4 k22 [D.row ((elAt ((gt ds24 7).r) ((gt ds24 9).i)).r), D.int (((elAt ((gt ds24 7).r) ((gt ds24 9).i)).r).length : Int), D.int 0, D.int ((gt ds24 0).i), D.row ((gt ds24 1).r), D.int ((gt ds24 2).i), D.int ((gt ds24 3).i), D.row ((gt ds24 4).r), D.int ((gt ds24 5).i), D.int ((gt ds24 6).i), D.row ((gt ds24 7).r), D.int ((gt ds24 8).i), D.int ((gt ds24 9).i), D.bool ((gt ds24 21).b), D.bool ((gt ds24 13).i == 0), D.int ((gt ds24 10).i), D.int ((gt ds24 11).i), D.int ((gt ds24 12).i), D.int ((gt ds24 13).i), D.int ((gt ds24 14).i), D.int ((gt ds24 15).i), D.int ((gt ds24 16).i), D.int ((gt ds24 17).i), D.int ((gt ds24 18).i), D.int ((gt ds24 19).i), D.bool ((gt ds24 20).b), D.bool ((gt ds24 21).b), D.row ((gt ds24 22).r), D.row ((gt ds24 23).r), D.row ((gt ds24 24).r)]
      else bif (gt ds24 21).b then
       bif (gt ds24 21).b then
        some [D.int ((gt ds24 0).i), D.row ((gt ds24 1).r), D.int ((gt ds24 2).i), D.int ((gt ds24 3).i), D.row ((gt ds24 4).r), D.int ((gt ds24 5).i), D.int ((gt ds24 6).i), D.row ((gt ds24 7).r), D.int ((gt ds24 8).i), D.int ((gt ds24 9).i), D.int ((gt ds24 10).i), D.int ((gt ds24 11).i), D.int ((gt ds24 12).i), D.int ((gt ds24 13).i), D.int ((gt ds24 14).i), D.int ((gt ds24 15).i), D.int ((gt ds24 16).i), D.int ((gt ds24 17).i), D.int ((gt ds24 18).i), D.int ((gt ds24 19).i), D.bool ((gt ds24 20).b), D.bool true, D.row ((gt ds24 22).r), D.row ((gt ds24 23).r), D.row ((gt ds24 24).r)]
       else none
      else bif ((gt ds24 13).i == 0) then
       bif (gt ds24 21).b then
        some [D.int ((gt ds24 0).i), D.row ((gt ds24 1).r), D.int ((gt ds24 2).i), D.int ((gt ds24 3).i), D.row ((gt ds24 4).r), D.int ((gt ds24 5).i), D.int ((gt ds24 6).i), D.row ((gt ds24 7).r), D.int ((gt ds24 8).i), D.int ((gt ds24 9).i), D.int ((gt ds24 10).i), D.int ((gt ds24 11).i), D.int ((gt ds24 12).i), D.int ((gt ds24 13).i), D.int ((gt ds24 14).i), D.int ((gt ds24 15).i), D.int ((gt ds24 16).i), D.int ((gt ds24 17).i), D.int ((gt ds24 18).i), D.int ((gt ds24 19).i), D.bool ((gt ds24 20).b), D.bool true, D.row ((gt ds24 22).r), D.row ((gt ds24 23).r), D.row ((gt ds24 24).r)]
       else none
      else some [D.int ((gt ds24 0).i), D.row ((gt ds24 1).r), D.int ((gt ds24 2).i), D.int ((gt ds24 3).i), D.row ((gt ds24 4).r), D.int ((gt ds24 5).i), D.int ((gt ds24 6).i), D.row ((gt ds24 7).r), D.int ((gt ds24 8).i), D.int ((gt ds24 9).i), D.int ((gt ds24 10).i), D.int ((gt ds24 11).i), D.int ((gt ds24 12).i), D.int ((gt ds24 13).i), D.int ((gt ds24 14).i), D.int ((gt ds24 15).i), D.int ((gt ds24 16).i), D.int ((gt ds24 17).i), D.int ((gt ds24 18).i), D.int ((gt ds24 19).i), D.bool ((gt ds24 20).b), D.bool (bif (gt ds24 21).b then true else false), D.row ((gt ds24 22).r), D.row ((gt ds24 23).r), D.row ((gt ds24 24).r)]
     else bif ((gt ds24 13).i == 0) then
      none
     else bif (gt ds24 21).b then
      bif (gt ds24 21).b then
       some [D.int ((gt ds24 0).i), D.row ((gt ds24 1).r), D.int ((gt ds24 2).i), D.int ((gt ds24 3).i), D.row ((gt ds24 4).r), D.int ((gt ds24 5).i), D.int ((gt ds24 6).i), D.row ((gt ds24 7).r), D.int ((gt ds24 8).i), D.int ((gt ds24 9).i), D.int ((gt ds24 10).i), D.int ((gt ds24 11).i), D.int ((gt ds24 12).i), D.int ((gt ds24 13).i), D.int ((gt ds24 14).i), D.int ((gt ds24 15).i), D.int ((gt ds24 16).i), D.int ((gt ds24 17).i), D.int ((gt ds24 18).i), D.int ((gt ds24 19).i), D.bool ((gt ds24 20).b), D.bool true, D.row ((gt ds24 22).r), D.row ((gt ds24 23).r), D.row ((gt ds24 24).r)]
      else none
     else bif ((gt ds24 13).i == 0) then
      bif (gt ds24 21).b then
       some [D.int ((gt ds24 0).i), D.row ((gt ds24 1).r), D.int ((gt ds24 2).i), D.int ((gt ds24 3).i), D.row ((gt ds24 4).r), D.int ((gt ds24 5).i), D.int ((gt ds24 6).i), D.row ((gt ds24 7).r), D.int ((gt ds24 8).i), D.int ((gt ds24 9).i), D.int ((gt ds24 10).i), D.int ((gt ds24 11).i), D.int ((gt ds24 12).i), D.int ((gt ds24 13).i), D.int ((gt ds24 14).i), D.int ((gt ds24 15).i), D.int ((gt ds24 16).i), D.int ((gt ds24 17).i), D.int ((gt ds24 18).i), D.int ((gt ds24 19).i), D.bool ((gt ds24 20).b), D.bool true, D.row ((gt ds24 22).r), D.row ((gt ds24 23).r), D.row ((gt ds24 24).r)]
      else none
     else some [D.int ((gt ds24 0).i), D.row ((gt ds24 1).r), D.int ((gt ds24 2).i), D.int ((gt ds24 3).i), D.row ((gt ds24 4).r), D.int ((gt ds24 5).i), D.int ((gt ds24 6).i), D.row ((gt ds24 7).r), D.int ((gt ds24 8).i), D.int ((gt ds24 9).i), D.int ((gt ds24 10).i), D.int ((gt ds24 11).i), D.int ((gt ds24 12).i), D.int ((gt ds24 13).i), D.int ((gt ds24 14).i), D.int ((gt ds24 15).i), D.int ((gt ds24 16).i), D.int ((gt ds24 17).i), D.int ((gt ds24 18).i), D.int ((gt ds24 19).i), D.bool ((gt ds24 20).b), D.bool (bif (gt ds24 21).b then true else false), D.row ((gt ds24 22).r), D.row ((gt ds24 23).r), D.row ((gt ds24 24).r)]
    else bif ((gt ds24 13).i == 0) then
     bif ((gt ds24 13).i == 0) then
      none
     else bif (gt ds24 21).b then
      bif (gt ds24 21).b then
       some [D.int ((gt ds24 0).i), D.row ((gt ds24 1).r), D.int ((gt ds24 2).i), D.int ((gt ds24 3).i), D.row ((gt ds24 4).r), D.int ((gt ds24 5).i), D.int ((gt ds24 6).i), D.row ((gt ds24 7).r), D.int ((gt ds24 8).i), D.int ((gt ds24 9).i), D.int ((gt ds24 10).i), D.int ((gt ds24 11).i), D.int ((gt ds24 12).i), D.int ((gt ds24 13).i), D.int ((gt ds24 14).i), D.int ((gt ds24 15).i), D.int ((gt ds24 16).i), D.int ((gt ds24 17).i), D.int ((gt ds24 18).i), D.int ((gt ds24 19).i), D.bool ((gt ds24 20).b), D.bool true, D.row ((gt ds24 22).r), D.row ((gt ds24 23).r), D.row ((gt ds24 24).r)]
      else none
     else bif ((gt ds24 13).i == 0) then
      bif (gt ds24 21).b then
       some [D.int ((gt ds24 0).i), D.row ((gt ds24 1).r), D.int ((gt ds24 2).i), D.int ((gt ds24 3).i), D.row ((gt ds24 4).r), D.int ((gt ds24 5).i), D.int ((gt ds24 6).i), D.row ((gt ds24 7).r), D.int ((gt ds24 8).i), D.int ((gt ds24 9).i), D.int ((gt ds24 10).i), D.int ((gt ds24 11).i), D.int ((gt ds24 12).i), D.int ((gt ds24 13).i), D.int ((gt ds24 14).i), D.int ((gt ds24 15).i), D.int ((gt ds24 16).i), D.int ((gt ds24 17).i), D.int ((gt ds24 18).i), D.int ((gt ds24 19).i), D.bool ((gt ds24 20).b), D.bool true, D.row ((gt ds24 22).r), D.row ((gt ds24 23).r), D.row ((gt ds24 24).r)]
      else none
     else some [D.int ((gt ds24 0).i), D.row ((gt ds24 1).r), D.int ((gt ds24 2).i), D.int ((gt ds24 3).i), D.row ((gt ds24 4).r), D.int ((gt ds24 5).i), D.int ((gt ds24 6).i), D.row ((gt ds24 7).r), D.int ((gt ds24 8).i), D.int ((gt ds24 9).i), D.int ((gt ds24 10).i), D.int ((gt ds24 11).i), D.int ((gt ds24 12).i), D.int ((gt ds24 13).i), D.int ((gt ds24 14).i), D.int ((gt ds24 15).i), D.int ((gt ds24 16).i), D.int ((gt ds24 17).i), D.int ((gt ds24 18).i), D.int ((gt ds24 19).i), D.bool ((gt ds24 20).b), D.bool (bif (gt ds24 21).b then true else false), D.row ((gt ds24 22).r), D.row ((gt ds24 23).r), D.row ((gt ds24 24).r)]
    else bif ((gt ds24 13).i == 0) then
     none
    else bif (gt ds24 21).b then
     bif (gt ds24 21).b then
      some [D.int ((gt ds24 0).i), D.row ((gt ds24 1).r), D.int ((gt ds24 2).i), D.int ((gt ds24 3).i), D.row ((gt ds24 4).r), D.int ((gt ds24 5).i), D.int ((gt ds24 6).i), D.row ((gt ds24 7).r), D.int ((gt ds24 8).i), D.int ((gt ds24 9).i), D.int ((gt ds24 10).i), D.int ((gt ds24 11).i), D.int ((gt ds24 12).i), D.int ((gt ds24 13).i), D.int ((gt ds24 14).i), D.int ((gt ds24 15).i), D.int ((gt ds24 16).i), D.int ((gt ds24 17).i), D.int ((gt ds24 18).i), D.int ((gt ds24 19).i), D.bool ((gt ds24 20).b), D.bool true, D.row ((gt ds24 22).r), D.row ((gt ds24 23).r), D.row ((gt ds24 24).r)]
     else none
    else bif ((gt ds24 13).i == 0) then
     bif (gt ds24 21).b then
      some [D.int ((gt ds24 0).i), D.row ((gt ds24 1).r), D.int ((gt ds24 2).i), D.int ((gt ds24 3).i), D.row ((gt ds24 4).r), D.int ((gt ds24 5).i), D.int ((gt ds24 6).i), D.row ((gt ds24 7).r), D.int ((gt ds24 8).i), D.int ((gt ds24 9).i), D.int ((gt ds24 10).i), D.int ((gt ds24 11).i), D.int ((gt ds24 12).i), D.int ((gt ds24 13).i), D.int ((gt ds24 14).i), D.int ((gt ds24 15).i), D.int ((gt ds24 16).i), D.int ((gt ds24 17).i), D.int ((gt ds24 18).i), D.int ((gt ds24 19).i), D.bool ((gt ds24 20).b), D.bool true, D.row ((gt ds24 22).r), D.row ((gt ds24 23).r), D.row ((gt ds24 24).r)]
     else none
    else some [D.int ((gt ds24 0).i), D.row ((gt ds24 1).r), D.int ((gt ds24 2).i), D.int ((gt ds24 3).i), D.row ((gt ds24 4).r), D.int ((gt ds24 5).i), D.int ((gt ds24 6).i), D.row ((gt ds24 7).r), D.int ((gt ds24 8).i), D.int ((gt ds24 9).i), D.int ((gt ds24 10).i), D.int ((gt ds24 11).i), D.int ((gt ds24 12).i), D.int ((gt ds24 13).i), D.int ((gt ds24 14).i), D.int ((gt ds24 15).i), D.int ((gt ds24 16).i), D.int ((gt ds24 17).i), D.int ((gt ds24 18).i), D.int ((gt ds24 19).i), D.bool ((gt ds24 20).b), D.bool (bif (gt ds24 21).b then true else false), D.row ((gt ds24 22).r), D.row ((gt ds24 23).r), D.row ((gt ds24 24).r)]
   else none).bind fun ds29 =>
  rec23 [D.int ((gt ds29 0).i), D.row ((gt ds29 1).r), D.int ((gt ds29 2).i), D.int ((gt ds29 3).i), D.row ((gt ds29 4).r), D.int ((gt ds29 5).i), D.int ((gt ds29 6).i), D.row ((gt ds29 7).r), D.int ((gt ds29 8).i), D.int (Go.IntKind.i64.wrap ((gt ds29 9).i + 1)), D.int ((gt ds29 10).i), D.int ((gt ds29 11).i), D.int ((gt ds29 12).i), D.int ((gt ds29 13).i), D.int ((gt ds29 14).i), D.int ((gt ds29 15).i), D.int ((gt ds29 16).i), D.int ((gt ds29 17).i), D.int ((gt ds29 18).i), D.int ((gt ds29 19).i), D.bool ((gt ds29 20).b), D.bool ((gt ds29 21).b), D.row ((gt ds29 22).r), D.row ((gt ds29 23).r), D.row ((gt ds29 24).r)]
 else rec20 [D.int ((gt ds24 0).i), D.row ((gt ds24 1).r), D.int ((gt ds24 2).i), D.int ((gt ds24 3).i), D.row ((gt ds24 4).r), D.int ((gt ds24 5).i), D.int (Go.IntKind.i64.wrap ((gt ds24 6).i + 1)), D.int ((gt ds24 10).i), D.int ((gt ds24 11).i), D.int ((gt ds24 12).i), D.int ((gt ds24 13).i), D.int ((gt ds24 14).i), D.int ((gt ds24 15).i), D.int ((gt ds24 16).i), D.int ((gt ds24 17).i), D.int ((gt ds24 18).i), D.int ((gt ds24 19).i), D.bool ((gt ds24 20).b), D.bool ((gt ds24 21).b), D.row ((gt ds24 22).r), D.row ((gt ds24 23).r), D.row ((gt ds24 24).r)]
def B44x6 (k19 : Nat) (rec20 : List D → Option (List D)) (ds21 : List D) : Option (List D) :=
 bif decide ((gt ds21 6).i < (gt ds21 5).i) then
  bif ((inRow ((gt ds21 6).i) (((gt ds21 4).r).length)) && true) then
   iter (B44x5 rec20) k19 [D.int ((gt ds21 0).i), D.row ((gt ds21 1).r), D.int ((gt ds21 2).i), D.int ((gt ds21 3).i), D.row ((gt ds21 4).r), D.int ((gt ds21 5).i), D.int ((gt ds21 6).i), D.row (((elAt ((gt ds21 4).r) ((gt ds21 6).i)).c 0).r), D.int ((((elAt ((gt ds21 4).r) ((gt ds21 6).i)).c 0).r).length : Int), D.int 0, D.int ((gt ds21 7).i), D.int ((gt ds21 8).i), D.int ((gt ds21 9).i), D.int ((gt ds21 10).i), D.int ((gt ds21 11).i), D.int ((gt ds21 12).i), D.int ((gt ds21 13).i), D.int ((gt ds21 14).i), D.int ((gt ds21 15).i), D.int ((gt ds21 16).i), D.bool ((gt ds21 17).b), D.bool ((gt ds21 18).b), D.row ((gt ds21 19).r), D.row ((gt ds21 20).r), D.row ((gt ds21 21).r)]
  else none
 else some [D.int ((gt ds21 0).i), D.row ((gt ds21 1).r), D.int ((gt ds21 2).i), D.int ((gt ds21 3).i), D.int ((gt ds21 7).i), D.int ((gt ds21 8).i), D.int ((gt ds21 9).i), D.int ((gt ds21 10).i), D.int ((gt ds21 11).i), D.int ((gt ds21 12).i), D.int ((gt ds21 13).i), D.int ((gt ds21 14).i), D.int ((gt ds21 15).i), D.int ((gt ds21 16).i), D.bool ((gt ds21 17).b), D.bool ((gt ds21 18).b), D.row ((gt ds21 19).r), D.row ((gt ds21 20).r), D.row ((gt ds21 21).r)]
def B44x7 (k1 : Nat) (rec2 : List D → Option (List D)) (ds3 : List D) : Option (List D) :=
 bif decide ((gt ds3 3).i < (gt ds3 2).i) then
  (bif ((inRow ((gt ds3 3).i) (((gt ds3 1).r).length)) && true) then
    bif decide ((((gt ds3 16).r).length : Int) ≤ (gt ds3 0).i) then
     bif (needOk (((gt ds3 18).r).length + [D.int (((gt ds3 16).r).length : Int)].length) 8) then
      bif (needOk (((gt ds3 16).r).length + (List.map (fun c => D.int ((UInt8.toNat c) : Int)) (ByteArray.toList (((elAt ((gt ds3 1).r) ((gt ds3 3).i)).c 0).s))).length) 1) then
       iter B44x3 k1 [D.int ((gt ds3 3).i), D.row (((elAt ((gt ds3 1).r) ((gt ds3 3).i)).c 1).r), D.int ((((elAt ((gt ds3 1).r) ((gt ds3 3).i)).c 1).r).length : Int), D.int 0, D.int ((gt ds3 0).i), D.row ((gt ds3 1).r), D.int ((gt ds3 2).i), D.int ((gt ds3 3).i), D.int ((gt ds3 9).i), D.int ((gt ds3 10).i), D.int ((gt ds3 11).i), D.int ((gt ds3 12).i), D.int ((gt ds3 13).i), D.bool ((gt ds3 14).b), D.bool ((gt ds3 15).b), D.int ((gt ds3 4).i), D.int ((gt ds3 5).i), D.int ((gt ds3 6).i), D.int ((gt ds3 7).i), D.int ((gt ds3 8).i), D.row ((gt ds3 16).r ++ (List.map (fun c => D.int ((UInt8.toNat c) : Int)) (ByteArray.toList (((elAt ((gt ds3 1).r) ((gt ds3 3).i)).c 0).s)))), D.row ((gt ds3 17).r), D.row ((gt ds3 18).r ++ [D.int (((gt ds3 16).r).length : Int)])]
      else none
     else none
    else iter B44x6 k1 [D.int ((gt ds3 0).i), D.row ((gt ds3 1).r), D.int ((gt ds3 2).i), D.int ((gt ds3 3).i), D.row (((elAt ((gt ds3 1).r) ((gt ds3 3).i)).c 1).r), D.int ((((elAt ((gt ds3 1).r) ((gt ds3 3).i)).c 1).r).length : Int), D.int 0, D.int ((gt ds3 4).i), D.int ((gt ds3 5).i), D.int ((gt ds3 6).i), D.int ((gt ds3 7).i), D.int ((gt ds3 8).i), D.int ((gt ds3 9).i), D.int ((gt ds3 10).i), D.int ((gt ds3 11).i), D.int ((gt ds3 12).i), D.int ((gt ds3 13).i), D.bool ((gt ds3 14).b), D.bool ((gt ds3 15).b), D.row ((gt ds3 16).r), D.row ((gt ds3 17).r), D.row ((gt ds3 18).r)]
   else none).bind fun ds30 =>
  rec2 [D.int ((gt ds30 0).i), D.row ((gt ds30 1).r), D.int ((gt ds30 2).i), D.int (Go.IntKind.i64.wrap ((gt ds30 3).i + 1)), D.int ((gt ds30 4).i), D.int ((gt ds30 5).i), D.int ((gt ds30 6).i), D.int ((gt ds30 7).i), D.int ((gt ds30 8).i), D.int ((gt ds30 9).i), D.int ((gt ds30 10).i), D.int ((gt ds30 11).i), D.int ((gt ds30 12).i), D.int ((gt ds30 13).i), D.bool ((gt ds30 14).b), D.bool ((gt ds30 15).b), D.row ((gt ds30 16).r), D.row ((gt ds30 17).r), D.row ((gt ds30 18).r)]
 else bif (gt ds3 15).b then
  some [D.agg [D.bool true, D.int 0], D.int 3]
 else bif decide ((((gt ds3 16).r).length : Int) > (gt ds3 0).i) then
  some [D.agg [D.bool true, D.int 0], D.int 2]
 else some [D.agg [D.bool false, D.agg [D.int ((gt ds3 9).i), D.int ((gt ds3 10).i), D.int ((gt ds3 11).i), D.int ((gt ds3 12).i), D.int ((gt ds3 13).i), D.bool ((gt ds3 14).b), D.row ((gt ds3 16).r), D.row ((gt ds3 17).r), D.row ((gt ds3 18).r), D.bool ((gt ds3 15).b)]], D.int 0]
/-- interchange/wire.written -/
def F44 (k : Nat) (ds : List D) : Option (List D) :=
 (F34 k [D.row ((gt ds 0).r), D.int ((gt ds 1).i), D.int ((gt ds 2).i), D.int ((gt ds 3).i), D.int ((gt ds 4).i), D.int ((gt ds 5).i)]).bind fun ds0 =>
 bif ((gt ds0 0).i != 0) then
  some [D.agg [D.bool true, D.int 0], D.int ((gt ds0 0).i)]
 else iter B44x7 k [D.int ((gt ds 7).i), D.row ((gt ds 0).r), D.int (((gt ds 0).r).length : Int), D.int 0, D.int ((gt ds 1).i), D.int ((gt ds 2).i), D.int ((gt ds 3).i), D.int ((gt ds 4).i), D.int ((gt ds 5).i), D.int ((gt ds 1).i), D.int ((gt ds 2).i), D.int ((gt ds 3).i), D.int ((gt ds 4).i), D.int ((gt ds 5).i), D.bool ((gt ds 6).b), D.bool false, D.row [], D.row [], D.row []]
def K44 : Callee := ⟨[.seen 53, .agg [.int .u8, .int .u8, .int .u8, .int .u8, .int .u8], .bool, .int .i64], [.sp 87 [.int .u8, .int .u8, .int .u8, .int .u8, .int .u8, .bool, .seen 5, .seen 95, .seen 3, .bool], .int .i64], F44⟩
noncomputable def C44 : Code := match Tryd.f44.body with | some c => c | none => .skip
noncomputable def C78 : Code := match Tryd.f78.body with | some c => c | none => .skip
/-- interchange/wire.written$1, in place -/
noncomputable def X44_5 : Inl := inlOf (tyTab TL) ⟨lkup [], lkup [], mdL [], envL [(34, K34), (99, K99), (67, K67)], itr, inlL [], hasL [], 5000⟩ C78 [.tmp 3]
theorem O44_5 : InlOK Tryd.prog (tyTab TL) 78 X44_5 :=
 inl_ok TOKp EOKp MIXp (lkup_cons T34 (lkup_cons T99 (lkup_cons T67 lkup_nil))) inlL_nil (fn := Tryd.f78) Tryd.func78 (by kernel_rfl) (by kernel_rfl) (of_decide_eq_false (by kernel_rfl)) (by kernel_rfl)
noncomputable def C106 : Code := match Tryd.f106.body with | some c => c | none => .skip
/-- slices.IndexFunc[[]string,string], in place -/
noncomputable def X44_4 : Inl := inlOf (tyTab TL) ⟨lkup [(2, ⟨[.box 23 [.int .u8, .int .u8, .int .u8, .int .u8, .int .u8], .box 87 [.int .u8, .int .u8, .int .u8, .int .u8, .int .u8, .bool, .orow 2, .orow 3, .orow 4, .bool], .row 5 false, .row 95 false, .row 3 false], [(0, .srow 9), (1, .clo 78 [(0, 0)]), (7, .int .i64), (8, .int .i64), (2000003, .int .i64), (2000005, .ptr 0 0), (2000011, .ptr 1 0), (2000028, .srow 53), (2000029, .int .i64), (2000030, .int .i64), (2000047, .srow 76), (2000048, .int .i64), (2000049, .int .i64), (2000054, .srow 100), (2000055, .int .i64), (2000056, .int .i64), (2000060, .ptr 1 0), (2000065, .bool), (2000069, .bool)]⟩)], lkup [], mdL [], envL [(34, K34), (99, K99), (67, K67)], itr, inlL [(4004, 5, 78, X44_5)], hasL [(4004, 5, 78, X44_5)], 4000⟩ C106 [.tmp 4]
theorem O44_4 : InlOK Tryd.prog (tyTab TL) 106 X44_4 :=
 inl_ok TOKp EOKp MIXp (lkup_cons T34 (lkup_cons T99 (lkup_cons T67 lkup_nil))) (inlL_cons O44_5 inlL_nil) (fn := Tryd.f106) Tryd.func106 (by kernel_rfl) (by kernel_rfl) (of_decide_eq_false (by kernel_rfl)) (by kernel_rfl)
noncomputable def C77 : Code := match Tryd.f77.body with | some c => c | none => .skip
/-- slices.ContainsFunc[[]string,string], in place -/
noncomputable def X44_3 : Inl := inlOf (tyTab TL) ⟨lkup [], lkup [], mdL [], envL [(34, K34), (99, K99), (67, K67)], itr, inlL [(3001, 2, 106, X44_4)], hasL [(3001, 2, 106, X44_4)], 3000⟩ C77 [.tmp 4]
theorem O44_3 : InlOK Tryd.prog (tyTab TL) 77 X44_3 :=
 inl_ok TOKp EOKp MIXp (lkup_cons T34 (lkup_cons T99 (lkup_cons T67 lkup_nil))) (inlL_cons O44_4 inlL_nil) (fn := Tryd.f77) Tryd.func77 (by kernel_rfl) (by kernel_rfl) (of_decide_eq_false (by kernel_rfl)) (by kernel_rfl)
noncomputable def C105 : Code := match Tryd.f105.body with | some c => c | none => .skip
/-- (*interchange/wire.writer).text, in place -/
noncomputable def X44_2 : Inl := inlOf (tyTab TL) ⟨lkup [(1, ⟨[.box 87 [.int .u8, .int .u8, .int .u8, .int .u8, .int .u8, .bool, .orow 2, .orow 3, .orow 4, .bool], .box 23 [.int .u8, .int .u8, .int .u8, .int .u8, .int .u8], .row 5 false, .row 95 false, .row 3 false], [(0, .ptr 0 0), (1, .str), (6, .int .i64), (7, .int .i64), (1000000, .ptr 0 0), (1000001, .int .i64), (1000006, .int .i64), (1000009, .int .i64), (1000011, .int .i64), (1000013, .int .i64), (1000039, .srow 76), (1000040, .int .i64), (1000041, .int .i64), (1000052, .srow 100), (1000053, .int .i64), (1000054, .int .i64), (1000059, .srow 9), (1000060, .int .i64), (1000061, .int .i64), (2000003, .int .i64), (2000005, .ptr 1 0), (2000011, .ptr 0 0), (2000028, .srow 53), (2000029, .int .i64), (2000030, .int .i64)]⟩)], lkup [(9, .full ⟨[.box 87 [.int .u8, .int .u8, .int .u8, .int .u8, .int .u8, .bool, .orow 2, .orow 3, .orow 4, .bool], .box 23 [.int .u8, .int .u8, .int .u8, .int .u8, .int .u8], .row 5 false, .row 95 false, .row 3 false], [(0, .ptr 0 0), (1, .str), (4, .int .i64), (6, .int .i64), (7, .int .i64), (1000000, .ptr 0 0), (1000001, .int .i64), (1000006, .int .i64), (1000009, .int .i64), (1000011, .int .i64), (1000013, .int .i64), (1000039, .srow 76), (1000040, .int .i64), (1000041, .int .i64), (1000052, .srow 100), (1000053, .int .i64), (1000054, .int .i64), (1000059, .srow 9), (1000060, .int .i64), (1000061, .int .i64), (2000003, .int .i64), (2000005, .ptr 1 0), (2000011, .ptr 0 0), (2000028, .srow 53), (2000029, .int .i64), (2000030, .int .i64)]⟩), (12, .full ⟨[.box 87 [.int .u8, .int .u8, .int .u8, .int .u8, .int .u8, .bool, .orow 2, .orow 3, .orow 4, .bool], .box 23 [.int .u8, .int .u8, .int .u8, .int .u8, .int .u8], .row 5 false, .row 95 false, .row 3 false], [(0, .ptr 0 0), (1, .str), (4, .int .i64), (6, .int .i64), (7, .int .i64), (1000000, .ptr 0 0), (1000001, .int .i64), (1000006, .int .i64), (1000009, .int .i64), (1000011, .int .i64), (1000013, .int .i64), (1000039, .srow 76), (1000040, .int .i64), (1000041, .int .i64), (1000052, .srow 100), (1000053, .int .i64), (1000054, .int .i64), (1000059, .srow 9), (1000060, .int .i64), (1000061, .int .i64), (2000003, .int .i64), (2000005, .ptr 1 0), (2000011, .ptr 0 0), (2000028, .srow 53), (2000029, .int .i64), (2000030, .int .i64)]⟩)], mdL [], envL [(34, K34), (99, K99), (67, K67)], itr, inlL [], hasL [], 2000⟩ C105 []
theorem O44_2 : InlOK Tryd.prog (tyTab TL) 105 X44_2 :=
 inl_ok TOKp EOKp MIXp (lkup_cons T34 (lkup_cons T99 (lkup_cons T67 lkup_nil))) inlL_nil (fn := Tryd.f105) Tryd.func105 (by kernel_rfl) (by kernel_rfl) (of_decide_eq_false (by kernel_rfl)) (by kernel_rfl)
noncomputable def C76 : Code := match Tryd.f76.body with | some c => c | none => .skip
/-- (*interchange/wire.writer).segment, in place -/
noncomputable def X44_1 : Inl := inlOf (tyTab TL) ⟨lkup [(11, ⟨[.box 87 [.int .u8, .int .u8, .int .u8, .int .u8, .int .u8, .bool, .orow 2, .orow 3, .orow 4, .bool], .box 23 [.int .u8, .int .u8, .int .u8, .int .u8, .int .u8], .row 5 false, .row 95 false, .row 3 false], [(0, .ptr 0 0), (1, .int .i64), (6, .int .i64), (8, .int .u8), (9, .int .i64), (39, .srow 76), (40, .int .i64), (41, .int .i64), (52, .srow 100), (53, .int .i64), (54, .int .i64), (59, .srow 9), (60, .int .i64), (61, .int .i64), (1000003, .int .i64), (1000005, .ptr 1 0), (1000011, .ptr 0 0), (1000028, .srow 53), (1000029, .int .i64), (1000030, .int .i64)]⟩), (8, ⟨[.box 87 [.int .u8, .int .u8, .int .u8, .int .u8, .int .u8, .bool, .orow 2, .orow 3, .orow 4, .bool], .box 23 [.int .u8, .int .u8, .int .u8, .int .u8, .int .u8], .row 5 false, .row 95 false, .row 3 false], [(0, .ptr 0 0), (1, .int .i64), (6, .int .i64), (8, .int .u8), (39, .srow 76), (40, .int .i64), (41, .int .i64), (52, .srow 100), (53, .int .i64), (54, .int .i64), (1000003, .int .i64), (1000005, .ptr 1 0), (1000011, .ptr 0 0), (1000028, .srow 53), (1000029, .int .i64), (1000030, .int .i64)]⟩), (4, ⟨[.box 87 [.int .u8, .int .u8, .int .u8, .int .u8, .int .u8, .bool, .orow 2, .orow 3, .orow 4, .bool], .box 23 [.int .u8, .int .u8, .int .u8, .int .u8, .int .u8], .row 5 false, .row 95 false, .row 3 false], [(0, .ptr 0 0), (1, .int .i64), (39, .srow 76), (40, .int .i64), (41, .int .i64), (1000003, .int .i64), (1000005, .ptr 1 0), (1000011, .ptr 0 0), (1000028, .srow 53), (1000029, .int .i64), (1000030, .int .i64)]⟩)], lkup [], mdL [], envL [(34, K34), (99, K99), (67, K67)], itr, inlL [(1015, 2, 105, X44_2)], hasL [(1015, 2, 105, X44_2)], 1000⟩ C76 []
theorem O44_1 : InlOK Tryd.prog (tyTab TL) 76 X44_1 :=
 inl_ok TOKp EOKp MIXp (lkup_cons T34 (lkup_cons T99 (lkup_cons T67 lkup_nil))) (inlL_cons O44_2 inlL_nil) (fn := Tryd.f76) Tryd.func76 (by kernel_rfl) (by kernel_rfl) (of_decide_eq_false (by kernel_rfl)) (by kernel_rfl)
theorem T44 : FunOK Tryd.prog (tyTab TL) 44 K44 :=
 fun_ok_i (loops := lkup [(14, ⟨[.box 23 [.int .u8, .int .u8, .int .u8, .int .u8, .int .u8], .box 87 [.int .u8, .int .u8, .int .u8, .int .u8, .int .u8, .bool, .orow 2, .orow 3, .orow 4, .bool], .row 5 false, .row 95 false, .row 3 false], [(3, .int .i64), (5, .ptr 0 0), (11, .ptr 1 0), (28, .srow 53), (29, .int .i64), (30, .int .i64), (47, .srow 76), (48, .int .i64), (49, .int .i64), (54, .srow 100), (55, .int .i64), (56, .int .i64)]⟩), (11, ⟨[.box 23 [.int .u8, .int .u8, .int .u8, .int .u8, .int .u8], .box 87 [.int .u8, .int .u8, .int .u8, .int .u8, .int .u8, .bool, .orow 2, .orow 3, .orow 4, .bool], .row 5 false, .row 95 false, .row 3 false], [(3, .int .i64), (5, .ptr 0 0), (11, .ptr 1 0), (28, .srow 53), (29, .int .i64), (30, .int .i64), (47, .srow 76), (48, .int .i64), (49, .int .i64)]⟩), (6, ⟨[.box 23 [.int .u8, .int .u8, .int .u8, .int .u8, .int .u8], .box 87 [.int .u8, .int .u8, .int .u8, .int .u8, .int .u8, .bool, .orow 2, .orow 3, .orow 4, .bool], .row 5 false, .row 95 false, .row 3 false], [(3, .int .i64), (5, .ptr 0 0), (11, .ptr 1 0), (28, .srow 53), (29, .int .i64), (30, .int .i64)]⟩)]) (joins := lkup [(34, .full ⟨[.box 23 [.int .u8, .int .u8, .int .u8, .int .u8, .int .u8], .box 87 [.int .u8, .int .u8, .int .u8, .int .u8, .int .u8, .bool, .orow 2, .orow 3, .orow 4, .bool], .row 5 false, .row 95 false, .row 3 false], [(3, .int .i64), (5, .ptr 0 0), (11, .ptr 1 0), (28, .srow 53), (29, .int .i64), (30, .int .i64), (47, .srow 76), (48, .int .i64), (49, .int .i64), (54, .srow 100), (55, .int .i64), (56, .int .i64)]⟩), (38, .full ⟨[.box 23 [.int .u8, .int .u8, .int .u8, .int .u8, .int .u8], .box 87 [.int .u8, .int .u8, .int .u8, .int .u8, .int .u8, .bool, .orow 2, .orow 3, .orow 4, .bool], .row 5 false, .row 95 false, .row 3 false], [(3, .int .i64), (5, .ptr 0 0), (11, .ptr 1 0), (28, .srow 53), (29, .int .i64), (30, .int .i64)]⟩)]) (md := mdL []) (L := [(34, K34), (99, K99), (67, K67)]) (I := [(9, 3, 76, X44_1), (16, 12, 77, X44_3)]) (res := [.tmp 8, .tmp 9]) (code := C44) (fn := Tryd.f44) TOKp EOKp MIXp (lkup_cons T34 (lkup_cons T99 (lkup_cons T67 lkup_nil))) (inlL_cons O44_1 (inlL_cons O44_3 inlL_nil)) Tryd.func44 (by kernel_rfl) (by kernel_rfl) (of_decide_eq_false (by kernel_rfl)) (by kernel_rfl) (fun k ds => by kernel_rfl)
/-- interchange/wire.spotFault -/
def F50 (k : Nat) (ds : List D) : Option (List D) :=
 (F14 k [D.row [D.agg [D.str ((gt ds 0).s), D.row ((gt ds 1).r)]]]).bind fun ds0 =>
 bif ((gt ds0 0).i != 0) then
  some [D.int ((gt ds0 0).i)]
 else (F47 k [D.int ((gt ds 2).i), D.int ((gt ds 3).i), D.int ((gt ds 4).i)]).bind fun ds1 =>
 some [D.int ((gt ds1 0).i)]
def K50 : Callee := ⟨[.agg [.str, .seen 76], .agg [.int .i64, .int .i64, .int .i64]], [.int .i64], F50⟩
noncomputable def C50 : Code := match Tryd.f50.body with | some c => c | none => .skip
theorem T50 : FunOK Tryd.prog (tyTab TL) 50 K50 :=
 fun_ok (loops := lkup []) (joins := lkup []) (md := mdL []) (L := [(14, K14), (47, K47)]) (res := [.tmp 4]) (code := C50) (fn := Tryd.f50) TOKp EOKp MIXp (lkup_cons T14 (lkup_cons T47 lkup_nil)) Tryd.func50 (by kernel_rfl) (by kernel_rfl) (of_decide_eq_false (by kernel_rfl)) (by kernel_rfl) (fun k ds => by kernel_rfl)
/-- interchange/interchangeref2.Escapes -/
def F9 (k : Nat) (ds : List D) : Option (List D) :=
 (F32 k [D.row ((gt ds 0).r), D.int ((gt ds 1).i), D.int ((gt ds 2).i), D.int ((gt ds 3).i), D.int ((gt ds 4).i), D.int ((gt ds 5).i)]).bind fun ds0 =>
 bif ((gt ds0 0).i != 0) then
  some [D.int 0, D.int ((gt ds0 0).i)]
 else (F33 k [D.row ((gt ds 0).r), D.int ((gt ds 1).i), D.int ((gt ds 2).i), D.int ((gt ds 3).i), D.int ((gt ds 4).i), D.int ((gt ds 5).i), D.bool false]).bind fun ds1 =>
 bif (!((gt ds1 0).c 0).b) then
  some [D.int ((((gt ds1 0).c 1).c 7).i), D.int 0]
 else none
def K9 : Callee := ⟨[.seen 53, .agg [.int .u8, .int .u8, .int .u8, .int .u8, .int .u8]], [.int .i64, .int .i64], F9⟩
noncomputable def C9 : Code := match Tryd.f9.body with | some c => c | none => .skip
theorem T9 : FunOK Tryd.prog (tyTab TL) 9 K9 :=
 fun_ok (loops := lkup []) (joins := lkup []) (md := mdL []) (L := [(32, K32), (33, K33)]) (res := [.tmp 4, .tmp 5]) (code := C9) (fn := Tryd.f9) TOKp EOKp MIXp (lkup_cons T32 (lkup_cons T33 lkup_nil)) Tryd.func9 (by kernel_rfl) (by kernel_rfl) (of_decide_eq_false (by kernel_rfl)) (by kernel_rfl) (fun k ds => by kernel_rfl)
/-- interchange/wire.Escapes -/
def F10 (k : Nat) (ds : List D) : Option (List D) :=
 (F34 k [D.row ((gt ds 0).r), D.int ((gt ds 1).i), D.int ((gt ds 2).i), D.int ((gt ds 3).i), D.int ((gt ds 4).i), D.int ((gt ds 5).i)]).bind fun ds0 =>
 bif ((gt ds0 0).i != 0) then
  some [D.int 0, D.int ((gt ds0 0).i)]
 else (F35 k [D.row ((gt ds 0).r), D.int ((gt ds 1).i), D.int ((gt ds 2).i), D.int ((gt ds 3).i), D.int ((gt ds 4).i), D.int ((gt ds 5).i)]).bind fun ds1 =>
 some [D.int ((gt ds1 0).i), D.int 0]
def K10 : Callee := ⟨[.seen 53, .agg [.int .u8, .int .u8, .int .u8, .int .u8, .int .u8]], [.int .i64, .int .i64], F10⟩
noncomputable def C10 : Code := match Tryd.f10.body with | some c => c | none => .skip
theorem T10 : FunOK Tryd.prog (tyTab TL) 10 K10 :=
 fun_ok (loops := lkup []) (joins := lkup []) (md := mdL []) (L := [(34, K34), (35, K35)]) (res := [.tmp 4, .tmp 5]) (code := C10) (fn := Tryd.f10) TOKp EOKp MIXp (lkup_cons T34 (lkup_cons T35 lkup_nil)) Tryd.func10 (by kernel_rfl) (by kernel_rfl) (of_decide_eq_false (by kernel_rfl)) (by kernel_rfl) (fun k ds => by kernel_rfl)
/-- interchange/interchangeref2.Join -/
def F18 (k : Nat) (ds : List D) : Option (List D) :=
 (F32 k [D.row ((gt ds 0).r), D.int ((gt ds 1).i), D.int ((gt ds 2).i), D.int ((gt ds 3).i), D.int ((gt ds 4).i), D.int ((gt ds 5).i)]).bind fun ds0 =>
 bif ((gt ds0 0).i != 0) then
  some [D.row [], D.int ((gt ds0 0).i)]
 else (F43 k [D.row ((gt ds 0).r), D.int ((gt ds 1).i), D.int ((gt ds 2).i), D.int ((gt ds 3).i), D.int ((gt ds 4).i), D.int ((gt ds 5).i), D.bool ((gt ds 6).b), D.int 500000]).bind fun ds1 =>
 bif ((gt ds1 1).i != 0) then
  some [D.row [], D.int ((gt ds1 1).i)]
 else bif (!((gt ds1 0).c 0).b) then
  some [D.row ((((gt ds1 0).c 1).c 5).r), D.int 0]
 else none
def K18 : Callee := ⟨[.seen 53, .agg [.int .u8, .int .u8, .int .u8, .int .u8, .int .u8], .bool], [.seen 5, .int .i64], F18⟩
noncomputable def C18 : Code := match Tryd.f18.body with | some c => c | none => .skip
theorem T18 : FunOK Tryd.prog (tyTab TL) 18 K18 :=
 fun_ok (loops := lkup []) (joins := lkup []) (md := mdL []) (L := [(32, K32), (43, K43)]) (res := [.tmp 6, .tmp 7]) (code := C18) (fn := Tryd.f18) TOKp EOKp MIXp (lkup_cons T32 (lkup_cons T43 lkup_nil)) Tryd.func18 (by kernel_rfl) (by kernel_rfl) (of_decide_eq_false (by kernel_rfl)) (by kernel_rfl) (fun k ds => by kernel_rfl)
/-- interchange/wire.Join -/
def F19 (k : Nat) (ds : List D) : Option (List D) :=
 (F44 k [D.row ((gt ds 0).r), D.int ((gt ds 1).i), D.int ((gt ds 2).i), D.int ((gt ds 3).i), D.int ((gt ds 4).i), D.int ((gt ds 5).i), D.bool ((gt ds 6).b), D.int 500000]).bind fun ds0 =>
 bif ((gt ds0 1).i != 0) then
  some [D.row [], D.int ((gt ds0 1).i)]
 else bif (!((gt ds0 0).c 0).b) then
  some [D.row ((((gt ds0 0).c 1).c 6).r), D.int 0]
 else none
def K19 : Callee := ⟨[.seen 53, .agg [.int .u8, .int .u8, .int .u8, .int .u8, .int .u8], .bool], [.seen 5, .int .i64], F19⟩
noncomputable def C19 : Code := match Tryd.f19.body with | some c => c | none => .skip
theorem T19 : FunOK Tryd.prog (tyTab TL) 19 K19 :=
 fun_ok (loops := lkup []) (joins := lkup []) (md := mdL []) (L := [(44, K44)]) (res := [.tmp 6, .tmp 7]) (code := C19) (fn := Tryd.f19) TOKp EOKp MIXp (lkup_cons T44 lkup_nil) Tryd.func19 (by kernel_rfl) (by kernel_rfl) (of_decide_eq_false (by kernel_rfl)) (by kernel_rfl) (fun k ds => by kernel_rfl)
def B21x0 (k4 : Nat) (rec5 : List D → Option (List D)) (ds6 : List D) : Option (List D) :=
 bif (!((gt ds6 1).c 0).b) then
  bif decide ((gt ds6 2).i < (((((gt ds6 1).c 1).c 6).r).length : Int)) then
   bif (!((gt ds6 1).c 0).b) then
    bif ((inRow ((gt ds6 2).i) (((((gt ds6 1).c 1).c 6).r).length)) && true) then
     (bif (((elAt ((((gt ds6 1).c 1).c 6).r) ((gt ds6 2).i)).c 0).i == (gt ds6 0).i) then
       some [D.bool ((((elAt ((((gt ds6 1).c 1).c 6).r) ((gt ds6 2).i)).c 1).i == (gt ds6 3).i) && ((((elAt ((((gt ds6 1).c 1).c 6).r) ((gt ds6 2).i)).c 2).i == (gt ds6 4).i) && ((((elAt ((((gt ds6 1).c 1).c 6).r) ((gt ds6 2).i)).c 3).i == (gt ds6 5).i) && true)))]
      else some [D.bool false]).bind fun ds7 =>
     bif (gt ds7 0).b then
      some [D.int (((elAt ((((gt ds6 1).c 1).c 6).r) ((gt ds6 2).i)).c 5).i), D.int (((elAt ((((gt ds6 1).c 1).c 6).r) ((gt ds6 2).i)).c 6).i), D.int 0]
     else rec5 [D.int ((gt ds6 0).i), (gt ds6 1), D.int (Go.IntKind.i64.wrap ((gt ds6 2).i + 1)), D.int ((gt ds6 3).i), D.int ((gt ds6 4).i), D.int ((gt ds6 5).i), D.int ((gt ds6 6).i), D.int ((gt ds6 7).i)]
    else none
   else none
  else some [D.int 0, D.int 0, D.int 9]
 else none
/-- interchange/interchangeref2.Where -/
def F21 (k : Nat) (ds : List D) : Option (List D) :=
 (F32 k [D.row ((gt ds 0).r), D.int ((gt ds 1).i), D.int ((gt ds 2).i), D.int ((gt ds 3).i), D.int ((gt ds 4).i), D.int ((gt ds 5).i)]).bind fun ds0 =>
 bif ((gt ds0 0).i != 0) then
  some [D.int 0, D.int 0, D.int ((gt ds0 0).i)]
 else (F43 k [D.row ((gt ds 0).r), D.int ((gt ds 1).i), D.int ((gt ds 2).i), D.int ((gt ds 3).i), D.int ((gt ds 4).i), D.int ((gt ds 5).i), D.bool ((gt ds 6).b), D.int 500000]).bind fun ds1 =>
 bif ((gt ds1 1).i != 0) then
  some [D.int 0, D.int 0, D.int ((gt ds1 1).i)]
 else (bif decide ((gt ds 7).i < 0) then
   some [D.bool true]
  else some [D.bool (decide ((gt ds 7).i ≥ (((gt ds 0).r).length : Int)))]).bind fun ds2 =>
 bif (gt ds2 0).b then
  some [D.int 0, D.int 0, D.int 1]
 else bif ((inRow ((gt ds 7).i) (((gt ds 0).r).length)) && true) then
  (F45 k [D.str (((elAt ((gt ds 0).r) ((gt ds 7).i)).c 0).s), D.row (((elAt ((gt ds 0).r) ((gt ds 7).i)).c 1).r), D.int ((gt ds 8).i), D.int ((gt ds 9).i), D.int ((gt ds 10).i)]).bind fun ds3 =>
  bif ((gt ds3 0).i != 0) then
   some [D.int 0, D.int 0, D.int ((gt ds3 0).i)]
  else iter B21x0 k [D.int ((gt ds 7).i), (gt ds1 0), D.int 0, D.int ((gt ds 8).i), D.int ((gt ds 9).i), D.int ((gt ds 10).i), D.int 0, D.int 0]
 else none
def K21 : Callee := ⟨[.seen 53, .agg [.int .u8, .int .u8, .int .u8, .int .u8, .int .u8], .bool, .int .i64, .agg [.int .i64, .int .i64, .int .i64]], [.agg [.int .i64, .int .i64], .int .i64], F21⟩
noncomputable def C21 : Code := match Tryd.f21.body with | some c => c | none => .skip
theorem T21 : FunOK Tryd.prog (tyTab TL) 21 K21 :=
 fun_ok (loops := lkup [(13, ⟨[.box 41 [.int .i64, .int .i64, .int .i64], .box 43 [.int .i64, .int .i64]], [(3, .int .i64), (9, .ptr 0 0), (10, .ptr 1 0), (13, .nptr 66), (16, .int .i64)]⟩)]) (joins := lkup [(15, .light [(43, .bool)]), (33, .light [(80, .bool)])]) (md := mdL []) (L := [(32, K32), (43, K43), (45, K45)]) (res := [.cell 10 43, .tmp 11]) (code := C21) (fn := Tryd.f21) TOKp EOKp MIXp (lkup_cons T32 (lkup_cons T43 (lkup_cons T45 lkup_nil))) Tryd.func21 (by kernel_rfl) (by kernel_rfl) (of_decide_eq_false (by kernel_rfl)) (by kernel_rfl) (fun k ds => by kernel_rfl)
def B22x0 (k3 : Nat) (rec4 : List D → Option (List D)) (ds5 : List D) : Option (List D) :=
 bif decide ((gt ds5 2).i < (gt ds5 1).i) then
  bif ((inRow ((gt ds5 2).i) (((gt ds5 0).r).length)) && true) then
   bif (((elAt ((gt ds5 0).r) ((gt ds5 2).i)).c 0).i == (gt ds5 4).i) then
    bif ((((elAt ((gt ds5 0).r) ((gt ds5 2).i)).c 1).i == (gt ds5 5).i) && ((((elAt ((gt ds5 0).r) ((gt ds5 2).i)).c 2).i == (gt ds5 6).i) && ((((elAt ((gt ds5 0).r) ((gt ds5 2).i)).c 3).i == (gt ds5 7).i) && true))) then
     some [(gt ds5 3), D.int ((gt ds5 2).i), D.int ((gt ds5 8).i), D.int ((gt ds5 9).i)]
    else rec4 [D.row ((gt ds5 0).r), D.int ((gt ds5 1).i), D.int (Go.IntKind.i64.wrap ((gt ds5 2).i + 1)), (gt ds5 3), D.int ((gt ds5 4).i), D.int ((gt ds5 5).i), D.int ((gt ds5 6).i), D.int ((gt ds5 7).i), D.int ((gt ds5 8).i), D.int ((gt ds5 9).i)]
   else rec4 [D.row ((gt ds5 0).r), D.int ((gt ds5 1).i), D.int (Go.IntKind.i64.wrap ((gt ds5 2).i + 1)), (gt ds5 3), D.int ((gt ds5 4).i), D.int ((gt ds5 5).i), D.int ((gt ds5 6).i), D.int ((gt ds5 7).i), D.int ((gt ds5 8).i), D.int ((gt ds5 9).i)]
  else none
 else some [(gt ds5 3), D.int (-1), D.int ((gt ds5 8).i), D.int ((gt ds5 9).i)]
/-- interchange/wire.Where -/
def F22 (k : Nat) (ds : List D) : Option (List D) :=
 (F44 k [D.row ((gt ds 0).r), D.int ((gt ds 1).i), D.int ((gt ds 2).i), D.int ((gt ds 3).i), D.int ((gt ds 4).i), D.int ((gt ds 5).i), D.bool ((gt ds 6).b), D.int 500000]).bind fun ds0 =>
 bif ((gt ds0 1).i != 0) then
  some [D.int 0, D.int 0, D.int ((gt ds0 1).i)]
 else (F46 k [D.int ((gt ds 7).i), D.int 0, D.int (Go.IntKind.i64.wrap ((((gt ds 0).r).length : Int) - 1))]).bind fun ds1 =>
 bif (gt ds1 0).b then
  some [D.int 0, D.int 0, D.int 1]
 else (F47 k [D.int ((gt ds 8).i), D.int ((gt ds 9).i), D.int ((gt ds 10).i)]).bind fun ds2 =>
 bif ((gt ds2 0).i != 0) then
  some [D.int 0, D.int 0, D.int ((gt ds2 0).i)]
 else (bif (!((gt ds0 0).c 0).b) then
   iter B22x0 k [D.row ((((gt ds0 0).c 1).c 7).r), D.int (((((gt ds0 0).c 1).c 7).r).length : Int), D.int 0, (gt ds0 0), D.int ((gt ds 7).i), D.int ((gt ds 8).i), D.int ((gt ds 9).i), D.int ((gt ds 10).i), D.int 0, D.int 0]
  else none).bind fun ds6 =>
 bif decide ((gt ds6 1).i < 0) then
  some [D.int 0, D.int 0, D.int 9]
 else bif (!((gt ds6 0).c 0).b) then
  bif ((inRow ((gt ds6 1).i) (((((gt ds6 0).c 1).c 7).r).length)) && true) then
   bif (!((gt ds6 0).c 0).b) then
    bif ((inRow ((gt ds6 1).i) (((((gt ds6 0).c 1).c 7).r).length)) && true) then
     some [D.int (((elAt ((((gt ds6 0).c 1).c 7).r) ((gt ds6 1).i)).c 4).i), D.int (((elAt ((((gt ds6 0).c 1).c 7).r) ((gt ds6 1).i)).c 5).i), D.int 0]
    else none
   else none
  else none
 else none
def K22 : Callee := ⟨[.seen 53, .agg [.int .u8, .int .u8, .int .u8, .int .u8, .int .u8], .bool, .int .i64, .agg [.int .i64, .int .i64, .int .i64]], [.agg [.int .i64, .int .i64], .int .i64], F22⟩
noncomputable def C22 : Code := match Tryd.f22.body with | some c => c | none => .skip
noncomputable def C49 : Code := match Tryd.f49.body with | some c => c | none => .skip
/-- interchange/wire.Where$1, in place -/
noncomputable def X22_2 : Inl := inlOf (tyTab TL) ⟨lkup [], lkup [], mdL [], envL [(44, K44), (46, K46), (47, K47)], itr, inlL [], hasL [], 2000⟩ C49 [.tmp 4]
theorem O22_2 : InlOK Tryd.prog (tyTab TL) 49 X22_2 :=
 inl_ok TOKp EOKp MIXp (lkup_cons T44 (lkup_cons T46 (lkup_cons T47 lkup_nil))) inlL_nil (fn := Tryd.f49) Tryd.func49 (by kernel_rfl) (by kernel_rfl) (of_decide_eq_false (by kernel_rfl)) (by kernel_rfl)
noncomputable def C48 : Code := match Tryd.f48.body with | some c => c | none => .skip
/-- slices.IndexFunc[[]interchange/wire.place,interchange/wire.place], in place -/
noncomputable def X22_1 : Inl := inlOf (tyTab TL) ⟨lkup [(2, ⟨[.box 3 [.int .i64], .box 41 [.int .i64, .int .i64, .int .i64], .box 43 [.int .i64, .int .i64]], [(0, .srow 95), (1, .clo 49 [(0, 0), (1, 0)]), (7, .int .i64), (8, .int .i64), (1000010, .ptr 2 0), (1000012, .nptr 87)]⟩)], lkup [], mdL [], envL [(44, K44), (46, K46), (47, K47)], itr, inlL [(1004, 5, 49, X22_2)], hasL [(1004, 5, 49, X22_2)], 1000⟩ C48 [.tmp 4]
theorem O22_1 : InlOK Tryd.prog (tyTab TL) 48 X22_1 :=
 inl_ok TOKp EOKp MIXp (lkup_cons T44 (lkup_cons T46 (lkup_cons T47 lkup_nil))) (inlL_cons O22_2 inlL_nil) (fn := Tryd.f48) Tryd.func48 (by kernel_rfl) (by kernel_rfl) (of_decide_eq_false (by kernel_rfl)) (by kernel_rfl)
theorem T22 : FunOK Tryd.prog (tyTab TL) 22 K22 :=
 fun_ok_i (loops := lkup []) (joins := lkup [(19, .full ⟨[.box 43 [.int .i64, .int .i64]], [(10, .ptr 0 0), (12, .nptr 87), (15, .int .i64)]⟩)]) (md := mdL []) (L := [(44, K44), (46, K46), (47, K47)]) (I := [(9, 5, 48, X22_1)]) (res := [.cell 10 43, .tmp 11]) (code := C22) (fn := Tryd.f22) TOKp EOKp MIXp (lkup_cons T44 (lkup_cons T46 (lkup_cons T47 lkup_nil))) (inlL_cons O22_1 inlL_nil) Tryd.func22 (by kernel_rfl) (by kernel_rfl) (of_decide_eq_false (by kernel_rfl)) (by kernel_rfl) (fun k ds => by kernel_rfl)
def B23x0 (k3 : Nat) (rec4 : List D → Option (List D)) (ds5 : List D) : Option (List D) :=
 bif (!((gt ds5 1).c 0).b) then
  bif decide ((gt ds5 3).i < (((((gt ds5 1).c 1).c 6).r).length : Int)) then
   (bif (!((gt ds5 1).c 0).b) then
     bif ((inRow ((gt ds5 3).i) (((((gt ds5 1).c 1).c 6).r).length)) && true) then
      bif decide (((elAt ((((gt ds5 1).c 1).c 6).r) ((gt ds5 3).i)).c 4).i ≤ (gt ds5 0).i) then
       some [D.int ((gt ds5 3).i)]
      else some [D.int ((gt ds5 2).i)]
     else none
    else none).bind fun ds6 =>
   rec4 [D.int ((gt ds5 0).i), (gt ds5 1), D.int ((gt ds6 0).i), D.int (Go.IntKind.i64.wrap ((gt ds5 3).i + 1)), D.int ((gt ds5 4).i), D.int ((gt ds5 5).i), D.int ((gt ds5 6).i)]
  else bif (!((gt ds5 1).c 0).b) then
   bif ((inRow ((gt ds5 2).i) (((((gt ds5 1).c 1).c 6).r).length)) && true) then
    bif (!((gt ds5 1).c 0).b) then
     bif ((inRow ((gt ds5 2).i) (((((gt ds5 1).c 1).c 6).r).length)) && true) then
      some [D.int (((elAt ((((gt ds5 1).c 1).c 6).r) ((gt ds5 2).i)).c 0).i), D.int (((elAt ((((gt ds5 1).c 1).c 6).r) ((gt ds5 2).i)).c 1).i), D.int (((elAt ((((gt ds5 1).c 1).c 6).r) ((gt ds5 2).i)).c 2).i), D.int (((elAt ((((gt ds5 1).c 1).c 6).r) ((gt ds5 2).i)).c 3).i), D.int 0]
     else none
    else none
   else none
  else none
 else none
/-- interchange/interchangeref2.SpotAt -/
def F23 (k : Nat) (ds : List D) : Option (List D) :=
 (F32 k [D.row ((gt ds 0).r), D.int ((gt ds 1).i), D.int ((gt ds 2).i), D.int ((gt ds 3).i), D.int ((gt ds 4).i), D.int ((gt ds 5).i)]).bind fun ds0 =>
 bif ((gt ds0 0).i != 0) then
  some [D.int 0, D.int 0, D.int 0, D.int 0, D.int ((gt ds0 0).i)]
 else (F43 k [D.row ((gt ds 0).r), D.int ((gt ds 1).i), D.int ((gt ds 2).i), D.int ((gt ds 3).i), D.int ((gt ds 4).i), D.int ((gt ds 5).i), D.bool ((gt ds 6).b), D.int 500000]).bind fun ds1 =>
 bif ((gt ds1 1).i != 0) then
  some [D.int 0, D.int 0, D.int 0, D.int 0, D.int ((gt ds1 1).i)]
 else (bif decide ((gt ds 7).i < 0) then
   some [D.bool true]
  else bif (!((gt ds1 0).c 0).b) then
   some [D.bool (decide ((gt ds 7).i ≥ (((((gt ds1 0).c 1).c 5).r).length : Int)))]
  else none).bind fun ds2 =>
 bif (gt ds2 0).b then
  some [D.int 0, D.int 0, D.int 0, D.int 0, D.int 1]
 else iter B23x0 k [D.int ((gt ds 7).i), (gt ds1 0), D.int 0, D.int 0, D.int 0, D.int 0, D.int 0]
def K23 : Callee := ⟨[.seen 53, .agg [.int .u8, .int .u8, .int .u8, .int .u8, .int .u8], .bool, .int .i64], [.int .i64, .agg [.int .i64, .int .i64, .int .i64], .int .i64], F23⟩
noncomputable def C23 : Code := match Tryd.f23.body with | some c => c | none => .skip
theorem T23 : FunOK Tryd.prog (tyTab TL) 23 K23 :=
 fun_ok (loops := lkup [(11, ⟨[.box 41 [.int .i64, .int .i64, .int .i64]], [(3, .int .i64), (9, .ptr 0 0), (12, .nptr 66), (14, .int .i64), (15, .int .i64)]⟩)]) (joins := lkup [(15, .light [(44, .bool)]), (24, .light [(14, .int .i64)])]) (md := mdL []) (L := [(32, K32), (43, K43)]) (res := [.tmp 8, .cell 9 41, .tmp 10]) (code := C23) (fn := Tryd.f23) TOKp EOKp MIXp (lkup_cons T32 (lkup_cons T43 lkup_nil)) Tryd.func23 (by kernel_rfl) (by kernel_rfl) (of_decide_eq_false (by kernel_rfl)) (by kernel_rfl) (fun k ds => by kernel_rfl)
def B24x0 (k6 : Nat) (rec7 : List D → Option (List D)) (ds8 : List D) : Option (List D) :=
 bif decide ((gt ds8 4).i < (gt ds8 3).i) then
  (bif ((inRow ((gt ds8 4).i) (((gt ds8 2).r).length)) && true) then
    (bif (((elAt ((gt ds8 2).r) ((gt ds8 4).i)).c 0).i == (gt ds8 1).i) then
      some [D.bool (decide ((Go.IntKind.i64.wrap (((elAt ((gt ds8 2).r) ((gt ds8 4).i)).c 4).i - 1)) ≤ (gt ds8 0).i))]
     else some [D.bool false]).bind fun ds9 =>
    bif (gt ds9 0).b then
     some [D.int ((gt ds8 0).i), D.int ((gt ds8 1).i), D.row ((gt ds8 2).r), D.int ((gt ds8 3).i), D.int ((gt ds8 4).i), D.int ((gt ds8 5).i), D.int ((gt ds8 6).i), D.int ((gt ds8 7).i), D.int (((elAt ((gt ds8 2).r) ((gt ds8 4).i)).c 1).i), D.int (((elAt ((gt ds8 2).r) ((gt ds8 4).i)).c 2).i), D.int (((elAt ((gt ds8 2).r) ((gt ds8 4).i)).c 3).i)]
    else some [D.int ((gt ds8 0).i), D.int ((gt ds8 1).i), D.row ((gt ds8 2).r), D.int ((gt ds8 3).i), D.int ((gt ds8 4).i), D.int ((gt ds8 5).i), D.int ((gt ds8 6).i), D.int ((gt ds8 7).i), D.int ((gt ds8 8).i), D.int ((gt ds8 9).i), D.int ((gt ds8 10).i)]
   else none).bind fun ds10 =>
  rec7 [D.int ((gt ds10 0).i), D.int ((gt ds10 1).i), D.row ((gt ds10 2).r), D.int ((gt ds10 3).i), D.int (Go.IntKind.i64.wrap ((gt ds10 4).i + 1)), D.int ((gt ds10 5).i), D.int ((gt ds10 6).i), D.int ((gt ds10 7).i), D.int ((gt ds10 8).i), D.int ((gt ds10 9).i), D.int ((gt ds10 10).i)]
 else some [D.int ((gt ds8 1).i), D.int ((gt ds8 8).i), D.int ((gt ds8 9).i), D.int ((gt ds8 10).i), D.int 0]
def B24x1 (k2 : Nat) (rec3 : List D → Option (List D)) (ds4 : List D) : Option (List D) :=
 (bif (!((gt ds4 1).c 0).b) then
   bif decide ((Go.IntKind.i64.wrap ((gt ds4 2).i + 1)) < (((((gt ds4 1).c 1).c 8).r).length : Int)) then
    bif (!((gt ds4 1).c 0).b) then
     bif ((inRow (Go.IntKind.i64.wrap ((gt ds4 2).i + 1)) (((((gt ds4 1).c 1).c 8).r).length)) && true) then
      some [D.bool (decide ((elAt ((((gt ds4 1).c 1).c 8).r) (Go.IntKind.i64.wrap ((gt ds4 2).i + 1))).i ≤ (gt ds4 0).i))]
     else none
    else none
   else some [D.bool false]
  else none).bind fun ds5 =>
 bif (gt ds5 0).b then
  rec3 [D.int ((gt ds4 0).i), (gt ds4 1), D.int (Go.IntKind.i64.wrap ((gt ds4 2).i + 1)), D.int ((gt ds4 3).i), D.int ((gt ds4 4).i), D.int ((gt ds4 5).i)]
 else bif (!((gt ds4 1).c 0).b) then
  iter B24x0 k2 [D.int ((gt ds4 0).i), D.int ((gt ds4 2).i), D.row ((((gt ds4 1).c 1).c 7).r), D.int (((((gt ds4 1).c 1).c 7).r).length : Int), D.int 0, D.int ((gt ds4 3).i), D.int ((gt ds4 4).i), D.int ((gt ds4 5).i), D.int 0, D.int 0, D.int 0]
 else none
/-- interchange/wire.SpotAt -/
def F24 (k : Nat) (ds : List D) : Option (List D) :=
 (F44 k [D.row ((gt ds 0).r), D.int ((gt ds 1).i), D.int ((gt ds 2).i), D.int ((gt ds 3).i), D.int ((gt ds 4).i), D.int ((gt ds 5).i), D.bool ((gt ds 6).b), D.int 500000]).bind fun ds0 =>
 bif ((gt ds0 1).i != 0) then
  some [D.int 0, D.int 0, D.int 0, D.int 0, D.int ((gt ds0 1).i)]
 else bif (!((gt ds0 0).c 0).b) then
  (F46 k [D.int ((gt ds 7).i), D.int 0, D.int (Go.IntKind.i64.wrap ((((((gt ds0 0).c 1).c 6).r).length : Int) - 1))]).bind fun ds1 =>
  bif (gt ds1 0).b then
   some [D.int 0, D.int 0, D.int 0, D.int 0, D.int 1]
  else iter B24x1 k [D.int ((gt ds 7).i), (gt ds0 0), D.int 0, D.int 0, D.int 0, D.int 0]
 else none
def K24 : Callee := ⟨[.seen 53, .agg [.int .u8, .int .u8, .int .u8, .int .u8, .int .u8], .bool, .int .i64], [.int .i64, .agg [.int .i64, .int .i64, .int .i64], .int .i64], F24⟩
noncomputable def C24 : Code := match Tryd.f24.body with | some c => c | none => .skip
theorem T24 : FunOK Tryd.prog (tyTab TL) 24 K24 :=
 fun_ok (loops := lkup [(7, ⟨[.box 41 [.int .i64, .int .i64, .int .i64]], [(3, .int .i64), (9, .ptr 0 0), (11, .nptr 87), (13, .int .i64)]⟩), (11, ⟨[.box 41 [.int .i64, .int .i64, .int .i64], .box 41 [.int .i64, .int .i64, .int .i64]], [(3, .int .i64), (9, .ptr 0 0), (13, .int .i64), (14, .ptr 1 0), (63, .srow 95), (64, .int .i64), (65, .int .i64)]⟩)]) (joins := lkup [(15, .light [(56, .bool)]), (27, .light [(79, .bool)]), (30, .full ⟨[.box 41 [.int .i64, .int .i64, .int .i64], .box 41 [.int .i64, .int .i64, .int .i64]], [(3, .int .i64), (9, .ptr 0 0), (13, .int .i64), (14, .ptr 1 0), (63, .srow 95), (64, .int .i64), (65, .int .i64)]⟩)]) (md := mdL []) (L := [(44, K44), (46, K46)]) (res := [.tmp 8, .cell 9 41, .tmp 10]) (code := C24) (fn := Tryd.f24) TOKp EOKp MIXp (lkup_cons T44 (lkup_cons T46 lkup_nil)) Tryd.func24 (by kernel_rfl) (by kernel_rfl) (of_decide_eq_false (by kernel_rfl)) (by kernel_rfl) (fun k ds => by kernel_rfl)
/-- interchange/wire.Text -/
def F25 (k : Nat) (ds : List D) : Option (List D) :=
 (F50 k [D.str ((gt ds 0).s), D.row ((gt ds 1).r), D.int ((gt ds 2).i), D.int ((gt ds 3).i), D.int ((gt ds 4).i)]).bind fun ds0 =>
 bif ((gt ds0 0).i != 0) then
  some [D.str (ByteArray.mk #[]), D.bool false, D.int ((gt ds0 0).i)]
 else (F51 k [D.str ((gt ds 0).s), D.row ((gt ds 1).r), D.int ((gt ds 2).i), D.int ((gt ds 3).i), D.int ((gt ds 4).i)]).bind fun ds1 =>
 some [D.str ((gt ds1 0).s), D.bool ((gt ds1 1).b), D.int 0]
def K25 : Callee := ⟨[.agg [.str, .seen 76], .agg [.int .i64, .int .i64, .int .i64]], [.str, .bool, .int .i64], F25⟩
noncomputable def C25 : Code := match Tryd.f25.body with | some c => c | none => .skip
theorem T25 : FunOK Tryd.prog (tyTab TL) 25 K25 :=
 fun_ok (loops := lkup []) (joins := lkup []) (md := mdL []) (L := [(50, K50), (51, K51)]) (res := [.tmp 4, .tmp 5, .tmp 6]) (code := C25) (fn := Tryd.f25) TOKp EOKp MIXp (lkup_cons T50 (lkup_cons T51 lkup_nil)) Tryd.func25 (by kernel_rfl) (by kernel_rfl) (of_decide_eq_false (by kernel_rfl)) (by kernel_rfl) (fun k ds => by kernel_rfl)
/-- interchange/interchangelaw2.WireChecksMatchSpec -/
def F3 (k : Nat) (ds : List D) : Option (List D) :=
 (F9 k [D.row ((gt ds 5).r), D.int ((gt ds 0).i), D.int ((gt ds 1).i), D.int ((gt ds 2).i), D.int ((gt ds 3).i), D.int ((gt ds 4).i)]).bind fun ds0 =>
 (F10 k [D.row ((gt ds 5).r), D.int ((gt ds 0).i), D.int ((gt ds 1).i), D.int ((gt ds 2).i), D.int ((gt ds 3).i), D.int ((gt ds 4).i)]).bind fun ds1 =>
 (F11 k [D.int ((gt ds 0).i), D.int ((gt ds 1).i), D.int ((gt ds 2).i), D.int ((gt ds 3).i), D.int ((gt ds 4).i)]).bind fun ds2 =>
 (F12 k [D.int ((gt ds 0).i), D.int ((gt ds 1).i), D.int ((gt ds 2).i), D.int ((gt ds 3).i), D.int ((gt ds 4).i)]).bind fun ds3 =>
 bif ((gt ds2 0).i == (gt ds3 0).i) then
  (F13 k [D.row ((gt ds 5).r)]).bind fun ds4 =>
  (F14 k [D.row ((gt ds 5).r)]).bind fun ds5 =>
  bif ((gt ds4 0).i == (gt ds5 0).i) then
   bif ((gt ds1 0).i == (gt ds0 0).i) then
    bif ((gt ds1 1).i == (gt ds0 1).i) then
     (F15 k []).bind fun ds6 =>
     some [D.bool ((gt ds6 0).b)]
    else some [D.bool false]
   else some [D.bool false]
  else some [D.bool false]
 else some [D.bool false]
def K3 : Callee := ⟨[.agg [.int .u8, .int .u8, .int .u8, .int .u8, .int .u8], .seen 53], [.bool], F3⟩
noncomputable def C3 : Code := match Tryd.f3.body with | some c => c | none => .skip
theorem T3 : FunOK Tryd.prog (tyTab TL) 3 K3 :=
 fun_ok (loops := lkup []) (joins := lkup []) (md := mdL []) (L := [(9, K9), (10, K10), (11, K11), (12, K12), (13, K13), (14, K14), (15, K15)]) (res := [.tmp 4]) (code := C3) (fn := Tryd.f3) TOKp EOKp MIXp (lkup_cons T9 (lkup_cons T10 (lkup_cons T11 (lkup_cons T12 (lkup_cons T13 (lkup_cons T14 (lkup_cons T15 lkup_nil))))))) Tryd.func3 (by kernel_rfl) (by kernel_rfl) (of_decide_eq_false (by kernel_rfl)) (by kernel_rfl) (fun k ds => by kernel_rfl)
def B4x0 (k5 : Nat) (rec6 : List D → Option (List D)) (ds7 : List D) : Option (List D) :=
 bif decide ((gt ds7 3).i < (((gt ds7 1).r).length : Int)) then
  bif ((inRow ((gt ds7 3).i) (((gt ds7 1).r).length)) && true) then
   (F10 k5 [D.row ((gt ds7 0).r), D.int (((elAt ((gt ds7 1).r) ((gt ds7 3).i)).c 0).i), D.int (((elAt ((gt ds7 1).r) ((gt ds7 3).i)).c 1).i), D.int (((elAt ((gt ds7 1).r) ((gt ds7 3).i)).c 2).i), D.int (((elAt ((gt ds7 1).r) ((gt ds7 3).i)).c 3).i), D.int (((elAt ((gt ds7 1).r) ((gt ds7 3).i)).c 4).i)]).bind fun ds8 =>
   (bif ((gt ds8 1).i != 0) then
     some [D.bool true]
    else bif ((inRow ((gt ds7 3).i) (((gt ds7 1).r).length)) && true) then
     bif (((elAt ((gt ds7 1).r) ((gt ds7 3).i)).c 3).i != 0) then
      some [D.bool (decide ((gt ds8 0).i < (gt ds7 2).i))]
     else some [D.bool false]
    else none).bind fun ds9 =>
   bif (gt ds9 0).b then
    some [D.bool false]
   else rec6 [D.row ((gt ds7 0).r), D.row ((gt ds7 1).r), D.int ((gt ds7 2).i), D.int (Go.IntKind.i64.wrap ((gt ds7 3).i + 1))]
  else none
 else (F15 k5 []).bind fun ds10 =>
 some [D.bool ((gt ds10 0).b)]
/-- interchange/interchangelaw2.WireBestMatchesSpec -/
def F4 (k : Nat) (ds : List D) : Option (List D) :=
 (F16 k [D.row ((gt ds 0).r), D.row ((gt ds 1).r)]).bind fun ds0 =>
 (F17 k [D.row ((gt ds 0).r), D.row ((gt ds 1).r)]).bind fun ds1 =>
 (bif ((gt ds1 0).i != (gt ds0 0).i) then
   some [D.bool true]
  else some [D.bool ((gt ds1 1).i != (gt ds0 1).i)]).bind fun ds2 =>
 bif (gt ds2 0).b then
  some [D.bool false]
 else bif ((gt ds1 1).i != 0) then
  (F15 k []).bind fun ds3 =>
  some [D.bool ((gt ds3 0).b)]
 else bif ((inRow ((gt ds1 0).i) (((gt ds 1).r).length)) && true) then
  (F10 k [D.row ((gt ds 0).r), D.int (((elAt ((gt ds 1).r) ((gt ds1 0).i)).c 0).i), D.int (((elAt ((gt ds 1).r) ((gt ds1 0).i)).c 1).i), D.int (((elAt ((gt ds 1).r) ((gt ds1 0).i)).c 2).i), D.int (((elAt ((gt ds 1).r) ((gt ds1 0).i)).c 3).i), D.int (((elAt ((gt ds 1).r) ((gt ds1 0).i)).c 4).i)]).bind fun ds4 =>
  bif ((gt ds4 1).i != 0) then
   some [D.bool false]
  else iter B4x0 k [D.row ((gt ds 0).r), D.row ((gt ds 1).r), D.int ((gt ds4 0).i), D.int 0]
 else none
def K4 : Callee := ⟨[.seen 53, .seen 23], [.bool], F4⟩
noncomputable def C4 : Code := match Tryd.f4.body with | some c => c | none => .skip
theorem T4 : FunOK Tryd.prog (tyTab TL) 4 K4 :=
 fun_ok (loops := lkup [(11, ⟨[], [(0, .srow 53), (1, .srow 23), (9, .int .i64), (10, .int .i64)]⟩)]) (joins := lkup [(7, .light [(32, .bool)]), (29, .light [(76, .bool)])]) (md := mdL []) (L := [(16, K16), (17, K17), (15, K15), (10, K10)]) (res := [.tmp 4]) (code := C4) (fn := Tryd.f4) TOKp EOKp MIXp (lkup_cons T16 (lkup_cons T17 (lkup_cons T15 (lkup_cons T10 lkup_nil)))) Tryd.func4 (by kernel_rfl) (by kernel_rfl) (of_decide_eq_false (by kernel_rfl)) (by kernel_rfl) (fun k ds => by kernel_rfl)
/-- interchange/interchangelaw2.WireJoinsMatchSpec -/
def F5 (k : Nat) (ds : List D) : Option (List D) :=
 (F18 k [D.row ((gt ds 0).r), D.int ((gt ds 1).i), D.int ((gt ds 2).i), D.int ((gt ds 3).i), D.int ((gt ds 4).i), D.int ((gt ds 5).i), D.bool ((gt ds 6).b)]).bind fun ds0 =>
 (F19 k [D.row ((gt ds 0).r), D.int ((gt ds 1).i), D.int ((gt ds 2).i), D.int ((gt ds 3).i), D.int ((gt ds 4).i), D.int ((gt ds 5).i), D.bool ((gt ds 6).b)]).bind fun ds1 =>
 (F20 k [D.row ((gt ds1 0).r), D.row ((gt ds0 0).r)]).bind fun ds2 =>
 bif (gt ds2 0).b then
  bif ((gt ds1 1).i == (gt ds0 1).i) then
   (F15 k []).bind fun ds3 =>
   some [D.bool ((gt ds3 0).b)]
  else some [D.bool false]
 else some [D.bool false]
def K5 : Callee := ⟨[.seen 53, .agg [.int .u8, .int .u8, .int .u8, .int .u8, .int .u8], .bool], [.bool], F5⟩
noncomputable def C5 : Code := match Tryd.f5.body with | some c => c | none => .skip
theorem T5 : FunOK Tryd.prog (tyTab TL) 5 K5 :=
 fun_ok (loops := lkup []) (joins := lkup []) (md := mdL []) (L := [(18, K18), (19, K19), (20, K20), (15, K15)]) (res := [.tmp 6]) (code := C5) (fn := Tryd.f5) TOKp EOKp MIXp (lkup_cons T18 (lkup_cons T19 (lkup_cons T20 (lkup_cons T15 lkup_nil)))) Tryd.func5 (by kernel_rfl) (by kernel_rfl) (of_decide_eq_false (by kernel_rfl)) (by kernel_rfl) (fun k ds => by kernel_rfl)
/-- interchange/interchangelaw2.WirePlacesMatchSpec -/
def F6 (k : Nat) (ds : List D) : Option (List D) :=
 (F21 k [D.row ((gt ds 0).r), D.int ((gt ds 1).i), D.int ((gt ds 2).i), D.int ((gt ds 3).i), D.int ((gt ds 4).i), D.int ((gt ds 5).i), D.bool ((gt ds 6).b), D.int ((gt ds 7).i), D.int ((gt ds 8).i), D.int ((gt ds 9).i), D.int ((gt ds 10).i)]).bind fun ds0 =>
 (F22 k [D.row ((gt ds 0).r), D.int ((gt ds 1).i), D.int ((gt ds 2).i), D.int ((gt ds 3).i), D.int ((gt ds 4).i), D.int ((gt ds 5).i), D.bool ((gt ds 6).b), D.int ((gt ds 7).i), D.int ((gt ds 8).i), D.int ((gt ds 9).i), D.int ((gt ds 10).i)]).bind fun ds1 =>
 (F23 k [D.row ((gt ds 0).r), D.int ((gt ds 1).i), D.int ((gt ds 2).i), D.int ((gt ds 3).i), D.int ((gt ds 4).i), D.int ((gt ds 5).i), D.bool ((gt ds 6).b), D.int ((gt ds 11).i)]).bind fun ds2 =>
 (F24 k [D.row ((gt ds 0).r), D.int ((gt ds 1).i), D.int ((gt ds 2).i), D.int ((gt ds 3).i), D.int ((gt ds 4).i), D.int ((gt ds 5).i), D.bool ((gt ds 6).b), D.int ((gt ds 11).i)]).bind fun ds3 =>
 bif (((gt ds1 0).i == (gt ds0 0).i) && (((gt ds1 1).i == (gt ds0 1).i) && true)) then
  bif ((gt ds1 2).i == (gt ds0 2).i) then
   bif ((gt ds3 0).i == (gt ds2 0).i) then
    bif (((gt ds3 1).i == (gt ds2 1).i) && (((gt ds3 2).i == (gt ds2 2).i) && (((gt ds3 3).i == (gt ds2 3).i) && true))) then
     bif ((gt ds3 4).i == (gt ds2 4).i) then
      (F15 k []).bind fun ds4 =>
      some [D.bool ((gt ds4 0).b)]
     else some [D.bool false]
    else some [D.bool false]
   else some [D.bool false]
  else some [D.bool false]
 else some [D.bool false]
def K6 : Callee := ⟨[.seen 53, .agg [.int .u8, .int .u8, .int .u8, .int .u8, .int .u8], .bool, .int .i64, .agg [.int .i64, .int .i64, .int .i64], .int .i64], [.bool], F6⟩
noncomputable def C6 : Code := match Tryd.f6.body with | some c => c | none => .skip
theorem T6 : FunOK Tryd.prog (tyTab TL) 6 K6 :=
 fun_ok (loops := lkup []) (joins := lkup []) (md := mdL []) (L := [(21, K21), (22, K22), (23, K23), (24, K24), (15, K15)]) (res := [.tmp 12]) (code := C6) (fn := Tryd.f6) TOKp EOKp MIXp (lkup_cons T21 (lkup_cons T22 (lkup_cons T23 (lkup_cons T24 (lkup_cons T15 lkup_nil))))) Tryd.func6 (by kernel_rfl) (by kernel_rfl) (of_decide_eq_false (by kernel_rfl)) (by kernel_rfl) (fun k ds => by kernel_rfl)
def B7x0 (k4 : Nat) (rec5 : List D → Option (List D)) (ds6 : List D) : Option (List D) :=
 bif decide ((gt ds6 3).i < (gt ds6 13).i) then
  (F24 k4 [D.row ((gt ds6 0).r), D.int ((gt ds6 4).i), D.int ((gt ds6 5).i), D.int ((gt ds6 6).i), D.int ((gt ds6 7).i), D.int ((gt ds6 8).i), D.bool ((gt ds6 1).b), D.int ((gt ds6 3).i)]).bind fun ds7 =>
  (bif ((gt ds7 4).i != 0) then
    some [D.bool true]
   else bif ((gt ds7 0).i != (gt ds6 2).i) then
    some [D.bool true]
   else some [D.bool (!(((gt ds7 1).i == (gt ds6 9).i) && (((gt ds7 2).i == (gt ds6 10).i) && (((gt ds7 3).i == (gt ds6 11).i) && true))))]).bind fun ds8 =>
  bif (gt ds8 0).b then
   some [D.bool false]
  else rec5 [D.row ((gt ds6 0).r), D.bool ((gt ds6 1).b), D.int ((gt ds6 2).i), D.int (Go.IntKind.i64.wrap ((gt ds6 3).i + 1)), D.int ((gt ds6 4).i), D.int ((gt ds6 5).i), D.int ((gt ds6 6).i), D.int ((gt ds6 7).i), D.int ((gt ds6 8).i), D.int ((gt ds6 9).i), D.int ((gt ds6 10).i), D.int ((gt ds6 11).i), D.int ((gt ds6 12).i), D.int ((gt ds6 13).i)]
 else bif ((inRow ((gt ds6 2).i) (((gt ds6 0).r).length)) && true) then
  (F25 k4 [D.str (((elAt ((gt ds6 0).r) ((gt ds6 2).i)).c 0).s), D.row (((elAt ((gt ds6 0).r) ((gt ds6 2).i)).c 1).r), D.int ((gt ds6 9).i), D.int ((gt ds6 10).i), D.int ((gt ds6 11).i)]).bind fun ds9 =>
  bif ((gt ds9 2).i == 0) then
   bif (gt ds9 1).b then
    bif decide ((Go.IntKind.i64.wrap ((gt ds6 13).i - (gt ds6 12).i)) ≥ ((ByteArray.size ((gt ds9 0).s)) : Int)) then
     (F15 k4 []).bind fun ds10 =>
     some [D.bool ((gt ds10 0).b)]
    else some [D.bool false]
   else some [D.bool false]
  else some [D.bool false]
 else none
/-- interchange/interchangelaw2.WirePlacesAreFound -/
def F7 (k : Nat) (ds : List D) : Option (List D) :=
 (F22 k [D.row ((gt ds 0).r), D.int ((gt ds 1).i), D.int ((gt ds 2).i), D.int ((gt ds 3).i), D.int ((gt ds 4).i), D.int ((gt ds 5).i), D.bool ((gt ds 6).b), D.int ((gt ds 7).i), D.int ((gt ds 8).i), D.int ((gt ds 9).i), D.int ((gt ds 10).i)]).bind fun ds0 =>
 bif ((gt ds0 2).i != 0) then
  bif (((gt ds0 0).i == 0) && (((gt ds0 1).i == 0) && true)) then
   (F15 k []).bind fun ds1 =>
   some [D.bool ((gt ds1 0).b)]
  else some [D.bool false]
 else (F19 k [D.row ((gt ds 0).r), D.int ((gt ds 1).i), D.int ((gt ds 2).i), D.int ((gt ds 3).i), D.int ((gt ds 4).i), D.int ((gt ds 5).i), D.bool ((gt ds 6).b)]).bind fun ds2 =>
 (bif ((gt ds2 1).i != 0) then
   some [D.bool true]
  else bif decide ((gt ds0 0).i < 1) then
   some [D.bool true]
  else bif decide ((gt ds0 1).i < (gt ds0 0).i) then
   some [D.bool true]
  else bif decide ((gt ds0 1).i > (((gt ds2 0).r).length : Int)) then
   some [D.bool true]
  else bif decide ((gt ds 7).i < 0) then
   some [D.bool true]
  else some [D.bool (decide ((gt ds 7).i ≥ (((gt ds 0).r).length : Int)))]).bind fun ds3 =>
 bif (gt ds3 0).b then
  some [D.bool false]
 else iter B7x0 k [D.row ((gt ds 0).r), D.bool ((gt ds 6).b), D.int ((gt ds 7).i), D.int (Go.IntKind.i64.wrap ((gt ds0 0).i - 1)), D.int ((gt ds 1).i), D.int ((gt ds 2).i), D.int ((gt ds 3).i), D.int ((gt ds 4).i), D.int ((gt ds 5).i), D.int ((gt ds 8).i), D.int ((gt ds 9).i), D.int ((gt ds 10).i), D.int ((gt ds0 0).i), D.int ((gt ds0 1).i)]
def K7 : Callee := ⟨[.seen 53, .agg [.int .u8, .int .u8, .int .u8, .int .u8, .int .u8], .bool, .int .i64, .agg [.int .i64, .int .i64, .int .i64]], [.bool], F7⟩
noncomputable def C7 : Code := match Tryd.f7.body with | some c => c | none => .skip
theorem T7 : FunOK Tryd.prog (tyTab TL) 7 K7 :=
 fun_ok (loops := lkup [(8, ⟨[.box 23 [.int .u8, .int .u8, .int .u8, .int .u8, .int .u8], .box 41 [.int .i64, .int .i64, .int .i64], .box 43 [.int .i64, .int .i64]], [(0, .srow 53), (2, .bool), (3, .int .i64), (6, .ptr 0 0), (9, .ptr 1 0), (11, .ptr 2 0), (14, .int .i64)]⟩)]) (joins := lkup [(11, .light [(74, .bool)]), (23, .light [(104, .bool)])]) (md := mdL []) (L := [(22, K22), (15, K15), (19, K19), (24, K24), (25, K25)]) (res := [.tmp 10]) (code := C7) (fn := Tryd.f7) TOKp EOKp MIXp (lkup_cons T22 (lkup_cons T15 (lkup_cons T19 (lkup_cons T24 (lkup_cons T25 lkup_nil))))) Tryd.func7 (by kernel_rfl) (by kernel_rfl) (of_decide_eq_false (by kernel_rfl)) (by kernel_rfl) (fun k ds => by kernel_rfl)
end Go.Sx
