/- Facts about types. Conditions: none. -/
import Derived.Test.YtmcbpehpogjmoaaAb8
import Derived.Test.YtmcbpehpogjmoaaProg
import Derived.KernelRfl
namespace Go.Abs.Np
open Go Go.Proofs Go.Abs
set_option maxRecDepth 100000
section
@[simp] theorem sz2 : szOf Try.prog 2 = some 1 := by kernel_rfl
@[simp] theorem ag2 : aggT Try.prog 2 = some false := by kernel_rfl
@[simp] theorem zz2 : zeroA Try.prog 2 = some (.int .i64 0) := by kernel_rfl
@[simp] theorem sz3 : szOf Try.prog 3 = some 1 := by kernel_rfl
@[simp] theorem ag3 : aggT Try.prog 3 = some false := by kernel_rfl
@[simp] theorem zz3 : zeroA Try.prog 3 = some (.int .i64 0) := by kernel_rfl
@[simp] theorem sz4 : szOf Try.prog 4 = some 1 := by kernel_rfl
@[simp] theorem ag4 : aggT Try.prog 4 = some false := by kernel_rfl
@[simp] theorem sz5 : szOf Try.prog 5 = some 1 := by kernel_rfl
@[simp] theorem ag5 : aggT Try.prog 5 = some false := by kernel_rfl
@[simp] theorem zz5 : zeroA Try.prog 5 = some (.int .u8 0) := by kernel_rfl
@[simp] theorem sz9 : szOf Try.prog 9 = some 1 := by kernel_rfl
@[simp] theorem zz9 : zeroA Try.prog 9 = some (.str ByteArray.empty) := by kernel_rfl
@[simp] theorem sz22 : szOf Try.prog 22 = some 1 := by kernel_rfl
@[simp] theorem ag22 : aggT Try.prog 22 = some false := by kernel_rfl
@[simp] theorem sz25 : szOf Try.prog 25 = some 1 := by kernel_rfl
@[simp] theorem ag25 : aggT Try.prog 25 = some false := by kernel_rfl
@[simp] theorem sz27 : szOf Try.prog 27 = some 2 := by kernel_rfl
@[simp] theorem ag27 : aggT Try.prog 27 = some true := by kernel_rfl
@[simp] theorem zz27 : zeroA Try.prog 27 = some (.agg [.int .i64 0, .nils]) := by kernel_rfl
@[simp] theorem sz28 : szOf Try.prog 28 = some 1 := by kernel_rfl
@[simp] theorem ag28 : aggT Try.prog 28 = some false := by kernel_rfl
@[simp] theorem sz30 : szOf Try.prog 30 = some 2 := by kernel_rfl
@[simp] theorem ag30 : aggT Try.prog 30 = some true := by kernel_rfl
@[simp] theorem zz30 : zeroA Try.prog 30 = some (.agg [.int .i64 0, .nils]) := by kernel_rfl
@[simp] theorem sz31 : szOf Try.prog 31 = some 6 := by kernel_rfl
@[simp] theorem sz32 : szOf Try.prog 32 = some 1 := by kernel_rfl
@[simp] theorem ag32 : aggT Try.prog 32 = some false := by kernel_rfl
@[simp] theorem sz34 : szOf Try.prog 34 = some 1 := by kernel_rfl
@[simp] theorem ag34 : aggT Try.prog 34 = some true := by kernel_rfl
@[simp] theorem zz34 : zeroA Try.prog 34 = some (.agg [.nils]) := by kernel_rfl
@[simp] theorem sz35 : szOf Try.prog 35 = some 2 := by kernel_rfl
@[simp] theorem zz37 : zeroA Try.prog 37 = some (.agg [.int .i64 0, .nils, .int .i64 0, .nils, .int .i64 0, .nils, .int .i64 0, .nils, .nils, .int .i64 0, .int .i64 0]) := by kernel_rfl
@[simp] theorem sz41 : szOf Try.prog 41 = some 1 := by kernel_rfl
@[simp] theorem ag41 : aggT Try.prog 41 = some false := by kernel_rfl
@[simp] theorem zz41 : zeroA Try.prog 41 = some (.int .u64 0) := by kernel_rfl
@[simp] theorem sz43 : szOf Try.prog 43 = some 1 := by kernel_rfl
@[simp] theorem ag43 : aggT Try.prog 43 = some false := by kernel_rfl
@[simp] theorem sz44 : szOf Try.prog 44 = some 1 := by kernel_rfl
@[simp] theorem ag44 : aggT Try.prog 44 = some false := by kernel_rfl
@[simp] theorem sz45 : szOf Try.prog 45 = some 1 := by kernel_rfl
@[simp] theorem ag45 : aggT Try.prog 45 = some false := by kernel_rfl
@[simp] theorem sz47 : szOf Try.prog 47 = some 3 := by kernel_rfl
@[simp] theorem ag47 : aggT Try.prog 47 = some true := by kernel_rfl
@[simp] theorem zz47 : zeroA Try.prog 47 = some (.agg [.nils, .nils, .int .i64 0]) := by kernel_rfl
@[simp] theorem sz48 : szOf Try.prog 48 = some 8 := by kernel_rfl
@[simp] theorem ag48 : aggT Try.prog 48 = some true := by kernel_rfl
@[simp] theorem sz50 : szOf Try.prog 50 = some 9 := by kernel_rfl
@[simp] theorem ag50 : aggT Try.prog 50 = some true := by kernel_rfl
@[simp] theorem zz50 : zeroA Try.prog 50 = some (.agg [.int .i64 0, .int .i64 0, .int .i64 0, .int .i64 0, .int .i64 0, .int .i64 0, .int .i64 0, .int .i64 0, .int .i64 0]) := by kernel_rfl
@[simp] theorem sz51 : szOf Try.prog 51 = some 1 := by kernel_rfl
@[simp] theorem ag51 : aggT Try.prog 51 = some false := by kernel_rfl
@[simp] theorem sz52 : szOf Try.prog 52 = some 1 := by kernel_rfl
@[simp] theorem ag52 : aggT Try.prog 52 = some false := by kernel_rfl
@[simp] theorem sz54 : szOf Try.prog 54 = some 20 := by kernel_rfl
@[simp] theorem ag54 : aggT Try.prog 54 = some true := by kernel_rfl
@[simp] theorem zz54 : zeroA Try.prog 54 = some (.agg [.int .i64 0, .int .u64 0, .nils, .nils, .nils, .int .i64 0, .int .i64 0, .int .i64 0, .int .i64 0, .int .i64 0, .int .i64 0, .int .i64 0, .int .i64 0, .int .i64 0, .int .i64 0, .nils, .nils, .int .i64 0, .int .i64 0, .int .i64 0]) := by kernel_rfl
@[simp] theorem sz55 : szOf Try.prog 55 = some 1 := by kernel_rfl
@[simp] theorem ag55 : aggT Try.prog 55 = some false := by kernel_rfl
@[simp] theorem sz56 : szOf Try.prog 56 = some 2 := by kernel_rfl
@[simp] theorem ag56 : aggT Try.prog 56 = some true := by kernel_rfl
@[simp] theorem sz57 : szOf Try.prog 57 = some 2 := by kernel_rfl
@[simp] theorem ag57 : aggT Try.prog 57 = some true := by kernel_rfl
@[simp] theorem zz57 : zeroA Try.prog 57 = some (.agg [.int .i64 0, .int .i64 0]) := by kernel_rfl
@[simp] theorem sz58 : szOf Try.prog 58 = some 1 := by kernel_rfl
@[simp] theorem ag58 : aggT Try.prog 58 = some false := by kernel_rfl
@[simp] theorem sz60 : szOf Try.prog 60 = some 36 := by kernel_rfl
@[simp] theorem ag60 : aggT Try.prog 60 = some true := by kernel_rfl
@[simp] theorem zz60 : zeroA Try.prog 60 = some (.agg [.int .u64 0, .int .i64 0, .int .i64 0, .int .i64 0, .int .u64 0, .nils, .nils, .nils, .int .i64 0, .int .i64 0, .int .i64 0, .int .i64 0, .int .i64 0, .int .i64 0, .int .i64 0, .int .i64 0, .int .i64 0, .int .i64 0, .nils, .nils, .int .i64 0, .int .i64 0, .int .i64 0, .nils, .nils, .int .i64 0, .int .u64 0, .int .i64 0, .int .i64 0, .nils, .nils, .nils, .int .i64 0, .int .i64 0, .int .i64 0, .nils]) := by kernel_rfl
@[simp] theorem sz61 : szOf Try.prog 61 = some 1 := by kernel_rfl
@[simp] theorem ag61 : aggT Try.prog 61 = some false := by kernel_rfl
@[simp] theorem sz71 : szOf Try.prog 71 = some 41 := by kernel_rfl
@[simp] theorem ag71 : aggT Try.prog 71 = some true := by kernel_rfl
@[simp] theorem zz71 : zeroA Try.prog 71 = some (.agg [.int .u64 0, .int .i64 0, .int .u64 0, .int .i64 0, .int .i64 0, .int .i64 0, .int .u64 0, .nils, .nils, .nils, .int .i64 0, .int .i64 0, .int .i64 0, .int .i64 0, .int .i64 0, .int .i64 0, .int .i64 0, .int .i64 0, .int .i64 0, .int .i64 0, .nils, .nils, .int .i64 0, .int .i64 0, .int .i64 0, .nils, .nils, .int .i64 0, .int .u64 0, .int .i64 0, .int .i64 0, .nils, .nils, .nils, .int .i64 0, .int .i64 0, .int .i64 0, .nils, .int .i64 0, .bool false, .bool false]) := by kernel_rfl
@[simp] theorem sz75 : szOf Try.prog 75 = some 45 := by kernel_rfl
@[simp] theorem ag75 : aggT Try.prog 75 = some true := by kernel_rfl
@[simp] theorem zz75 : zeroA Try.prog 75 = some (.agg [.int .i64 0, .int .i64 0, .int .i64 0, .int .u64 0, .int .i64 0, .int .u64 0, .int .i64 0, .int .i64 0, .int .i64 0, .int .u64 0, .nils, .nils, .nils, .int .i64 0, .int .i64 0, .int .i64 0, .int .i64 0, .int .i64 0, .int .i64 0, .int .i64 0, .int .i64 0, .int .i64 0, .int .i64 0, .nils, .nils, .int .i64 0, .int .i64 0, .int .i64 0, .nils, .nils, .int .i64 0, .int .u64 0, .int .i64 0, .int .i64 0, .nils, .nils, .nils, .int .i64 0, .int .i64 0, .int .i64 0, .nils, .int .u64 0, .int .i64 0, .int .u64 0, .int .i64 0]) := by kernel_rfl
@[simp] theorem sz78 : szOf Try.prog 78 = some 1 := by kernel_rfl
@[simp] theorem ag78 : aggT Try.prog 78 = some false := by kernel_rfl
@[simp] theorem sz116 : szOf Try.prog 116 = some 3 := by kernel_rfl
@[simp] theorem ag116 : aggT Try.prog 116 = some true := by kernel_rfl
@[simp] theorem zz116 : zeroA Try.prog 116 = some (.agg [.str ByteArray.empty, .int .i64 0, .nils]) := by kernel_rfl
@[simp] theorem sz121 : szOf Try.prog 121 = some 4 := by kernel_rfl
@[simp] theorem ag121 : aggT Try.prog 121 = some true := by kernel_rfl
@[simp] theorem zz121 : zeroA Try.prog 121 = some (.agg [.int .i64 0, .int .i64 0, .bool false, .nils]) := by kernel_rfl
@[simp] theorem sz126 : szOf Try.prog 126 = some 1 := by kernel_rfl
@[simp] theorem ag126 : aggT Try.prog 126 = some false := by kernel_rfl
@[simp] theorem sz128 : szOf Try.prog 128 = some 41 := by kernel_rfl
@[simp] theorem ag128 : aggT Try.prog 128 = some true := by kernel_rfl
@[simp] theorem zz128 : zeroA Try.prog 128 = some (.agg [.int .u64 0, .int .i64 0, .nils, .int .u64 0, .int .i64 0, .int .i64 0, .int .i64 0, .int .u64 0, .nils, .nils, .nils, .int .i64 0, .int .i64 0, .int .i64 0, .int .i64 0, .int .i64 0, .int .i64 0, .int .i64 0, .int .i64 0, .int .i64 0, .int .i64 0, .nils, .nils, .int .i64 0, .int .i64 0, .int .i64 0, .nils, .nils, .int .i64 0, .int .u64 0, .int .i64 0, .int .i64 0, .nils, .nils, .nils, .int .i64 0, .int .i64 0, .int .i64 0, .nils, .nils, .nils]) := by kernel_rfl
@[simp] theorem sz132 : szOf Try.prog 132 = some 2 := by kernel_rfl
@[simp] theorem ag132 : aggT Try.prog 132 = some true := by kernel_rfl
@[simp] theorem zz132 : zeroA Try.prog 132 = some (.agg [.int .i64 0, .int .i64 0]) := by kernel_rfl
@[simp] theorem sz142 : szOf Try.prog 142 = some 2 := by kernel_rfl
@[simp] theorem zz142 : zeroA Try.prog 142 = some (.agg [.int .u64 0, .bool false]) := by kernel_rfl
@[simp] theorem sz145 : szOf Try.prog 145 = some 4 := by kernel_rfl
@[simp] theorem zz145 : zeroA Try.prog 145 = some (.agg [.int .i64 0, .int .u64 0, .int .u64 0, .int .i64 0]) := by kernel_rfl
@[simp] theorem sz153 : szOf Try.prog 153 = some 4 := by kernel_rfl
@[simp] theorem zz153 : zeroA Try.prog 153 = some (.agg [.int .i64 0, .int .i64 0, .int .i64 0, .int .i64 0]) := by kernel_rfl
@[simp] theorem ap22 : apT Try.prog 22 = some (5,1,1) := by kernel_rfl
@[simp] theorem ap25 : apT Try.prog 25 = some (128,41,552) := by kernel_rfl
@[simp] theorem ap28 : apT Try.prog 28 = some (71,41,496) := by kernel_rfl
@[simp] theorem ap32 : apT Try.prog 32 = some (121,4,48) := by kernel_rfl
@[simp] theorem ap43 : apT Try.prog 43 = some (41,1,8) := by kernel_rfl
@[simp] theorem ap44 : apT Try.prog 44 = some (153,4,32) := by kernel_rfl
@[simp] theorem ap45 : apT Try.prog 45 = some (9,1,16) := by kernel_rfl
@[simp] theorem ap51 : apT Try.prog 51 = some (142,2,16) := by kernel_rfl
@[simp] theorem ap52 : apT Try.prog 52 = some (145,4,32) := by kernel_rfl
@[simp] theorem ap55 : apT Try.prog 55 = some (2,1,8) := by kernel_rfl
@[simp] theorem ap58 : apT Try.prog 58 = some (116,3,48) := by kernel_rfl
@[simp] theorem ap61 : apT Try.prog 61 = some (75,45,536) := by kernel_rfl
@[simp] theorem ap78 : apT Try.prog 78 = some (3,1,8) := by kernel_rfl
@[simp] theorem ap126 : apT Try.prog 126 = some (132,2,16) := by kernel_rfl
@[simp] theorem bt4 : boolT Try.prog 4 = true := by kernel_rfl
@[simp] theorem lf7 : leafs Try.prog 7 = [2,3,4,6] := by kernel_rfl
@[simp] theorem lf8 : leafs Try.prog 8 = [2,3,4,6] := by kernel_rfl
@[simp] theorem lf13 : leafs Try.prog 13 = [9,12] := by kernel_rfl
@[simp] theorem lf14 : leafs Try.prog 14 = [9,12] := by kernel_rfl
@[simp] theorem lf18 : leafs Try.prog 18 = [17] := by kernel_rfl
@[simp] theorem lf19 : leafs Try.prog 19 = [17] := by kernel_rfl
@[simp] theorem nvn22 : nrmV Try.prog 22 .nils = .list 1 [] := by kernel_rfl
@[simp] theorem nvl22 (s : Nat) (rows : List (List AV)) : nrmV Try.prog 22 (.list s rows) = .list s (nrmRows Try.prog [5] rows) := by
 have h : Try.prog.underlying 22 = some (.slice 5):=by kernel_rfl
 have l : leafs Try.prog 5 = [5]:=by kernel_rfl
 simp only [nrmV,h,l]
@[simp] theorem lf22 : leafs Try.prog 22 = [22] := by kernel_rfl
@[simp] theorem nvn25 : nrmV Try.prog 25 .nils = .list 41 [] := by kernel_rfl
@[simp] theorem nvl25 (s : Nat) (rows : List (List AV)) : nrmV Try.prog 25 (.list s rows) = .list s (nrmRows Try.prog [41,3,78,41,3,3,3,41,43,44,45,3,3,2,2,2,2,2,2,2,2,51,52,2,2,2,55,22,3,41,3,3,43,22,22,3,3,2,58,78,126] rows) := by
 have h : Try.prog.underlying 25 = some (.slice 128):=by kernel_rfl
 have l : leafs Try.prog 128 = [41,3,78,41,3,3,3,41,43,44,45,3,3,2,2,2,2,2,2,2,2,51,52,2,2,2,55,22,3,41,3,3,43,22,22,3,3,2,58,78,126]:=by kernel_rfl
 simp only [nrmV,h,l]
@[simp] theorem lf25 : leafs Try.prog 25 = [25] := by kernel_rfl
@[simp] theorem lf26 : leafs Try.prog 26 = [3,25] := by kernel_rfl
@[simp] theorem lf27 : leafs Try.prog 27 = [3,25] := by kernel_rfl
@[simp] theorem nvn28 : nrmV Try.prog 28 .nils = .list 41 [] := by kernel_rfl
@[simp] theorem nvl28 (s : Nat) (rows : List (List AV)) : nrmV Try.prog 28 (.list s rows) = .list s (nrmRows Try.prog [41,3,41,3,3,3,41,43,44,45,3,3,2,2,2,2,2,2,2,2,51,52,2,2,2,55,22,3,41,3,3,43,22,22,3,3,2,58,3,4,4] rows) := by
 have h : Try.prog.underlying 28 = some (.slice 71):=by kernel_rfl
 have l : leafs Try.prog 71 = [41,3,41,3,3,3,41,43,44,45,3,3,2,2,2,2,2,2,2,2,51,52,2,2,2,55,22,3,41,3,3,43,22,22,3,3,2,58,3,4,4]:=by kernel_rfl
 simp only [nrmV,h,l]
@[simp] theorem lf28 : leafs Try.prog 28 = [28] := by kernel_rfl
@[simp] theorem lf29 : leafs Try.prog 29 = [3,28] := by kernel_rfl
@[simp] theorem lf30 : leafs Try.prog 30 = [3,28] := by kernel_rfl
@[simp] theorem lf31 : leafs Try.prog 31 = [3,28,3,28,3,28] := by kernel_rfl
@[simp] theorem nvn32 : nrmV Try.prog 32 .nils = .list 4 [] := by kernel_rfl
@[simp] theorem nvl32 (s : Nat) (rows : List (List AV)) : nrmV Try.prog 32 (.list s rows) = .list s (nrmRows Try.prog [3,3,4,61] rows) := by
 have h : Try.prog.underlying 32 = some (.slice 121):=by kernel_rfl
 have l : leafs Try.prog 121 = [3,3,4,61]:=by kernel_rfl
 simp only [nrmV,h,l]
@[simp] theorem lf32 : leafs Try.prog 32 = [32] := by kernel_rfl
@[simp] theorem lf33 : leafs Try.prog 33 = [32] := by kernel_rfl
@[simp] theorem lf34 : leafs Try.prog 34 = [32] := by kernel_rfl
@[simp] theorem lf35 : leafs Try.prog 35 = [2,2] := by kernel_rfl
@[simp] theorem lf36 : leafs Try.prog 36 = [3,28,3,28,3,28,3,25,32,2,2] := by kernel_rfl
@[simp] theorem lf37 : leafs Try.prog 37 = [3,28,3,28,3,28,3,25,32,2,2] := by kernel_rfl
@[simp] theorem nvn43 : nrmV Try.prog 43 .nils = .list 1 [] := by kernel_rfl
@[simp] theorem nvl43 (s : Nat) (rows : List (List AV)) : nrmV Try.prog 43 (.list s rows) = .list s (nrmRows Try.prog [41] rows) := by
 have h : Try.prog.underlying 43 = some (.slice 41):=by kernel_rfl
 have l : leafs Try.prog 41 = [41]:=by kernel_rfl
 simp only [nrmV,h,l]
@[simp] theorem lf43 : leafs Try.prog 43 = [43] := by kernel_rfl
@[simp] theorem nvn44 : nrmV Try.prog 44 .nils = .list 4 [] := by kernel_rfl
@[simp] theorem nvl44 (s : Nat) (rows : List (List AV)) : nrmV Try.prog 44 (.list s rows) = .list s (nrmRows Try.prog [3,3,3,3] rows) := by
 have h : Try.prog.underlying 44 = some (.slice 153):=by kernel_rfl
 have l : leafs Try.prog 153 = [3,3,3,3]:=by kernel_rfl
 simp only [nrmV,h,l]
@[simp] theorem lf44 : leafs Try.prog 44 = [44] := by kernel_rfl
@[simp] theorem nvn45 : nrmV Try.prog 45 .nils = .list 1 [] := by kernel_rfl
@[simp] theorem nvl45 (s : Nat) (rows : List (List AV)) : nrmV Try.prog 45 (.list s rows) = .list s (nrmRows Try.prog [9] rows) := by
 have h : Try.prog.underlying 45 = some (.slice 9):=by kernel_rfl
 have l : leafs Try.prog 9 = [9]:=by kernel_rfl
 simp only [nrmV,h,l]
@[simp] theorem lf45 : leafs Try.prog 45 = [45] := by kernel_rfl
@[simp] theorem lf46 : leafs Try.prog 46 = [44,45,3] := by kernel_rfl
@[simp] theorem lf47 : leafs Try.prog 47 = [44,45,3] := by kernel_rfl
@[simp] theorem lf48 : leafs Try.prog 48 = [2,2,2,2,2,2,2,2] := by kernel_rfl
@[simp] theorem lf49 : leafs Try.prog 49 = [3,2,2,2,2,2,2,2,2] := by kernel_rfl
@[simp] theorem lf50 : leafs Try.prog 50 = [3,2,2,2,2,2,2,2,2] := by kernel_rfl
@[simp] theorem nvn51 : nrmV Try.prog 51 .nils = .list 2 [] := by kernel_rfl
@[simp] theorem nvl51 (s : Nat) (rows : List (List AV)) : nrmV Try.prog 51 (.list s rows) = .list s (nrmRows Try.prog [41,4] rows) := by
 have h : Try.prog.underlying 51 = some (.slice 142):=by kernel_rfl
 have l : leafs Try.prog 142 = [41,4]:=by kernel_rfl
 simp only [nrmV,h,l]
@[simp] theorem lf51 : leafs Try.prog 51 = [51] := by kernel_rfl
@[simp] theorem nvn52 : nrmV Try.prog 52 .nils = .list 4 [] := by kernel_rfl
@[simp] theorem nvl52 (s : Nat) (rows : List (List AV)) : nrmV Try.prog 52 (.list s rows) = .list s (nrmRows Try.prog [3,41,41,3] rows) := by
 have h : Try.prog.underlying 52 = some (.slice 145):=by kernel_rfl
 have l : leafs Try.prog 145 = [3,41,41,3]:=by kernel_rfl
 simp only [nrmV,h,l]
@[simp] theorem lf52 : leafs Try.prog 52 = [52] := by kernel_rfl
@[simp] theorem lf53 : leafs Try.prog 53 = [3,41,43,44,45,3,3,2,2,2,2,2,2,2,2,51,52,2,2,2] := by kernel_rfl
@[simp] theorem lf54 : leafs Try.prog 54 = [3,41,43,44,45,3,3,2,2,2,2,2,2,2,2,51,52,2,2,2] := by kernel_rfl
@[simp] theorem nvn55 : nrmV Try.prog 55 .nils = .list 1 [] := by kernel_rfl
@[simp] theorem nvl55 (s : Nat) (rows : List (List AV)) : nrmV Try.prog 55 (.list s rows) = .list s (nrmRows Try.prog [2] rows) := by
 have h : Try.prog.underlying 55 = some (.slice 2):=by kernel_rfl
 have l : leafs Try.prog 2 = [2]:=by kernel_rfl
 simp only [nrmV,h,l]
@[simp] theorem lf55 : leafs Try.prog 55 = [55] := by kernel_rfl
@[simp] theorem lf56 : leafs Try.prog 56 = [22,22] := by kernel_rfl
@[simp] theorem lf57 : leafs Try.prog 57 = [3,3] := by kernel_rfl
@[simp] theorem nvn58 : nrmV Try.prog 58 .nils = .list 3 [] := by kernel_rfl
@[simp] theorem nvl58 (s : Nat) (rows : List (List AV)) : nrmV Try.prog 58 (.list s rows) = .list s (nrmRows Try.prog [9,3,43] rows) := by
 have h : Try.prog.underlying 58 = some (.slice 116):=by kernel_rfl
 have l : leafs Try.prog 116 = [9,3,43]:=by kernel_rfl
 simp only [nrmV,h,l]
@[simp] theorem lf58 : leafs Try.prog 58 = [58] := by kernel_rfl
@[simp] theorem lf59 : leafs Try.prog 59 = [41,3,3,3,41,43,44,45,3,3,2,2,2,2,2,2,2,2,51,52,2,2,2,55,22,3,41,3,3,43,22,22,3,3,2,58] := by kernel_rfl
@[simp] theorem lf60 : leafs Try.prog 60 = [41,3,3,3,41,43,44,45,3,3,2,2,2,2,2,2,2,2,51,52,2,2,2,55,22,3,41,3,3,43,22,22,3,3,2,58] := by kernel_rfl
@[simp] theorem nvn61 : nrmV Try.prog 61 .nils = .list 45 [] := by kernel_rfl
@[simp] theorem nvl61 (s : Nat) (rows : List (List AV)) : nrmV Try.prog 61 (.list s rows) = .list s (nrmRows Try.prog [3,3,3,41,3,41,3,3,3,41,43,44,45,3,3,2,2,2,2,2,2,2,2,51,52,2,2,2,55,22,3,41,3,3,43,22,22,3,3,2,58,41,2,41,3] rows) := by
 have h : Try.prog.underlying 61 = some (.slice 75):=by kernel_rfl
 have l : leafs Try.prog 75 = [3,3,3,41,3,41,3,3,3,41,43,44,45,3,3,2,2,2,2,2,2,2,2,51,52,2,2,2,55,22,3,41,3,3,43,22,22,3,3,2,58,41,2,41,3]:=by kernel_rfl
 simp only [nrmV,h,l]
@[simp] theorem lf61 : leafs Try.prog 61 = [61] := by kernel_rfl
@[simp] theorem lf70 : leafs Try.prog 70 = [41,3,41,3,3,3,41,43,44,45,3,3,2,2,2,2,2,2,2,2,51,52,2,2,2,55,22,3,41,3,3,43,22,22,3,3,2,58,3,4,4] := by kernel_rfl
@[simp] theorem lf71 : leafs Try.prog 71 = [41,3,41,3,3,3,41,43,44,45,3,3,2,2,2,2,2,2,2,2,51,52,2,2,2,55,22,3,41,3,3,43,22,22,3,3,2,58,3,4,4] := by kernel_rfl
@[simp] theorem lf74 : leafs Try.prog 74 = [3,3,3,41,3,41,3,3,3,41,43,44,45,3,3,2,2,2,2,2,2,2,2,51,52,2,2,2,55,22,3,41,3,3,43,22,22,3,3,2,58,41,2,41,3] := by kernel_rfl
@[simp] theorem lf75 : leafs Try.prog 75 = [3,3,3,41,3,41,3,3,3,41,43,44,45,3,3,2,2,2,2,2,2,2,2,51,52,2,2,2,55,22,3,41,3,3,43,22,22,3,3,2,58,41,2,41,3] := by kernel_rfl
@[simp] theorem nvn78 : nrmV Try.prog 78 .nils = .list 1 [] := by kernel_rfl
@[simp] theorem nvl78 (s : Nat) (rows : List (List AV)) : nrmV Try.prog 78 (.list s rows) = .list s (nrmRows Try.prog [3] rows) := by
 have h : Try.prog.underlying 78 = some (.slice 3):=by kernel_rfl
 have l : leafs Try.prog 3 = [3]:=by kernel_rfl
 simp only [nrmV,h,l]
@[simp] theorem lf78 : leafs Try.prog 78 = [78] := by kernel_rfl
@[simp] theorem lf115 : leafs Try.prog 115 = [9,3,43] := by kernel_rfl
@[simp] theorem lf116 : leafs Try.prog 116 = [9,3,43] := by kernel_rfl
@[simp] theorem lf120 : leafs Try.prog 120 = [3,3,4,61] := by kernel_rfl
@[simp] theorem lf121 : leafs Try.prog 121 = [3,3,4,61] := by kernel_rfl
@[simp] theorem nvn126 : nrmV Try.prog 126 .nils = .list 2 [] := by kernel_rfl
@[simp] theorem nvl126 (s : Nat) (rows : List (List AV)) : nrmV Try.prog 126 (.list s rows) = .list s (nrmRows Try.prog [3,3] rows) := by
 have h : Try.prog.underlying 126 = some (.slice 132):=by kernel_rfl
 have l : leafs Try.prog 132 = [3,3]:=by kernel_rfl
 simp only [nrmV,h,l]
@[simp] theorem lf126 : leafs Try.prog 126 = [126] := by kernel_rfl
@[simp] theorem lf127 : leafs Try.prog 127 = [41,3,78,41,3,3,3,41,43,44,45,3,3,2,2,2,2,2,2,2,2,51,52,2,2,2,55,22,3,41,3,3,43,22,22,3,3,2,58,78,126] := by kernel_rfl
@[simp] theorem lf128 : leafs Try.prog 128 = [41,3,78,41,3,3,3,41,43,44,45,3,3,2,2,2,2,2,2,2,2,51,52,2,2,2,55,22,3,41,3,3,43,22,22,3,3,2,58,78,126] := by kernel_rfl
@[simp] theorem lf131 : leafs Try.prog 131 = [3,3] := by kernel_rfl
@[simp] theorem lf132 : leafs Try.prog 132 = [3,3] := by kernel_rfl
@[simp] theorem lf141 : leafs Try.prog 141 = [41,4] := by kernel_rfl
@[simp] theorem lf142 : leafs Try.prog 142 = [41,4] := by kernel_rfl
@[simp] theorem lf144 : leafs Try.prog 144 = [3,41,41,3] := by kernel_rfl
@[simp] theorem lf145 : leafs Try.prog 145 = [3,41,41,3] := by kernel_rfl
@[simp] theorem lf152 : leafs Try.prog 152 = [3,3,3,3] := by kernel_rfl
@[simp] theorem lf153 : leafs Try.prog 153 = [3,3,3,3] := by kernel_rfl
@[simp] theorem lf160 : leafs Try.prog 160 = [17,17,17,9] := by kernel_rfl
@[simp] theorem lf161 : leafs Try.prog 161 = [17,17,17,9] := by kernel_rfl
@[simp] theorem lf162 : leafs Try.prog 162 = [] := by kernel_rfl
@[simp] theorem lf163 : leafs Try.prog 163 = [] := by kernel_rfl
@[simp] theorem lf164 : leafs Try.prog 164 = [] := by kernel_rfl
@[simp] theorem lf173 : leafs Try.prog 173 = [12,12,166,167,5,5,168,169,170,171,172] := by kernel_rfl
@[simp] theorem lf174 : leafs Try.prog 174 = [12,12,166,167,5,5,168,169,170,171,172] := by kernel_rfl
attribute [simp] runL runG stopG newF List.findIdx?_cons List.findIdx?_nil List.idxOf?_cons List.idxOf?_nil headG stepA execA_eq skipA run_ret run_fail run_get run_put run_asm num lk st lk_st putA AS.ev ofValue ofFlat mkv splice fieldAddrA buildA fillA runF gdst pickA unOpA extractA resVs resV pack frzT inlT inlV frzV frzVs frzL frz1 newId AV.cellsOf AV.flat AV.flat2 specOf loadA_runR capA copyA copyTo srcA sliceCA slice3A appendZA extA AV.place lenCA clearA clearTo expG expB3 List.zipWith renL fF handB renB AV.ren backF backL idsOf freshIds refsL refsB AV.refs List.range List.range.loop placesA sliceRows rowsOf convertA sliceArrA sliceA bndA nilCheckA arrayAtA mmA lookupA keyOf keyOK findA keyEqA foundA makeMapA mapUpdateA appendA rowsA indexA partA fieldA retE2 frqT frqV frqVs frqL frq1 reachE blkRefs outE nodupE firstE seqO expB2 expF
end
end Go.Abs.Np
namespace Go.Abs.Np
open Go Go.Proofs Go.Abs
set_option maxRecDepth 100000
set_option maxHeartbeats 4000000
set_option linter.unusedSimpArgs false
set_option linter.unusedVariables false
section
theorem vc2 : Try.prog.cellsOf 2 = 1 := by kernel_rfl
theorem vc5 : Try.prog.cellsOf 5 = 1 := by kernel_rfl
theorem vc41 : Try.prog.cellsOf 41 = 1 := by kernel_rfl
theorem vc116 : Try.prog.cellsOf 116 = 3 := by kernel_rfl
theorem viewObject {xs : List AV} (h : TyR Try.prog 8 60 xs) : ∃ (x0 : Int) (x1 : Int) (x2 : Int) (x3 : List AV) (x4 : List (List AV)) (x5 : List (List AV)) (x6 : Int) (x7 : Int) (x8 : Int) (x9 : Int) (x10 : List (List AV)) (x11 : List (List AV)) (x12 : List (List AV)) (x13 : Int) (x14 : Int) (x15 : Int) (x16 : List (List AV)),xs = .int .u64 x0 :: (.int .i64 x1 :: (.int .i64 x2 :: (x3 ++ ([.list 1 x4, .list 1 x5, .int .i64 x6, .int .u64 x7, .int .i64 x8, .int .i64 x9, .list 1 x10, .list 1 x11, .list 1 x12, .int .i64 x13, .int .i64 x14, .int .i64 x15, .list 3 x16])))) ∧ (Lit.int .u64 x0).wf = true ∧ (Lit.int .i64 x1).wf = true ∧ (Lit.int .i64 x2).wf = true ∧ TyR Try.prog 8 54 x3 ∧ (∀ r ∈ x4,TyR Try.prog 8 2 r) ∧ (∀ r ∈ x5,TyR Try.prog 8 5 r) ∧ (Lit.int .i64 x6).wf = true ∧ (Lit.int .u64 x7).wf = true ∧ (Lit.int .i64 x8).wf = true ∧ (Lit.int .i64 x9).wf = true ∧ (∀ r ∈ x10,TyR Try.prog 8 41 r) ∧ (∀ r ∈ x11,TyR Try.prog 8 5 r) ∧ (∀ r ∈ x12,TyR Try.prog 8 5 r) ∧ (Lit.int .i64 x13).wf = true ∧ (Lit.int .i64 x14).wf = true ∧ (Lit.int .i64 x15).wf = true ∧ (∀ r ∈ x16,TyR Try.prog 8 116 r) := by
 simp only [TyFs,TyR_int Try.underlying2,TyR_int Try.underlying3,TyR_slice Try.underlying22,TyR_int Try.underlying41,TyR_slice Try.underlying43,TyR_slice Try.underlying55,TyR_array Try.underlying56,TyR_array Try.underlying57,TyR_slice Try.underlying58,TyR_struct Try.underlying60,vc2,vc5,vc41,vc116,List.map_cons,List.map_nil,List.replicate] at h
 obtain ⟨_,_,rfl,⟨x0,rfl,w0⟩,⟨_,_,rfl,⟨x1,rfl,w1⟩,⟨_,_,rfl,⟨x2,rfl,w2⟩,⟨x3,_,rfl,w3,⟨_,_,rfl,⟨x4,rfl,_,w4⟩,⟨_,_,rfl,⟨x5,rfl,_,w5⟩,⟨_,_,rfl,⟨x6,rfl,w6⟩,⟨_,_,rfl,⟨x7,rfl,w7⟩,⟨_,_,rfl,⟨x8,rfl,w8⟩,⟨_,_,rfl,⟨x9,rfl,w9⟩,⟨_,_,rfl,⟨x10,rfl,_,w10⟩,⟨_,_,rfl,⟨_,_,rfl,⟨x11,rfl,_,w11⟩,⟨_,_,rfl,⟨x12,rfl,_,w12⟩,rfl⟩⟩,⟨_,_,rfl,⟨_,_,rfl,⟨x13,rfl,w13⟩,⟨_,_,rfl,⟨x14,rfl,w14⟩,rfl⟩⟩,⟨_,_,rfl,⟨x15,rfl,w15⟩,⟨_,_,rfl,⟨x16,rfl,_,w16⟩,rfl⟩⟩⟩⟩⟩⟩⟩⟩⟩⟩⟩⟩⟩⟩⟩:=h
 refine ⟨x0,x1,x2,x3,x4,x5,x6,x7,x8,x9,x10,x11,x12,x13,x14,x15,x16, ?_,w0,w1,w2,TyR.monoN (by omega) w3,(fun r hr=>TyR.monoN (by omega) (w4 r hr)),(fun r hr=>TyR.monoN (by omega) (w5 r hr)),w6,w7,w8,w9,(fun r hr=>TyR.monoN (by omega) (w10 r hr)),(fun r hr=>TyR.monoN (by omega) (w11 r hr)),(fun r hr=>TyR.monoN (by omega) (w12 r hr)),w13,w14,w15,(fun r hr=>TyR.monoN (by omega) (w16 r hr))⟩
 simp only [List.cons_append,List.nil_append,List.append_nil,List.append_assoc]
theorem vc9 : Try.prog.cellsOf 9 = 1 := by kernel_rfl
theorem vc153 : Try.prog.cellsOf 153 = 4 := by kernel_rfl
theorem viewProgram {xs : List AV} (h : TyR Try.prog 8 47 xs) : ∃ (x0 : List (List AV)) (x1 : List (List AV)) (x2 : Int),xs = [.list 4 x0, .list 1 x1, .int .i64 x2] ∧ (∀ r ∈ x0,TyR Try.prog 8 153 r) ∧ (∀ r ∈ x1,TyR Try.prog 8 9 r) ∧ (Lit.int .i64 x2).wf = true := by
 simp only [TyFs,TyR_int Try.underlying3,TyR_slice Try.underlying44,TyR_slice Try.underlying45,TyR_struct Try.underlying47,vc9,vc153,List.map_cons,List.map_nil,List.replicate] at h
 obtain ⟨_,_,rfl,⟨x0,rfl,_,w0⟩,⟨_,_,rfl,⟨x1,rfl,_,w1⟩,⟨_,_,rfl,⟨x2,rfl,w2⟩,rfl⟩⟩⟩:=h
 refine ⟨x0,x1,x2, ?_,(fun r hr=>TyR.monoN (by omega) (w0 r hr)),(fun r hr=>TyR.monoN (by omega) (w1 r hr)),w2⟩
 simp only [List.cons_append,List.nil_append,List.append_nil,List.append_assoc]
theorem viewCPU {xs : List AV} (h : TyR Try.prog 8 50 xs) : ∃ (x0 : Int) (x1 : Int) (x2 : Int) (x3 : Int) (x4 : Int) (x5 : Int) (x6 : Int) (x7 : Int) (x8 : Int),xs = [.int .i64 x0, .int .i64 x1, .int .i64 x2, .int .i64 x3, .int .i64 x4, .int .i64 x5, .int .i64 x6, .int .i64 x7, .int .i64 x8] ∧ (Lit.int .i64 x0).wf = true ∧ (Lit.int .i64 x1).wf = true ∧ (Lit.int .i64 x2).wf = true ∧ (Lit.int .i64 x3).wf = true ∧ (Lit.int .i64 x4).wf = true ∧ (Lit.int .i64 x5).wf = true ∧ (Lit.int .i64 x6).wf = true ∧ (Lit.int .i64 x7).wf = true ∧ (Lit.int .i64 x8).wf = true := by
 simp only [TyFs,TyR_int Try.underlying2,TyR_int Try.underlying3,TyR_array Try.underlying48,TyR_struct Try.underlying50,List.map_cons,List.map_nil,List.replicate] at h
 obtain ⟨_,_,rfl,⟨x0,rfl,w0⟩,⟨_,_,rfl,⟨_,_,rfl,⟨x1,rfl,w1⟩,⟨_,_,rfl,⟨x2,rfl,w2⟩,⟨_,_,rfl,⟨x3,rfl,w3⟩,⟨_,_,rfl,⟨x4,rfl,w4⟩,⟨_,_,rfl,⟨x5,rfl,w5⟩,⟨_,_,rfl,⟨x6,rfl,w6⟩,⟨_,_,rfl,⟨x7,rfl,w7⟩,⟨_,_,rfl,⟨x8,rfl,w8⟩,rfl⟩⟩⟩⟩⟩⟩⟩⟩,rfl⟩⟩:=h
 refine ⟨x0,x1,x2,x3,x4,x5,x6,x7,x8, ?_,w0,w1,w2,w3,w4,w5,w6,w7,w8⟩
 simp only [List.cons_append,List.nil_append,List.append_nil,List.append_assoc]
theorem vc142 : Try.prog.cellsOf 142 = 2 := by kernel_rfl
theorem vc145 : Try.prog.cellsOf 145 = 4 := by kernel_rfl
theorem viewProcess {xs : List AV} (h : TyR Try.prog 8 54 xs) : ∃ (x0 : Int) (x1 : Int) (x2 : List (List AV)) (x3 : List AV) (x4 : List AV) (x5 : List (List AV)) (x6 : List (List AV)) (x7 : Int) (x8 : Int) (x9 : Int),xs = .int .i64 x0 :: (.int .u64 x1 :: (.list 1 x2 :: (x3 ++ (x4 ++ ([.list 2 x5, .list 4 x6, .int .i64 x7, .int .i64 x8, .int .i64 x9]))))) ∧ (Lit.int .i64 x0).wf = true ∧ (Lit.int .u64 x1).wf = true ∧ (∀ r ∈ x2,TyR Try.prog 8 41 r) ∧ TyR Try.prog 8 47 x3 ∧ TyR Try.prog 8 50 x4 ∧ (∀ r ∈ x5,TyR Try.prog 8 142 r) ∧ (∀ r ∈ x6,TyR Try.prog 8 145 r) ∧ (Lit.int .i64 x7).wf = true ∧ (Lit.int .i64 x8).wf = true ∧ (Lit.int .i64 x9).wf = true := by
 simp only [TyFs,TyR_int Try.underlying2,TyR_int Try.underlying3,TyR_int Try.underlying41,TyR_slice Try.underlying43,TyR_slice Try.underlying51,TyR_slice Try.underlying52,TyR_struct Try.underlying54,vc41,vc142,vc145,List.map_cons,List.map_nil,List.replicate] at h
 obtain ⟨_,_,rfl,⟨x0,rfl,w0⟩,⟨_,_,rfl,⟨x1,rfl,w1⟩,⟨_,_,rfl,⟨x2,rfl,_,w2⟩,⟨x3,_,rfl,w3,⟨x4,_,rfl,w4,⟨_,_,rfl,⟨x5,rfl,_,w5⟩,⟨_,_,rfl,⟨x6,rfl,_,w6⟩,⟨_,_,rfl,⟨x7,rfl,w7⟩,⟨_,_,rfl,⟨x8,rfl,w8⟩,⟨_,_,rfl,⟨x9,rfl,w9⟩,rfl⟩⟩⟩⟩⟩⟩⟩⟩⟩⟩:=h
 refine ⟨x0,x1,x2,x3,x4,x5,x6,x7,x8,x9, ?_,w0,w1,(fun r hr=>TyR.monoN (by omega) (w2 r hr)),TyR.monoN (by omega) w3,TyR.monoN (by omega) w4,(fun r hr=>TyR.monoN (by omega) (w5 r hr)),(fun r hr=>TyR.monoN (by omega) (w6 r hr)),w7,w8,w9⟩
 simp only [List.cons_append,List.nil_append,List.append_nil,List.append_assoc]
theorem viewName {xs : List AV} (h : TyR Try.prog 8 116 xs) : ∃ (x0 : ByteArray) (x1 : Int) (x2 : List (List AV)),xs = [.str x0, .int .i64 x1, .list 1 x2] ∧ (Lit.int .i64 x1).wf = true ∧ (∀ r ∈ x2,TyR Try.prog 8 41 r) := by
 simp only [TyFs,TyR_int Try.underlying3,TyR_string Try.underlying9,TyR_slice Try.underlying43,TyR_struct Try.underlying116,vc41,List.map_cons,List.map_nil,List.replicate] at h
 obtain ⟨_,_,rfl,⟨x0,rfl,_⟩,⟨_,_,rfl,⟨x1,rfl,w1⟩,⟨_,_,rfl,⟨x2,rfl,_,w2⟩,rfl⟩⟩⟩:=h
 refine ⟨x0,x1,x2, ?_,w1,(fun r hr=>TyR.monoN (by omega) (w2 r hr))⟩
 simp only [List.cons_append,List.nil_append,List.append_nil,List.append_assoc]
end
end Go.Abs.Np

namespace Go.Abs.Dir
set_option linter.unusedSimpArgs false
set_option linter.unusedVariables false
section
structure Ent (O : Type) where
 id : Int
 owner : Int
 readers : List Int
 obj : O
 waiting : List Int
 queue : List (Int × Int)
inductive Mg (O : Type) where
 | rev (to : Int)
 | grant (to mode : Int) (obj : O)
def oth (l : List Int) (n : Int) : List Int := l.filter (fun x => x != n)
def ins (n : Int) : List Int → List Int
 | []=>[n]
 | x :: r=>if x < n then x :: ins n r else n :: x :: r
variable {O : Type}
def goQ (z : O) : List (Int × Int) → Int → List Int → O → List (Mg O) × Int × List Int × O × List Int × List (Int × Int)
 | [],ow,rd,ob=>([],ow,rd,ob,[],[])
 | (n,m) :: q,ow,rd,ob =>
   if ow ≠ -1 then ([.rev ow],ow,rd,ob,[ow],(n,m) :: q)
   else if m = 1 then
     let r:=goQ z q ow (ins n (oth rd n)) ob
     (.grant n m ob :: r.1,r.2)
   else if oth rd n ≠ [] then ((oth rd n).map .rev,ow,rd,ob,oth rd n,(n,m) :: q)
   else
     let r:=goQ z q n [] z
     (.grant n m ob :: r.1,r.2)
def goOn (z : O) (e : Ent O) : List (Mg O) × Ent O :=
 if e.waiting = [] then
   let r:=goQ z e.queue e.owner e.readers e.obj
   (r.1, { id:=e.id,owner:=r.2.1,readers:=r.2.2.1,obj:=r.2.2.2.1,waiting:=r.2.2.2.2.1,queue:=r.2.2.2.2.2 })
 else ([],e)
def askE (z : O) (e : Ent O) (n m : Int) : List (Mg O) × Ent O := goOn z { e with queue := e.queue ++ [(n,m)] }
def retE (z : O) (e : Ent O) (n : Int) (o : O) : List (Mg O) × Ent O :=
 goOn z { e with owner:=(if e.owner = n then -1 else e.owner),obj:=(if e.owner = n then o else e.obj),readers:=(if e.owner = n then e.readers else oth e.readers n),waiting:=oth e.waiting n }
end
section
variable {O : Type}
structure Hd where
 mode : Int → Int
 demand : Int → Bool
 asked : Int → Int
def up {α : Type} (f : Int → α) (n : Int) (x : α) : Int → α := fun k => if k = n then x else f k
theorem up_same {α : Type} (f : Int → α) (n : Int) (x : α) : up f n x n = x := if_pos rfl
theorem up_ne {α : Type} (f : Int → α) {n k : Int} (x : α) (h : k ≠ n) : up f n x k = f k := if_neg h
def clash (h : Hd) (to m n : Int) : Bool := decide (n ≠ to) && (decide (h.mode n = 2) || decide (h.mode n = 1) && decide (m = 2))
def take1 (h : Hd) : Mg O → Option Hd
 | .rev to=>if to < 0 ∨ 3 < to ∨ h.mode to = 0 then none else some { h with demand:=up h.demand to true }
 | .grant to m _=>if to < 0 ∨ 3 < to ∨ clash h to m 0 ∨ clash h to m 1 ∨ clash h to m 2 ∨ clash h to m 3 ∨ h.asked to ≠ m then none else some { h with mode:=up h.mode to m,asked:=up h.asked to 0 }
def takeA : Hd → List (Mg O) → Option Hd
 | h,[]=>some h
 | h,m :: r=>(take1 h m).bind fun h'=>takeA h' r
def N4 (n : Int) : Prop := 0 ≤ n ∧ n ≤ 3
def Asc (l : List Int) : Prop := l.Pairwise (· < ·)
structure Pre (Pz : O → Prop) (z : O) (q : List (Int × Int)) (ow : Int) (rd : List Int) (ob : O) (h : Hd) : Prop where
 m2 : ∀ n,N4 n → (h.mode n = 2 ↔ ow = n)
 m1 : ∀ n,N4 n → (h.mode n = 1 ↔ n ∈ rd)
 m0 : ∀ n,N4 n → 0 ≤ h.mode n ∧ h.mode n ≤ 2
 owr : ow = -1 ∨ N4 ow
 rdr : ∀ n ∈ rd,N4 n
 asc : Asc rd
 one : ow ≠ -1 → rd = []
 obz : ow ≠ -1 → ob = z
 obp : Pz ob
 q1 : ∀ p ∈ q,N4 p.1 ∧ h.asked p.1 = p.2 ∧ (p.2 = 1 ∨ p.2 = 2) ∧ h.mode p.1 < p.2
 q2 : q.Pairwise (fun a b=>a.1 ≠ b.1)
 q3 : ∀ n,N4 n → h.asked n ≠ 0 → ∃ p ∈ q,p.1 = n
structure Inv (Pz : O → Prop) (z : O) (e : Ent O) (h : Hd) : Prop where
 pre : Pre Pz z e.queue e.owner e.readers e.obj h
 dem : ∀ n,N4 n → (h.demand n = true ↔ n ∈ e.waiting)
 wt : (e.waiting = [] ∧ e.queue = []) ∨ (e.waiting ≠ [] ∧ ∃ p q,e.queue = p :: q ∧ ((e.owner ≠ -1 ∧ e.waiting = [e.owner]) ∨ (e.owner = -1 ∧ p.2 = 2 ∧ e.waiting = oth e.readers p.1)))
theorem mem_oth {l : List Int} {n x : Int} : x ∈ oth l n ↔ x ∈ l ∧ x ≠ n := by simp [oth]
theorem oth_comm (l : List Int) (a b : Int) : oth (oth l a) b = oth (oth l b) a := by
 simp only [oth,List.filter_filter]
 congr 1
 funext x
 exact Bool.and_comm _ _
theorem oth_none {l : List Int} {n : Int} (h : n ∉ l) : oth l n = l := by
 rw [oth,List.filter_eq_self]
 intro x hx
 simp only [bne_iff_ne,ne_eq]
 rintro rfl
 exact h hx
theorem asc_oth {l : List Int} (h : Asc l) (n : Int) : Asc (oth l n) := List.Pairwise.filter _ h
theorem mem_ins {n x : Int} : ∀ {l : List Int},x ∈ ins n l ↔ x = n ∨ x ∈ l
 | []=>by simp [ins]
 | y :: r=>by
   rw [ins]
   split
   · rw [List.mem_cons,mem_ins (l:=r),List.mem_cons]
     constructor
     · rintro (h | h | h) <;> simp [h]
     · rintro (h | h | h) <;> simp [h]
   · simp
theorem asc_ins {n : Int} : ∀ {l : List Int},Asc l → n ∉ l → Asc (ins n l)
 | [],_,_=>by simp [ins,Asc]
 | y :: r,h,hn=>by
   obtain ⟨h1,h2⟩:=List.pairwise_cons.1 h
   rw [ins]
   have hne : y ≠ n:=fun e=>hn (by simp [e])
   split
   · refine List.pairwise_cons.2 ⟨fun x hx=>?_,asc_ins h2 fun e=>hn (by simp [e])⟩
     rcases mem_ins.1 hx with rfl | hx
     · assumption
     · exact h1 x hx
   · refine List.pairwise_cons.2 ⟨fun x hx=>?_,h⟩
     rcases List.mem_cons.1 hx with rfl | hx
     · omega
     · have:=h1 x hx; omega
theorem N4_cases {n : Int} (h : N4 n) : n = 0 ∨ n = 1 ∨ n = 2 ∨ n = 3 := by unfold N4 at h; omega
theorem no_clash {h : Hd} {to m : Int} (hc : ∀ n,N4 n → n ≠ to → h.mode n ≠ 2 ∧ (h.mode n = 1 → m ≠ 2)) : ∀ n,N4 n → clash h to m n = false := by
 intro n hn
 unfold clash
 by_cases e : n = to
 · simp [e]
 · obtain ⟨h1,h2⟩:=hc n hn e
   by_cases h3 : h.mode n = 1
   · simp [h1,h3,h2 h3]
   · simp [h1,h3]
theorem take_grant {h : Hd} {to m : Int} {o : O} (ht : N4 to) (hc : ∀ n,N4 n → n ≠ to → h.mode n ≠ 2 ∧ (h.mode n = 1 → m ≠ 2)) (ha : h.asked to = m) : take1 h (.grant to m o : Mg O) = some { h with mode := up h.mode to m,asked := up h.asked to 0 } := by
 have hn:=no_clash hc
 show (if _ then _ else _) = _
 rw [if_neg]
 rw [hn 0 ⟨by decide,by decide⟩,hn 1 ⟨by decide,by decide⟩,hn 2 ⟨by decide,by decide⟩,hn 3 ⟨by decide,by decide⟩]
 unfold N4 at ht
 simp only [Bool.false_eq_true,false_or,ne_eq,not_or]
 exact ⟨by omega,by omega,fun e=>e ha⟩
theorem take_revs {h : Hd} : ∀ {l : List Int},(∀ n ∈ l,N4 n ∧ h.mode n ≠ 0) → ∃ h' : Hd,takeA h (l.map fun n => (.rev n : Mg O)) = some h' ∧ h'.mode = h.mode ∧ h'.asked = h.asked ∧ ∀ n,h'.demand n = true ↔ h.demand n = true ∨ n ∈ l
 | [],_=>⟨h,rfl,rfl,rfl,by simp⟩
 | x :: r,hl=>by
   obtain ⟨h1,h2⟩:=hl x (by simp)
   have e : take1 h (.rev x : Mg O) = some { h with demand:=up h.demand x true }:=by
     show (if _ then _ else _) = _
     unfold N4 at h1
     rw [if_neg]
     omega
   obtain ⟨h',k1,k2,k3,k4⟩:=take_revs (h:={ h with demand:=up h.demand x true }) (l:=r) (fun n hn=>hl n (by simp [hn]))
   refine ⟨h', ?_,k2,k3,fun n=>?_⟩
   · simp only [List.map_cons,takeA,e,Option.bind_some]
     exact k1
   · rw [k4,List.mem_cons]
     simp only [up]
     by_cases en : n = x <;> simp [en]
theorem goQ_inv {Pz : O → Prop} {z : O} (hz : Pz z) (id : Int) : ∀ {q : List (Int × Int)} {ow : Int} {rd : List Int} {ob : O} {h : Hd},Pre Pz z q ow rd ob h → (∀ n,N4 n → h.demand n = false) →
   ∃ h',takeA h (goQ z q ow rd ob).1 = some h' ∧ Inv Pz z { id:=id,owner:=(goQ z q ow rd ob).2.1,readers:=(goQ z q ow rd ob).2.2.1,obj:=(goQ z q ow rd ob).2.2.2.1,waiting:=(goQ z q ow rd ob).2.2.2.2.1,queue:=(goQ z q ow rd ob).2.2.2.2.2 } h':=by
 intro q
 induction q with
 | nil =>
   intro ow rd ob h hp hd
   exact ⟨h,rfl,hp,fun n hn=>by simp [goQ,hd n hn], .inl ⟨rfl,rfl⟩⟩
 | cons p q ih =>
   obtain ⟨n,m⟩:=p
   intro ow rd ob h hp hd
   obtain ⟨c1,c2,c3,c4⟩:=hp.q1 (n,m) (by simp)
   dsimp only at c1 c2 c3 c4
   obtain ⟨p1,p2⟩:=List.pairwise_cons.1 hp.q2
   dsimp only at p1
   have hq3 : ∀ k,N4 k → up h.asked n 0 k ≠ 0 → ∃ p ∈ q,p.1 = k:=by
     intro k hk hne
     unfold up at hne
     split at hne
     · exact absurd rfl hne
     · rename_i e
       obtain ⟨p,hp1,hp2⟩:=hp.q3 k hk hne
       rcases List.mem_cons.1 hp1 with rfl | hp1
       · exact absurd hp2.symm e
       · exact ⟨p,hp1,hp2⟩
   by_cases how : ow = -1
   · subst how
     by_cases hm : m = 1
     · subst hm
       have hnr : n ∉ rd:=fun e=>by have:=(hp.m1 n c1).2 e; omega
       have key : Pre Pz z q (-1) (ins n (oth rd n)) ob { h with mode:=up h.mode n 1,asked:=up h.asked n 0 }:=by
         rw [oth_none hnr]
         refine ⟨fun k hk=>?_,fun k hk=>?_,fun k hk=>?_, .inl rfl,fun k hk=>?_,asc_ins hp.asc hnr,fun e=>absurd rfl e,fun e=>absurd rfl e,hp.obp,fun p hpq=>?_,p2,hq3⟩
         · dsimp only [up]
           split
           · rename_i e; subst e; unfold N4 at hk; omega
           · exact hp.m2 k hk
         · dsimp only [up]
           rw [mem_ins]
           split
           · simp [*]
           · rename_i e; simp [e,hp.m1 k hk]
         · dsimp only [up]
           split
           · omega
           · exact hp.m0 k hk
         · rcases mem_ins.1 hk with rfl | hk
           · exact c1
           · exact hp.rdr k hk
         · obtain ⟨d1,d2,d3,d4⟩:=hp.q1 p (by simp [hpq])
           have hne : p.1 ≠ n:=fun e=>p1 p hpq e.symm
           dsimp only
           rw [up_ne _ _ hne,up_ne _ _ hne]
           exact ⟨d1,d2,d3,d4⟩
       obtain ⟨h',k1,k2⟩:=ih key hd
       have e : goQ z ((n,1) :: q) (-1) rd ob = (.grant n 1 ob :: (goQ z q (-1) (ins n (oth rd n)) ob).1,(goQ z q (-1) (ins n (oth rd n)) ob).2):=by
         rw [goQ,if_neg (by simp),if_pos rfl]
       rw [e]
       refine ⟨h', ?_,k2⟩
       dsimp only [takeA]
       rw [take_grant c1 (fun k hk hne=>⟨fun e=>by have:=(hp.m2 k hk).1 e; unfold N4 at hk; omega,fun _=>by decide⟩) c2]
       exact k1
     · have hm2 : m = 2:=by omega
       subst hm2
       by_cases ho : oth rd n = []
       · have hrd : ∀ k ∈ rd,k = n:=fun k hk=>Classical.byContradiction fun hne=>by
           have : k ∈ oth rd n:=mem_oth.2 ⟨hk,hne⟩
           rw [ho] at this
           cases this
         have key : Pre Pz z q n [] z { h with mode:=up h.mode n 2,asked:=up h.asked n 0 }:=by
           refine ⟨fun k hk=>?_,fun k hk=>?_,fun k hk=>?_, .inr c1,by simp,List.Pairwise.nil,fun _=>rfl,fun _=>rfl,hz,fun p hpq=>?_,p2,hq3⟩
           · dsimp only [up]
             split
             · rename_i e; simp [e]
             · rename_i e
               constructor
               · intro e2
                 have:=(hp.m2 k hk).1 e2
                 unfold N4 at hk; omega
               · intro e2; exact absurd e2.symm e
           · dsimp only [up]
             split
             · simp
             · rename_i e
               constructor
               · intro e2; exact absurd (hrd k ((hp.m1 k hk).1 e2)) e
               · intro e2; cases e2
           · dsimp only [up]
             split
             · omega
             · exact hp.m0 k hk
           · obtain ⟨d1,d2,d3,d4⟩:=hp.q1 p (by simp [hpq])
             have hne : p.1 ≠ n:=fun e=>p1 p hpq e.symm
             dsimp only
             rw [up_ne _ _ hne,up_ne _ _ hne]
             exact ⟨d1,d2,d3,d4⟩
         obtain ⟨h',k1,k2⟩:=ih key hd
         have e : goQ z ((n,2) :: q) (-1) rd ob = (.grant n 2 ob :: (goQ z q n [] z).1,(goQ z q n [] z).2):=by
           rw [goQ,if_neg (by simp),if_neg (by decide),if_neg (by simp [ho])]
         rw [e]
         refine ⟨h', ?_,k2⟩
         dsimp only [takeA]
         rw [take_grant c1 (fun k hk hne=>⟨fun e=>by have:=(hp.m2 k hk).1 e; unfold N4 at hk; omega,fun e=>absurd (hrd k ((hp.m1 k hk).1 e)) hne⟩) c2]
         exact k1
       · have e : goQ z ((n,2) :: q) (-1) rd ob = ((oth rd n).map .rev, -1,rd,ob,oth rd n,(n,2) :: q):=by
           rw [goQ,if_neg (by simp),if_neg (by decide),if_pos ho]
         rw [e]
         obtain ⟨h',k1,k2,k3,k4⟩:=take_revs (O:=O) (h:=h) (l:=oth rd n) (fun k hk=>by
           have hk:=mem_oth.1 hk
           have h4:=hp.rdr k hk.1
           have:=(hp.m1 k h4).2 hk.1
           exact ⟨h4,by omega⟩)
         refine ⟨h',k1,⟨?_,fun k hk=>?_, .inr ⟨ho,_,_,rfl, .inr ⟨rfl,rfl,rfl⟩⟩⟩⟩
         · obtain ⟨a1,a2,a3,a4,a5,a6,a7,a8,a9,a10,a11,a12⟩:=hp
           exact ⟨by rw [k2]; exact a1,by rw [k2]; exact a2,by rw [k2]; exact a3,a4,a5,a6,a7,a8,a9,by rw [k2,k3]; exact a10,a11,by rw [k3]; exact a12⟩
         · rw [k4,hd k hk]
           simp
   · have e : goQ z ((n,m) :: q) ow rd ob = ([.rev ow],ow,rd,ob,[ow],(n,m) :: q):=by
       rw [goQ,if_pos how]
     rw [e]
     have h4 : N4 ow:=by rcases hp.owr with h | h; exact absurd h how; exact h
     have hmo:=(hp.m2 ow h4).2 rfl
     obtain ⟨h',k1,k2,k3,k4⟩:=take_revs (O:=O) (h:=h) (l:=[ow]) (fun k hk=>by
       simp only [List.mem_singleton] at hk
       subst hk
       exact ⟨h4,by omega⟩)
     refine ⟨h',k1,⟨?_,fun k hk=>?_, .inr ⟨by simp,_,_,rfl, .inl ⟨how,rfl⟩⟩⟩⟩
     · obtain ⟨a1,a2,a3,a4,a5,a6,a7,a8,a9,a10,a11,a12⟩:=hp
       exact ⟨by rw [k2]; exact a1,by rw [k2]; exact a2,by rw [k2]; exact a3,a4,a5,a6,a7,a8,a9,by rw [k2,k3]; exact a10,a11,by rw [k3]; exact a12⟩
     · rw [k4,hd k hk]
       simp
theorem goQ_le (z : O) : ∀ {q : List (Int × Int)} {ow : Int} {rd : List Int} {ob : O},(goQ z q ow rd ob).2.2.2.2.2.length ≤ q.length
 | [],_,_,_=>Nat.le_refl _
 | (n, m) :: q, ow, rd, ob => by
   have h1:=goQ_le z (q:=q) (ow:=ow) (rd:=ins n (oth rd n)) (ob:=ob)
   have h2:=goQ_le z (q:=q) (ow:=n) (rd:=[]) (ob:=z)
   rw [goQ]
   split
   · simp
   · split
     · simp; omega
     · split
       · simp
       · simp; omega
theorem goOn_inv {Pz : O → Prop} {z : O} (hz : Pz z) {e : Ent O} {h : Hd} (hp : Pre Pz z e.queue e.owner e.readers e.obj h) (hd : ∀ n,N4 n → h.demand n = false) (hw : e.waiting = []) :
   ∃ h',takeA h (goOn z e).1 = some h' ∧ Inv Pz z (goOn z e).2 h':=by
 unfold goOn
 rw [if_pos hw]
 exact goQ_inv hz e.id hp hd
theorem ask_inv {Pz : O → Prop} {z : O} (hz : Pz z) {e : Ent O} {h : Hd} (hi : Inv Pz z e h) {n m : Int} (hn : N4 n) (ha : h.asked n = 0) (hm : m = 1 ∨ m = 2) (hlt : h.mode n < m) :
   ∃ h',takeA { h with asked:=up h.asked n m } (askE z e n m).1 = some h' ∧ Inv Pz z (askE z e n m).2 h':=by
 obtain ⟨hp,hd,hw⟩:=hi
 have hnq : ∀ p ∈ e.queue,p.1 ≠ n:=fun p hpq en=>by
   obtain ⟨_,d2,d3,_⟩:=hp.q1 p hpq
   rw [en] at d2
   omega
 have key : Pre Pz z (e.queue ++ [(n,m)]) e.owner e.readers e.obj { h with asked:=up h.asked n m }:=by
   refine ⟨hp.m2,hp.m1,hp.m0,hp.owr,hp.rdr,hp.asc,hp.one,hp.obz,hp.obp,fun p hpq=>?_, ?_,fun k hk hne=>?_⟩
   · rcases List.mem_append.1 hpq with hpq | hpq
     · dsimp only
       rw [up_ne _ _ (hnq p hpq)]
       exact hp.q1 p hpq
     · simp only [List.mem_singleton] at hpq
       subst hpq
       exact ⟨hn,up_same _ _ _,hm,hlt⟩
   · rw [List.pairwise_append]
     refine ⟨hp.q2,List.pairwise_singleton _ _,fun a ha b hb=>?_⟩
     simp only [List.mem_singleton] at hb
     subst hb
     exact hnq a ha
   · by_cases e1 : k = n
     · exact ⟨(n,m),by simp,e1.symm⟩
     · dsimp only at hne
       rw [up_ne _ _ e1] at hne
       obtain ⟨p,h1,h2⟩:=hp.q3 k hk hne
       exact ⟨p,by simp [h1],h2⟩
 unfold askE
 rcases hw with ⟨w1,w2⟩ | ⟨w1,p,q,w2,w3⟩
 · exact goOn_inv hz (e:={ e with queue:=e.queue ++ [(n,m)] }) key (fun k hk=>Bool.eq_false_iff.2 fun c=>by have:=(hd k hk).1 c; rw [w1] at this; cases this) w1
 · unfold goOn
   rw [if_neg w1]
   exact ⟨_,rfl,key,hd, .inr ⟨w1,p,q ++ [(n,m)],by dsimp only; rw [w2]; rfl,w3⟩⟩
theorem ret_inv {Pz : O → Prop} {z : O} (hz : Pz z) {e : Ent O} {h : Hd} (hi : Inv Pz z e h) {n : Int} (hn : N4 n) (hdm : h.demand n = true) {o : O} (ho : Pz o) :
   ∃ h',takeA { h with mode:=up h.mode n 0,demand:=up h.demand n false } (retE z e n o).1 = some h' ∧ Inv Pz z (retE z e n o).2 h' ∧
     ((oth e.waiting n ≠ [] ∧ (retE z e n o).2.waiting = oth e.waiting n ∧ (retE z e n o).2.queue = e.queue) ∨ (retE z e n o).2.queue.length + 1 ≤ e.queue.length):=by
 obtain ⟨hp,hd,hw⟩:=hi
 have hin:=(hd n hn).1 hdm
 have hq : ∀ p ∈ e.queue,N4 p.1 ∧ h.asked p.1 = p.2 ∧ (p.2 = 1 ∨ p.2 = 2) ∧ up h.mode n 0 p.1 < p.2:=fun p hpq=>by
   obtain ⟨d1,d2,d3,d4⟩:=hp.q1 p hpq
   refine ⟨d1,d2,d3, ?_⟩
   unfold up
   split
   · omega
   · exact d4
 rcases hw with ⟨w1,w2⟩ | ⟨w1,p,q,w2,w3⟩
 · rw [w1] at hin; cases hin
 rcases w3 with ⟨w3,w4⟩ | ⟨w3,w4,w5⟩
 · -- the owner gives it back
   rw [w4] at hin
   simp only [List.mem_singleton] at hin
   subst hin
   have hrd:=hp.one w3
   have hwt : oth e.waiting e.owner = []:=by rw [w4]; simp [oth]
   have key : Pre Pz z e.queue (-1) e.readers o { h with mode:=up h.mode e.owner 0,demand:=up h.demand e.owner false }:=by
     refine ⟨fun k hk=>?_,fun k hk=>?_,fun k hk=>?_, .inl rfl,hp.rdr,hp.asc,fun e=>absurd rfl e,fun e=>absurd rfl e,ho,hq,hp.q2,hp.q3⟩
     · dsimp only [up]
       split
       · unfold N4 at hk; omega
       · rename_i e1
         constructor
         · intro e2; exact absurd ((hp.m2 k hk).1 e2).symm e1
         · intro e2; unfold N4 at hk; omega
     · rw [hrd]
       dsimp only [up]
       split
       · simp
       · have:=hp.m1 k hk
         rw [hrd] at this
         exact this
     · dsimp only [up]
       split
       · omega
       · exact hp.m0 k hk
   have hdf : ∀ k,N4 k → up h.demand e.owner false k = false:=fun k hk=>by
     unfold up
     split
     · rfl
     · rename_i e1
       refine Bool.eq_false_iff.2 fun c=>?_
       have:=(hd k hk).1 c
       rw [w4] at this
       simp only [List.mem_singleton] at this
       exact e1 this
   unfold retE
   rw [if_pos rfl,if_pos rfl,if_pos rfl]
   obtain ⟨h',k1,k2⟩:=goOn_inv hz (e:={ e with owner := -1,obj:=o,waiting:=oth e.waiting e.owner }) key hdf hwt
   refine ⟨h',k1,k2, .inr ?_⟩
   unfold goOn
   rw [if_pos hwt]
   dsimp only
   rw [w2]
   obtain ⟨n1,m1⟩:=p
   rw [goQ,if_neg (by simp),hrd]
   split
   · have:=goQ_le z (q:=q) (ow := -1) (rd:=ins n1 (oth [] n1)) (ob:=o)
     simp; omega
   · rw [if_neg (by simp [oth])]
     have:=goQ_le z (q:=q) (ow:=n1) (rd:=[]) (ob:=z)
     simp; omega
 · -- a reader gives it back
   have hno : e.owner ≠ n:=by unfold N4 at hn; omega
   have hinr : n ∈ e.readers ∧ n ≠ p.1:=by rw [w5] at hin; exact mem_oth.1 hin
   have key : Pre Pz z e.queue e.owner (oth e.readers n) e.obj { h with mode:=up h.mode n 0,demand:=up h.demand n false }:=by
     refine ⟨fun k hk=>?_,fun k hk=>?_,fun k hk=>?_,hp.owr,fun k hk=>hp.rdr k (mem_oth.1 hk).1,asc_oth hp.asc n,fun e2=>absurd w3 e2,fun e2=>absurd w3 e2,hp.obp,hq,hp.q2,hp.q3⟩
     · dsimp only [up]
       split
       · rename_i e1; subst e1; unfold N4 at hk; omega
       · exact hp.m2 k hk
     · rw [mem_oth]
       dsimp only [up]
       split
       · rename_i e1; simp [e1]
       · rename_i e1; simp [e1,hp.m1 k hk]
     · dsimp only [up]
       split
       · omega
       · exact hp.m0 k hk
   unfold retE
   rw [if_neg hno,if_neg hno,if_neg hno]
   by_cases hwt : oth e.waiting n = []
   · have hdf : ∀ k,N4 k → up h.demand n false k = false:=fun k hk=>by
       unfold up
       split
       · rfl
       · rename_i e1
         refine Bool.eq_false_iff.2 fun c=>?_
         have h1:=(hd k hk).1 c
         have : k ∈ oth e.waiting n:=mem_oth.2 ⟨h1,e1⟩
         rw [hwt] at this
         cases this
     obtain ⟨h',k1,k2⟩:=goOn_inv hz (e:={ e with readers:=oth e.readers n,waiting:=oth e.waiting n }) key hdf hwt
     refine ⟨h',k1,k2, .inr ?_⟩
     unfold goOn
     rw [if_pos hwt]
     dsimp only
     rw [w2]
     obtain ⟨n1,m1⟩:=p
     dsimp only at w4 w5
     subst w4
     rw [goQ,if_neg (by simp [w3]),if_neg (by decide),if_neg (by rw [oth_comm, ← w5,hwt]; simp)]
     have:=goQ_le z (q:=q) (ow:=n1) (rd:=[]) (ob:=z)
     simp; omega
   · refine ⟨{ h with mode:=up h.mode n 0,demand:=up h.demand n false }, ?_, ?_, .inl ⟨hwt, ?_⟩⟩
     · unfold goOn
       rw [if_neg hwt]
       rfl
     · unfold goOn
       rw [if_neg hwt]
       refine ⟨key,fun k hk=>?_, .inr ⟨hwt,p,q,w2, .inr ⟨w3,w4, ?_⟩⟩⟩
       · dsimp only [up]
         rw [mem_oth]
         split
         · rename_i e1; simp [e1]
         · rename_i e1; simp [e1,hd k hk]
       · dsimp only
         rw [w5,oth_comm]
     · unfold goOn
       rw [if_neg hwt]
       exact ⟨rfl,rfl⟩
theorem nodup_len : ∀ {l S : List Int},l.Nodup → (∀ x ∈ l,x ∈ S) → l.length ≤ S.length
 | [],_,_,_=>Nat.zero_le _
 | x :: r,S,h,hs=>by
   obtain ⟨h1,h2⟩:=List.pairwise_cons.1 h
   have hx:=hs x (by simp)
   have h3:=nodup_len (l:=r) (S:=S.erase x) h2 (fun y hy=>(List.mem_erase_of_ne (h1 y hy).symm).2 (hs y (by simp [hy])))
   rw [List.length_erase_of_mem hx] at h3
   have:=List.length_pos_of_mem hx
   simp only [List.length_cons]
   omega
theorem Inv.q4 {Pz : O → Prop} {z : O} {e : Ent O} {h : Hd} (hi : Inv Pz z e h) : e.queue.length ≤ 4 := by
 have h1 : (e.queue.map (·.1)).Nodup:=by
   rw [List.Nodup,List.pairwise_map]
   exact hi.pre.q2
 have h2 : ∀ x ∈ e.queue.map (·.1),x ∈ [(0 : Int),1,2,3]:=fun x hx=>by
   obtain ⟨p,hp,rfl⟩:=List.mem_map.1 hx
   have:=N4_cases (hi.pre.q1 p hp).1
   simpa using this
 have:=nodup_len h1 h2
 simpa using this
end
section
variable {O : Type}
def Str (V : O → Prop) : Hd → List (Mg O) → Prop
 | _,[]=>True
 | h, .rev to :: r=>N4 to ∧ h.mode to ≠ 0 ∧ h.demand to = false ∧ Str V { h with demand:=up h.demand to true } r
 | h, .grant to m o :: r=>N4 to ∧ h.demand to = false ∧ h.asked to = m ∧ (m = 1 ∨ m = 2) ∧ h.mode to < m ∧ V o ∧ Str V { h with mode:=up h.mode to m,asked:=up h.asked to 0 } r
def aft : Hd → List (Mg O) → Hd
 | h,[]=>h
 | h, .rev to :: r=>aft { h with demand:=up h.demand to true } r
 | h, .grant to m _ :: r=>aft { h with mode:=up h.mode to m,asked:=up h.asked to 0 } r
theorem takeA_aft : ∀ {ms : List (Mg O)} {h h' : Hd},takeA h ms = some h' → h' = aft h ms
 | [],h,h',e=>by cases e; rfl
 | .rev to :: r,h,h',e=>by
   rw [takeA,take1] at e
   split at e
   · cases e
   · exact takeA_aft (h:={ h with demand:=up h.demand to true }) (by simpa using e)
 | .grant to m o :: r,h,h',e=>by
   rw [takeA,take1] at e
   split at e
   · cases e
   · exact takeA_aft (h:={ h with mode:=up h.mode to m,asked:=up h.asked to 0 }) (by simpa using e)
theorem str_revs {V : O → Prop} : ∀ {l : List Int} {h : Hd},l.Nodup → (∀ n ∈ l,N4 n ∧ h.mode n ≠ 0 ∧ h.demand n = false) → Str V h (l.map fun n => (.rev n : Mg O))
 | [],h,_,_=>trivial
 | x :: r,h,hn,hl=>by
   obtain ⟨h1,h2⟩:=List.pairwise_cons.1 hn
   obtain ⟨a,b,c⟩:=hl x (by simp)
   refine ⟨a,b,c,str_revs h2 fun n hr=>?_⟩
   obtain ⟨a',b',c'⟩:=hl n (by simp [hr])
   refine ⟨a',b', ?_⟩
   show up h.demand x true n = false
   rw [up_ne _ _ (fun e=>h1 n hr e.symm)]
   exact c'
theorem asc_nodup {l : List Int} (h : Asc l) : l.Nodup := h.imp fun h => by omega
theorem goQ_str {V : O → Prop} (z : O) : ∀ {q : List (Int × Int)} {ow : Int} {rd : List Int} {ob : O} {h : Hd},
   (∀ p ∈ q,N4 p.1 ∧ h.asked p.1 = p.2 ∧ (p.2 = 1 ∨ p.2 = 2) ∧ h.mode p.1 < p.2) → q.Pairwise (fun a b=>a.1 ≠ b.1) → (∀ n,N4 n → h.demand n = false) → (ow ≠ -1 → N4 ow ∧ h.mode ow ≠ 0) →
   (∀ x ∈ rd,N4 x ∧ h.mode x ≠ 0) → Asc rd → (ow = -1 → V ob) → Str V h (goQ z q ow rd ob).1 ∧ ((goQ z q ow rd ob).2.1 = -1 → V (goQ z q ow rd ob).2.2.2.1):=by
 intro q
 induction q with
 | nil =>
   intro ow rd ob h _ _ _ _ _ _ hv
   exact ⟨trivial,hv⟩
 | cons p q ih =>
   obtain ⟨n,m⟩:=p
   intro ow rd ob h hq hp hd ho hr ha hv
   obtain ⟨c1,c2,c3,c4⟩:=hq (n,m) (by simp)
   dsimp only at c1 c2 c3 c4
   obtain ⟨p1,p2⟩:=List.pairwise_cons.1 hp
   dsimp only at p1
   have hq2 : ∀ x, ∀ p ∈ q,N4 p.1 ∧ up h.asked n 0 p.1 = p.2 ∧ (p.2 = 1 ∨ p.2 = 2) ∧ up h.mode n x p.1 < p.2:=fun x p hpq=>by
     have hne : p.1 ≠ n:=fun e=>p1 p hpq e.symm
     rw [up_ne _ _ hne,up_ne _ _ hne]
     exact hq p (by simp [hpq])
   rw [goQ]
   by_cases how : ow = -1
   · rw [if_neg (by simpa using how)]
     by_cases hm : m = 1
     · rw [if_pos hm]
       subst hm
       obtain ⟨k1,k2⟩:=ih (ow:=ow) (rd:=ins n (oth rd n)) (ob:=ob) (h:={ h with mode:=up h.mode n 1,asked:=up h.asked n 0 }) (hq2 1) p2 hd (fun e=>absurd how e) (fun x hx=>by
         rcases mem_ins.1 hx with rfl | hx
         · exact ⟨c1,by show up h.mode x 1 x ≠ 0; rw [up_same]; decide⟩
         · obtain ⟨e1,e2⟩:=mem_oth.1 hx
           exact ⟨(hr x e1).1,by show up h.mode n 1 x ≠ 0; rw [up_ne _ _ e2]; exact (hr x e1).2⟩) (asc_ins (asc_oth ha n) (by rw [mem_oth]; simp)) hv
       exact ⟨⟨c1,hd n c1,c2, .inl rfl,c4,hv how,k1⟩,k2⟩
     · rw [if_neg hm]
       by_cases ho2 : oth rd n = []
       · rw [if_neg (by simpa using ho2)]
         have hm2 : m = 2:=by omega
         subst hm2
         obtain ⟨k1,k2⟩:=ih (ow:=n) (rd:=[]) (ob:=z) (h:={ h with mode:=up h.mode n 2,asked:=up h.asked n 0 }) (hq2 2) p2 hd (fun _=>⟨c1,by show up h.mode n 2 n ≠ 0; rw [up_same]; decide⟩) (fun x hx=>by cases hx) List.Pairwise.nil (fun e=>by unfold N4 at c1; omega)
         exact ⟨⟨c1,hd n c1,c2, .inr rfl,c4,hv how,k1⟩,k2⟩
       · rw [if_pos ho2]
         exact ⟨str_revs (asc_nodup (asc_oth ha n)) fun x hx=>⟨(hr x (mem_oth.1 hx).1).1,(hr x (mem_oth.1 hx).1).2,hd x (hr x (mem_oth.1 hx).1).1⟩,hv⟩
   · rw [if_pos how]
     obtain ⟨a,b⟩:=ho how
     exact ⟨⟨a,b,hd ow a,trivial⟩,fun e=>absurd e how⟩
def mgC : Mg O → Nat
 | .rev _=>2
 | .grant _ _ _=>1
def mgsC : List (Mg O) → Nat
 | []=>0
 | m :: r=>mgC m + mgsC r
def dirC (w : List Int) (q : List (Int × Int)) : Nat := 5 * q.length - if w = [] then 0 else 4
theorem mgsC_revs : ∀ l : List Int,mgsC (l.map fun n => (.rev n : Mg O)) = 2 * l.length
 | []=>rfl
 | x :: r=>by rw [List.map_cons,mgsC,mgsC_revs r]; simp [mgC]; omega
def M3 (n : Int) : Prop := 0 ≤ n ∧ n ≤ 2
theorem oth2 {rd : List Int} {n : Int} (hn : M3 n) (hr : ∀ x ∈ rd,M3 x) (ha : Asc rd) : (oth rd n).length ≤ 2 := by
 unfold M3 at hn
 have:=nodup_len (l:=oth rd n) (S:=[if n = 0 then 1 else 0,if n = 2 then 1 else 2]) (asc_nodup (asc_oth ha n)) fun x hx=>by
   obtain ⟨h1,h2⟩:=mem_oth.1 hx
   have:=hr x h1
   unfold M3 at this
   simp only [List.mem_cons,List.not_mem_nil,or_false]
   split <;> split <;> omega
 simpa using this
theorem goQ_cost (z : O) : ∀ {q : List (Int × Int)} {ow : Int} {rd : List Int} {ob : O},(∀ p ∈ q,M3 p.1) → (∀ x ∈ rd,M3 x) → Asc rd →
   mgsC (goQ z q ow rd ob).1 + dirC (goQ z q ow rd ob).2.2.2.2.1 (goQ z q ow rd ob).2.2.2.2.2 ≤ 5 * q.length:=by
 intro q
 induction q with
 | nil=>intro ow rd ob _ _ _; simp [goQ,mgsC,dirC]
 | cons p q ih =>
   obtain ⟨n,m⟩:=p
   intro ow rd ob hq hr ha
   have hn : M3 n:=hq (n,m) (by simp)
   have hq2 : ∀ p ∈ q,M3 p.1:=fun p hp=>hq p (by simp [hp])
   rw [goQ]
   split
   · simp [mgsC,mgC,dirC]
     omega
   · split
     · have:=ih (ow:=ow) (rd:=ins n (oth rd n)) (ob:=ob) hq2 (fun x hx=>by
         rcases mem_ins.1 hx with rfl | hx
         · exact hn
         · exact hr x (mem_oth.1 hx).1) (asc_ins (asc_oth ha n) (by rw [mem_oth]; simp))
       simp only [mgsC,mgC,List.length_cons]
       omega
     · split
       · rename_i ho
         have:=oth2 hn hr ha
         simp only [mgsC_revs,dirC,if_neg ho,List.length_cons]
         omega
       · have:=ih (ow:=n) (rd:=[]) (ob:=z) hq2 (fun x hx=>by cases hx) List.Pairwise.nil
         simp only [mgsC,mgC,List.length_cons]
         omega
theorem goQ_cost1 (z : O) {n m : Int} {q : List (Int × Int)} {rd : List Int} {ob : O} (hq : ∀ p ∈ (n,m) :: q,M3 p.1) (hr : ∀ x ∈ rd,M3 x) (ha : Asc rd) (hg : m = 1 ∨ oth rd n = []) :
   mgsC (goQ z ((n,m) :: q) (-1) rd ob).1 + dirC (goQ z ((n,m) :: q) (-1) rd ob).2.2.2.2.1 (goQ z ((n,m) :: q) (-1) rd ob).2.2.2.2.2 ≤ 5 * q.length + 1:=by
 have hn : M3 n:=hq (n,m) (by simp)
 have hq2 : ∀ p ∈ q,M3 p.1:=fun p hp=>hq p (by simp [hp])
 rw [goQ,if_neg (by decide)]
 split
 · have:=goQ_cost z (q:=q) (ow := -1) (rd:=ins n (oth rd n)) (ob:=ob) hq2 (fun x hx=>by
     rcases mem_ins.1 hx with rfl | hx
     · exact hn
     · exact hr x (mem_oth.1 hx).1) (asc_ins (asc_oth ha n) (by rw [mem_oth]; simp))
   simp only [mgsC,mgC]
   omega
 · rename_i hm
   rw [if_neg (by simpa using hg.resolve_left hm)]
   have:=goQ_cost z (q:=q) (ow:=n) (rd:=[]) (ob:=z) hq2 (fun x hx=>by cases hx) List.Pairwise.nil
   simp only [mgsC,mgC]
   omega
structure DI (V : O → Prop) (z : O) (e : Ent O) (h : Hd) : Prop where
 inv : Inv (fun _=>True) z e h
 val : e.owner = -1 → V e.obj
 m3 : h.mode 3 = 0
 a3 : h.asked 3 = 0
def Ent.cost (e : Ent O) : Nat := dirC e.waiting e.queue
theorem N4_M3 {n : Int} (h : N4 n) (h3 : n ≠ 3) : M3 n := by unfold N4 at h; unfold M3; omega
theorem aft3 {V : O → Prop} : ∀ {ms : List (Mg O)} {h : Hd},Str V h ms → h.mode 3 = 0 → h.asked 3 = 0 → (aft h ms).mode 3 = 0 ∧ (aft h ms).asked 3 = 0
 | [],h,_,h1,h2=>⟨h1,h2⟩
 | .rev to :: r,h,hs,h1,h2=>aft3 (ms:=r) (h:={ h with demand:=up h.demand to true }) hs.2.2.2 h1 h2
 | .grant to m o :: r,h,hs,h1,h2=>by
   obtain ⟨a,b,c,d,e,f,g⟩:=hs
   have hne : (3 : Int) ≠ to:=fun e1=>by rw [← e1,h2] at c; omega
   exact aft3 (ms:=r) (h:={ h with mode:=up h.mode to m,asked:=up h.asked to 0 }) g (by show up h.mode to m 3 = 0; rw [up_ne _ _ hne]; exact h1) (by show up h.asked to 0 3 = 0; rw [up_ne _ _ hne]; exact h2)
theorem DI.rd {V : O → Prop} {z : O} {e : Ent O} {h : Hd} (hi : DI V z e h) : ∀ x ∈ e.readers,M3 x := fun x hx => by
 have h4:=hi.inv.pre.rdr x hx
 refine N4_M3 h4 fun e1=>?_
 have:=(hi.inv.pre.m1 x h4).2 hx
 rw [e1,hi.m3] at this
 omega
theorem DI.qu {V : O → Prop} {z : O} {e : Ent O} {h : Hd} (hi : DI V z e h) : ∀ p ∈ e.queue,M3 p.1 := fun p hp => by
 obtain ⟨h4,a,b,_⟩:=hi.inv.pre.q1 p hp
 refine N4_M3 h4 fun e1=>?_
 rw [e1,hi.a3] at a
 omega
theorem DI.ow {V : O → Prop} {z : O} {e : Ent O} {h : Hd} (hi : DI V z e h) (ho : e.owner ≠ -1) : M3 e.owner := by
 rcases hi.inv.pre.owr with e1 | h4
 · exact absurd e1 ho
 · refine N4_M3 h4 fun e1=>?_
   have:=(hi.inv.pre.m2 _ h4).2 rfl
   rw [e1,hi.m3] at this
   omega
theorem DI.wt {V : O → Prop} {z : O} {e : Ent O} {h : Hd} (hi : DI V z e h) : ∀ x ∈ e.waiting,M3 x ∧ h.demand x = true ∧ h.mode x ≠ 0 := fun x hx => by
 have hm : M3 x ∧ h.mode x ≠ 0:=by
   rcases hi.inv.wt with ⟨w1,_⟩ | ⟨w1,p,q,w2,w3⟩
   · rw [w1] at hx; cases hx
   · rcases w3 with ⟨a,b⟩ | ⟨a,b,c⟩
     · rw [b] at hx
       simp only [List.mem_singleton] at hx
       subst hx
       have:=hi.ow a
       exact ⟨this,by rw [(hi.inv.pre.m2 _ (by unfold M3 at this; unfold N4; omega)).2 rfl]; decide⟩
     · rw [c] at hx
       have hx:=(mem_oth.1 hx).1
       exact ⟨hi.rd x hx,by rw [(hi.inv.pre.m1 _ (hi.inv.pre.rdr x hx)).2 hx]; decide⟩
 exact ⟨hm.1,(hi.inv.dem x (by have:=hm.1; unfold M3 at this; unfold N4; omega)).2 hx,hm.2⟩
theorem ask_all {V : O → Prop} {z : O} {e : Ent O} {h : Hd} (hi : DI V z e h) {n m : Int} (hn : M3 n) (ha : h.asked n = 0) (hm : m = 1 ∨ m = 2) (hlt : h.mode n < m) :
   Str V { h with asked:=up h.asked n m } (askE z e n m).1 ∧ DI V z (askE z e n m).2 (aft { h with asked:=up h.asked n m } (askE z e n m).1) ∧
     mgsC (askE z e n m).1 + (askE z e n m).2.cost ≤ e.cost + 5:=by
 have hn4 : N4 n:=by unfold M3 at hn; unfold N4; omega
 have ha3 : up h.asked n m 3 = 0:=by rw [up_ne _ _ (fun e1=>by unfold M3 at hn; omega)]; exact hi.a3
 obtain ⟨h',k1,k2⟩:=ask_inv (Pz:=fun _=>True) trivial hi.inv hn4 ha hm hlt
 have ke:=takeA_aft k1
 rw [ke] at k2
 by_cases hw : e.waiting = []
 · have hq0 : e.queue = []:=by
     rcases hi.inv.wt with ⟨_,w2⟩ | ⟨w1,_⟩
     · exact w2
     · exact absurd hw w1
   have hp:=hi.inv.pre
   have:=goQ_str (V:=V) z (q:=e.queue ++ [(n,m)]) (ow:=e.owner) (rd:=e.readers) (ob:=e.obj) (h:={ h with asked:=up h.asked n m }) (fun p hp=>by
     rw [hq0] at hp
     simp only [List.nil_append,List.mem_singleton] at hp
     subst hp
     exact ⟨hn4,up_same _ _ _,hm,hlt⟩) (by rw [hq0]; exact List.pairwise_singleton _ _) (fun k hk=>Bool.eq_false_iff.2 fun c=>by have:=(hi.inv.dem k hk).1 c; rw [hw] at this; cases this) (fun ho=>by
     rcases hp.owr with e1 | e1
     · exact absurd e1 ho
     · exact ⟨e1,by show h.mode e.owner ≠ 0; rw [(hp.m2 _ e1).2 rfl]; decide⟩) (fun x hx=>⟨hp.rdr x hx,by show h.mode x ≠ 0; rw [(hp.m1 _ (hp.rdr x hx)).2 hx]; decide⟩) hp.asc hi.val
   have hc:=goQ_cost z (q:=e.queue ++ [(n,m)]) (ow:=e.owner) (rd:=e.readers) (ob:=e.obj) (fun p hp=>by
     rw [hq0] at hp
     simp only [List.nil_append,List.mem_singleton] at hp
     subst hp
     exact hn) hi.rd hp.asc
   have e1 : Str V { h with asked:=up h.asked n m } (askE z e n m).1:=by
     unfold askE goOn
     rw [if_pos hw]
     exact this.1
   obtain ⟨z1,z2⟩:=aft3 e1 hi.m3 ha3
   refine ⟨e1,⟨k2, ?_,z1,z2⟩, ?_⟩
   · unfold askE goOn
     rw [if_pos hw]
     exact this.2
   · unfold askE goOn
     rw [if_pos hw]
     simp only [Ent.cost] at hc ⊢
     rw [hq0] at hc ⊢
     simp only [dirC,hw,List.nil_append,List.length_cons,List.length_nil] at hc ⊢
     omega
 · have hg : askE z e n m = ([], { e with queue:=e.queue ++ [(n,m)] }):=by
     unfold askE goOn
     rw [if_neg hw]
   rw [hg] at k2 ⊢
   refine ⟨trivial,⟨k2,hi.val,hi.m3,ha3⟩, ?_⟩
   simp only [Ent.cost,dirC,mgsC,if_neg hw,List.length_append,List.length_cons,List.length_nil]
   omega
theorem ret_all {V : O → Prop} {z : O} {e : Ent O} {h : Hd} (hi : DI V z e h) {n : Int} (hn : M3 n) (hdm : h.demand n = true) {o : O} (ho : h.mode n = 2 → V o) :
   Str V { h with mode:=up h.mode n 0,demand:=up h.demand n false } (retE z e n o).1 ∧ DI V z (retE z e n o).2 (aft { h with mode:=up h.mode n 0,demand:=up h.demand n false } (retE z e n o).1) ∧
     mgsC (retE z e n o).1 + (retE z e n o).2.cost ≤ e.cost:=by
 have hn4 : N4 n:=by unfold M3 at hn; unfold N4; omega
 have hm3 : up h.mode n 0 3 = 0:=by rw [up_ne _ _ (fun e1=>by unfold M3 at hn; omega)]; exact hi.m3
 obtain ⟨h',k1,k2,k3⟩:=ret_inv (Pz:=fun _=>True) trivial hi.inv hn4 hdm (o:=o) trivial
 have ke:=takeA_aft k1
 rw [ke] at k2
 have hin:=(hi.inv.dem n hn4).1 hdm
 have hp:=hi.inv.pre
 obtain ⟨w1,⟨n1,m1⟩,q,w2,w3⟩ : e.waiting ≠ [] ∧ ∃ p q,e.queue = p :: q ∧ ((e.owner ≠ -1 ∧ e.waiting = [e.owner]) ∨ (e.owner = -1 ∧ p.2 = 2 ∧ e.waiting = oth e.readers p.1)):=by
   rcases hi.inv.wt with ⟨w1,_⟩ | h
   · rw [w1] at hin; cases hin
   · exact h
 have ec : e.cost = 5 * q.length + 1:=by
   simp only [Ent.cost,dirC,if_neg w1,w2,List.length_cons]
   omega
 have hq : ∀ p ∈ e.queue,N4 p.1 ∧ h.asked p.1 = p.2 ∧ (p.2 = 1 ∨ p.2 = 2) ∧ up h.mode n 0 p.1 < p.2:=fun p hpq=>by
   obtain ⟨d1,d2,d3,d4⟩:=hp.q1 p hpq
   refine ⟨d1,d2,d3, ?_⟩
   unfold up
   split
   · omega
   · exact d4
 have hqn:=hi.qu
 rw [w2] at hqn
 have hmo : e.owner = n → h.mode n = 2:=fun e1=>(hp.m2 n hn4).2 e1
 -- the state that is gone on with
 have hdf : oth e.waiting n = [] → ∀ k,N4 k → up h.demand n false k = false:=fun hwt k hk=>by
   unfold up
   split
   · rfl
   · rename_i e1
     refine Bool.eq_false_iff.2 fun c=>?_
     have : k ∈ oth e.waiting n:=mem_oth.2 ⟨(hi.inv.dem k hk).1 c,e1⟩
     rw [hwt] at this
     cases this
 have fin : ∀ (rd : List Int) (ob : O),oth e.waiting n = [] → (∀ x ∈ rd,M3 x ∧ up h.mode n 0 x ≠ 0) → Asc rd → V ob → (m1 = 1 ∨ oth rd n1 = []) → retE z e n o = goOn z ⟨e.id, -1,rd,ob,oth e.waiting n,e.queue⟩ →
     Str V { h with mode:=up h.mode n 0,demand:=up h.demand n false } (retE z e n o).1 ∧ DI V z (retE z e n o).2 (aft { h with mode:=up h.mode n 0,demand:=up h.demand n false } (retE z e n o).1) ∧
     mgsC (retE z e n o).1 + (retE z e n o).2.cost ≤ e.cost:=by
   intro rd ob hwt hrd hasc hv hfirst he
   have:=goQ_str (V:=V) z (q:=e.queue) (ow := -1) (rd:=rd) (ob:=ob) (h:={ h with mode:=up h.mode n 0,demand:=up h.demand n false }) hq hp.q2 (hdf hwt) (fun e1=>absurd rfl e1) (fun x hx=>by
     obtain ⟨a,b⟩:=hrd x hx
     exact ⟨by unfold M3 at a; unfold N4; omega,b⟩) hasc (fun _=>hv)
   have hc:=goQ_cost1 z (n:=n1) (m:=m1) (q:=q) (rd:=rd) (ob:=ob) hqn (fun x hx=>(hrd x hx).1) hasc hfirst
   have e1 : Str V { h with mode:=up h.mode n 0,demand:=up h.demand n false } (retE z e n o).1:=by
     rw [he]
     unfold goOn
     rw [if_pos hwt]
     exact this.1
   obtain ⟨z1,z2⟩:=aft3 e1 hm3 hi.a3
   refine ⟨e1,⟨k2, ?_,z1,z2⟩, ?_⟩
   · rw [he]
     unfold goOn
     rw [if_pos hwt]
     exact this.2
   · rw [he,ec]
     unfold goOn
     rw [if_pos hwt]
     dsimp only [Ent.cost]
     rw [w2]
     exact hc
 rcases w3 with ⟨a,b⟩ | ⟨a,b,c⟩
 · rw [b] at hin
   simp only [List.mem_singleton] at hin
   subst hin
   have hrd:=hp.one a
   refine fin [] o (by rw [b]; simp [oth]) (fun x hx=>by cases hx) List.Pairwise.nil (ho (hmo rfl)) (.inr rfl) ?_
   unfold retE
   rw [if_pos rfl,if_pos rfl,if_pos rfl,hrd]
 · have hno : e.owner ≠ n:=by unfold M3 at hn; omega
   have he : retE z e n o = goOn z ⟨e.id, -1,oth e.readers n,e.obj,oth e.waiting n,e.queue⟩:=by
     unfold retE
     rw [if_neg hno,if_neg hno,if_neg hno,a]
   dsimp only at b c
   by_cases hwt : oth e.waiting n = []
   · refine fin (oth e.readers n) e.obj hwt (fun x hx=>?_) (asc_oth hp.asc n) (hi.val a) (.inr ?_) he
     · obtain ⟨x1,x2⟩:=mem_oth.1 hx
       refine ⟨hi.rd x x1, ?_⟩
       rw [up_ne _ _ x2,(hp.m1 _ (hp.rdr x x1)).2 x1]
       decide
     · rw [oth_comm, ← c,hwt]
   · have hg : retE z e n o = ([],⟨e.id, -1,oth e.readers n,e.obj,oth e.waiting n,e.queue⟩):=by
       rw [he]
       unfold goOn
       rw [if_neg hwt]
     rw [hg] at k2 ⊢
     refine ⟨trivial,⟨k2,fun _=>hi.val a,hm3,hi.a3⟩, ?_⟩
     simp only [Ent.cost,dirC,mgsC,if_neg hwt,if_neg w1]
     omega
end
end Go.Abs.Dir
namespace Go.Abs.Np
open Go Go.Proofs Go.Abs
set_option maxRecDepth 100000
set_option maxHeartbeats 4000000
set_option linter.unusedSimpArgs false
set_option linter.unusedVariables false
section
theorem tm : Try.prog.follows .mixedOrders = true := by kernel_rfl
attribute [local simp] slice3A slice3C instA
theorem clones51_ok : FnC Try.prog 51 (cloneC 2 1 8) ∧ FnC Try.prog 52 (cloneC 5 1 1) ∧ FnC Try.prog 53 (cloneC 41 1 8) ∧ FnC Try.prog 54 (cloneC 116 3 48) ∧ FnC Try.prog 74 (cloneC 142 2 16) ∧ FnC Try.prog 75 (cloneC 145 4 32) ∧ FnC Try.prog 85 (cloneC 153 4 32) ∧ FnC Try.prog 86 (cloneC 9 1 16) := by
 refine ⟨FnC.ofV 51 (fn:=Try.f51) Try.func51 rfl (by kernel_rfl) fun args B r B' hS=>?_,FnC.ofV 52 (fn:=Try.f52) Try.func52 rfl (by kernel_rfl) fun args B r B' hS=>?_,FnC.ofV 53 (fn:=Try.f53) Try.func53 rfl (by kernel_rfl) fun args B r B' hS=>?_,FnC.ofV 54 (fn:=Try.f54) Try.func54 rfl (by kernel_rfl) fun args B r B' hS=>?_,FnC.ofV 74 (fn:=Try.f74) Try.func74 rfl (by kernel_rfl) fun args B r B' hS=>?_,FnC.ofV 75 (fn:=Try.f75) Try.func75 rfl (by kernel_rfl) fun args B r B' hS=>?_,FnC.ofV 85 (fn:=Try.f85) Try.func85 rfl (by kernel_rfl) fun args B r B' hS=>?_,FnC.ofV 86 (fn:=Try.f86) Try.func86 rfl (by kernel_rfl) fun args B r B' hS=>?_⟩
 all_goals
   unfold cloneC at hS
   split at hS
   · simp only [Option.some.injEq,Prod.mk.injEq] at hS
     obtain ⟨rfl,rfl⟩:=hS
     refine ⟨by simp, ?_⟩
     change V _ (RetM _ _ 0 _ _) _ _ ⟨8,[(0, .nils)],[]⟩
     repeat (first | refine YS ?_ | refine V.region tm no_specs rfl (by conv=>lhs; simp) fun _=>?_ | refine YL tm no_specs rfl (by conv=>lhs; simp) fun _=>?_)
     exact Ym [] []
   · rename_i s rows
     split at hS
     · rename_i hc
       obtain ⟨rfl,h1,h1',h2⟩:=hc
       simp only [Option.some.injEq,Prod.mk.injEq] at hS
       obtain ⟨rfl,rfl⟩:=hS
       refine ⟨by simp, ?_⟩
       change V _ (RetM _ _ 0 _ _) _ _ ⟨8,[(0, .list _ rows)],[]⟩
       cases rows with
       | nil =>
         refine V.nilCase (t:=0)  0 rfl rfl ?_ ?_
         · repeat (first | refine YU ?_ | refine V.region tm no_specs rfl (by conv=>lhs; simp) fun _=>?_ | refine YL tm no_specs rfl (by conv=>lhs; simp) fun _=>?_)
           refine YP (t:=2) 100 ?_
           repeat (first | refine YS ?_ | refine V.region tm no_specs rfl (by conv=>lhs; simp) fun _=>?_ | refine YL tm no_specs rfl (by conv=>lhs; simp) fun _=>?_)
           simp only [List.length_nil,rowB]
           exact Ym [100] [0]
         · repeat (first | refine YS ?_ | refine V.region tm no_specs rfl (by conv=>lhs; simp) fun _=>?_ | refine YL tm no_specs rfl (by conv=>lhs; simp) fun _=>?_)
           simp only [List.length_nil,rowB]
           exact Ym [96] [0]
       | cons x rows =>
         simp only [List.length_cons] at h1 h2 h1'
         try simp only [Nat.mul_one] at h1
         repeat (first | refine YS ?_ | refine V.region tm no_specs rfl (by conv=>lhs; simp [h1,h2,h1']) fun _=>?_ | refine YL tm no_specs rfl (by conv=>lhs; simp [h1,h2,h1']) fun _=>?_)
         simp only [List.length_cons,rowB]
         exact Ym [96] [0]
     · cases hS
   · rename_i len b
     split at hS
     · rename_i hc
       obtain ⟨hb,rfl,h1,h2⟩:=hc
       simp only [Option.some.injEq,Prod.mk.injEq] at hS
       obtain ⟨rfl,rfl⟩:=hS
       rw [okB_eq hb]
       generalize b.rows = rows at h1 h2 ⊢
       refine ⟨by simp, ?_⟩
       change V _ (RetM _ _ 1 _ _) _ _ ⟨8,[(0, .sl 0 0 0 rows.length)],[(0, { gen:=0,kind:=2,elem:=_,size:=_,inl:=true,rows })]⟩
       cases rows with
       | nil =>
         refine V.slNil (t:=0) 1 rfl rfl rfl rfl ?_ ?_
         · repeat (first | refine YU ?_ | refine V.region tm no_specs rfl (by conv=>lhs; simp) fun _=>?_ | refine YL tm no_specs rfl (by conv=>lhs; simp) fun _=>?_)
           refine YQ (t:=2) 100 ?_
           repeat (first | refine YS ?_ | refine V.region tm no_specs rfl (by conv=>lhs; simp) fun _=>?_ | refine YL tm no_specs rfl (by conv=>lhs; simp) fun _=>?_)
           simp only [List.length_nil,rowB]
           exact Ym [0,100] [0,0]
         · repeat (first | refine YS ?_ | refine V.region tm no_specs rfl (by conv=>lhs; simp) fun _=>?_ | refine YL tm no_specs rfl (by conv=>lhs; simp) fun _=>?_)
           simp only [List.length_nil,rowB]
           exact Ym [0,96] [0,0]
       | cons x rows =>
         simp only [List.length_cons] at h1 h2
         try simp only [Nat.mul_one] at h1
         repeat (first | refine YS ?_ | refine V.region tm no_specs rfl (by conv=>lhs; simp [h1,h2]) fun _=>?_ | refine YL tm no_specs rfl (by conv=>lhs; simp [h1,h2]) fun _=>?_)
         simp only [List.length_cons,rowB]
         exact Ym [0,96] [0,0]
     · cases hS
   · cases hS
theorem clone51_ok : FnC Try.prog 51 (cloneC 2 1 8) := clones51_ok.1
theorem clone52_ok : FnC Try.prog 52 (cloneC 5 1 1) := clones51_ok.2.1
theorem clone53_ok : FnC Try.prog 53 (cloneC 41 1 8) := clones51_ok.2.2.1
theorem clone54_ok : FnC Try.prog 54 (cloneC 116 3 48) := clones51_ok.2.2.2.1
theorem clone74_ok : FnC Try.prog 74 (cloneC 142 2 16) := clones51_ok.2.2.2.2.1
theorem clone75_ok : FnC Try.prog 75 (cloneC 145 4 32) := clones51_ok.2.2.2.2.2.1
theorem clone85_ok : FnC Try.prog 85 (cloneC 153 4 32) := clones51_ok.2.2.2.2.2.2.1
theorem clone86_ok : FnC Try.prog 86 (cloneC 9 1 16) := clones51_ok.2.2.2.2.2.2.2
theorem tdInj {β : Type} {t : TypeId} {f : Td Try.prog t → β} : ∀ x y : Td Try.prog t,[AV.agg x.cells] = [AV.agg y.cells] → f x = f y := fun x y h => by
 simp only [List.cons.injEq,AV.agg.injEq,and_true] at h
 rw [Td.ext h]
abbrev Prg := Td Try.prog 47
noncomputable def cprS : SpecFn := mkS (fun d : Prg => [.agg d.cells]) fun d => (.agg d.cells,[])
theorem cprS_eq (d : Prg) : cprS [.agg d.cells] [] = some (.agg d.cells,[]) := mkS_eq (enc := fun d : Prg => [AV.agg d.cells]) tdInj d
noncomputable def cpr_specs : NL Spec := [(85,⟨1,datS (cloneC 153 4 32)⟩),(86,⟨1,datS (cloneC 9 1 16)⟩)]
theorem cpr_specs_ok : ∀ p ∈ cpr_specs,FnC Try.prog p.1 p.2.fn := by
 simp only [cpr_specs,List.mem_cons,List.not_mem_nil,or_false]
 rintro p (rfl | rfl)
 · exact clone85_ok.dat
 · exact clone86_ok.dat
attribute [local simp] cpr_specs
theorem cpr_ok : FnC Try.prog 76 cprS := by
 refine FnC.walk 76 (fn:=Try.f76) Try.func76 rfl (by kernel_rfl) fun d=>?_
 obtain ⟨cs,ty,bd⟩:=d
 obtain ⟨x0,x1,x2,rfl, -, -, -⟩:=viewProgram ty
 simp only [bdL,bdV,Bool.and_eq_true,decide_eq_true_eq,Bool.and_true] at bd
 have c0:=datS_clone 153 4 32 x0 bd.1.1 (by decide)
 have c1:=datS_clone 9 1 16 x1 bd.2.1 (by decide)
 change W _ (Ret _ _ _ _) _ _ ⟨12,[(0, .agg [.list 4 x0, .list 1 x1, .int .i64 x2])],[]⟩
 repeat (first | refine ZS ?_ | refine ZK tm cpr_specs_ok rfl (by conv=>lhs; simp [c0,c1]) fun _=>?_ | refine ZL tm cpr_specs_ok rfl (by conv=>lhs; simp [c0,c1]) fun _=>?_)
 exact Yr
abbrev Prc := Td Try.prog 54
noncomputable def cpcS : SpecFn := mkS (fun d : Prc => [.agg d.cells]) fun d => (.agg d.cells,[])
theorem cpcS_eq (d : Prc) : cpcS [.agg d.cells] [] = some (.agg d.cells,[]) := mkS_eq (enc := fun d : Prc => [AV.agg d.cells]) tdInj d
noncomputable def cpc_specs : NL Spec := [(53,⟨1,datS (cloneC 41 1 8)⟩),(74,⟨1,datS (cloneC 142 2 16)⟩),(75,⟨1,datS (cloneC 145 4 32)⟩),(76,⟨1,cprS⟩)]
theorem cpc_specs_ok : ∀ p ∈ cpc_specs,FnC Try.prog p.1 p.2.fn := by
 simp only [cpc_specs,List.mem_cons,List.not_mem_nil,or_false]
 rintro p (rfl | rfl | rfl | rfl)
 · exact clone53_ok.dat
 · exact clone74_ok.dat
 · exact clone75_ok.dat
 · exact cpr_ok
attribute [local simp] cpc_specs
theorem cpc_ok : FnC Try.prog 50 cpcS := by
 refine FnC.walk 50 (fn:=Try.f50) Try.func50 rfl (by kernel_rfl) fun d=>?_
 obtain ⟨cs,ty,bd⟩:=d
 obtain ⟨x0,x1,x2,x3,x4,x5,x6,x7,x8,x9,rfl, -, -, -,h3,h4, -, -, -, -, -⟩:=viewProcess ty
 obtain ⟨y0,y1,y2,rfl, -, -, -⟩:=viewProgram h3
 obtain ⟨z0,z1,z2,z3,z4,z5,z6,z7,z8,rfl, -⟩:=viewCPU h4
 simp only [List.cons_append,List.nil_append,bdL,bdV,Bool.and_eq_true,decide_eq_true_eq,Bool.and_true,Bool.true_and,true_and] at bd
 have b3 : bdL 10000 [AV.list 4 y0,AV.list 1 y1,AV.int .i64 y2] = true:=by simp [bdL,bdV,bd]
 have cP:=cprS_eq ⟨_,h3,b3⟩
 have c2:=datS_clone 41 1 8 x2 (by simp [bd]) (by decide)
 have c5:=datS_clone 142 2 16 x5 (by simp [bd]) (by decide)
 have c6:=datS_clone 145 4 32 x6 (by simp [bd]) (by decide)
 dsimp only at cP
 change W _ (Ret _ _ (.agg [.int .i64 x0, .int .u64 x1, .list 1 x2, .list 4 y0, .list 1 y1, .int .i64 y2, .int .i64 z0, .int .i64 z1, .int .i64 z2, .int .i64 z3, .int .i64 z4, .int .i64 z5, .int .i64 z6, .int .i64 z7, .int .i64 z8, .list 2 x5, .list 4 x6, .int .i64 x7, .int .i64 x8, .int .i64 x9]) _) _ _ ⟨20,[(0, .agg [.int .i64 x0, .int .u64 x1, .list 1 x2, .list 4 y0, .list 1 y1, .int .i64 y2, .int .i64 z0, .int .i64 z1, .int .i64 z2, .int .i64 z3, .int .i64 z4, .int .i64 z5, .int .i64 z6, .int .i64 z7, .int .i64 z8, .list 2 x5, .list 4 x6, .int .i64 x7, .int .i64 x8, .int .i64 x9])],[]⟩
 repeat (first | refine ZS ?_ | refine ZK tm cpc_specs_ok rfl (by conv=>lhs; simp [cP,c2,c5,c6]) fun _=>?_ | refine ZL tm cpc_specs_ok rfl (by conv=>lhs; simp [cP,c2,c5,c6]) fun _=>?_)
 exact Yr
end
section
attribute [local simp] instA slice3A slice3C
abbrev Ob := Td Try.prog 60
noncomputable def cobS : SpecFn := mkS (fun d : Ob => [.agg d.cells]) fun d => (.agg d.cells,[])
theorem cobS_eq (d : Ob) : cobS [.agg d.cells] [] = some (.agg d.cells,[]) := mkS_eq (enc := fun d : Ob => [AV.agg d.cells]) tdInj d
noncomputable def cob_specs : NL Spec := [(53,⟨1,datS (cloneC 41 1 8)⟩),(51,⟨1,datS (cloneC 2 1 8)⟩),(52,⟨1,datS (cloneC 5 1 1)⟩),(54,⟨3,cloneC 116 3 48⟩),(50,⟨1,cpcS⟩)]
theorem cob_specs_ok : ∀ p ∈ cob_specs,FnC Try.prog p.1 p.2.fn := by
 simp only [cob_specs,List.mem_cons,List.not_mem_nil,or_false]
 rintro p (rfl | rfl | rfl | rfl | rfl)
 · exact clone53_ok.dat
 · exact clone51_ok.dat
 · exact clone52_ok.dat
 · exact clone54_ok
 · exact cpc_ok
attribute [local simp] cob_specs
theorem nameRow {r : List AV} (h : TyR Try.prog 8 116 r) (b : bdL 10000 r = true) : ∃ s n ids,r = [.str s, .int .i64 n, .list 1 ids] ∧ ids.length ≤ 10000 := by
 obtain ⟨s,n,ids,rfl, -, -⟩:=viewName h
 simp only [bdL,bdV,Bool.and_eq_true,decide_eq_true_eq,Bool.and_true,Bool.true_and,true_and] at b
 exact ⟨s,n,ids,rfl,b.1⟩
theorem get_lt {α : Type} {l : List α} {i : Nat} (h : i < l.length) : ∃ x,l[i]? = some x := ⟨_,List.getElem?_eq_getElem h⟩
theorem w64 {a : Int} (h1 : -9223372036854775808 ≤ a) (h2 : a ≤ 9223372036854775807) : IntKind.i64.wrap a = a := by
 simp [IntKind.wrap,IntKind.bits,IntKind.signed]; omega
theorem set_self {α : Type} {l : List α} {k : Nat} {x : α} (h : l[k]? = some x) : l.set k x = l := by
 apply List.ext_getElem?
 intro i
 rw [List.getElem?_set]
 split
 · rename_i e; subst e
   split
   · exact h.symm
   · rename_i e2; exact absurd (List.getElem?_eq_some_iff.1 h).1 e2
 · rfl
theorem capT {n : Nat} (h : n ≤ 10000) : n ≤ maxLen := by simp only [maxLen]; omega
def zO : List AV := [.int .u64 0, .int .i64 0, .int .i64 0, .int .i64 0, .int .u64 0, .nils, .nils, .nils, .int .i64 0, .int .i64 0, .int .i64 0, .int .i64 0, .int .i64 0, .int .i64 0, .int .i64 0, .int .i64 0, .int .i64 0, .int .i64 0, .nils, .nils, .int .i64 0, .int .i64 0, .int .i64 0, .nils, .nils, .int .i64 0, .int .u64 0, .int .i64 0, .int .i64 0, .nils, .nils, .nils, .int .i64 0, .int .i64 0, .int .i64 0, .nils]
def zOB : ABlk := { gen := 1,kind := 2,elem := 60,size := 36,inl := false,rows := [zO] }
def nmB (rows : List (List AV)) : ABlk := { gen := 1,kind := 2,elem := 116,size := 3,inl := true,rows }
theorem cob_ok : FnC Try.prog 24 cobS := by
 refine FnC.walk 24 (fn:=Try.f24) Try.func24 rfl (by kernel_rfl) fun d=>?_
 obtain ⟨cs,ty,bd⟩:=d
 obtain ⟨x0,x1,x2,xp,x4,x5,x6,x7,x8,x9,x10,x11,x12,x13,x14,x15,x16,rfl, -, -, -,hp, -, -, -, -, -, -, -, -, -, -, -, -,h16⟩:=viewObject ty
 have bp : bdL 10000 xp = true:=by simp only [bdL,bdV,bdL_append,Bool.and_eq_true,Bool.true_and,true_and] at bd; exact bd.1
 have cP:=cpcS_eq ⟨xp,hp,bp⟩
 obtain ⟨p0,p1,p2,p3,p4,p5,p6,p7,p8,p9,rfl, -, -, -,h3,h4, -, -, -, -, -⟩:=viewProcess hp
 obtain ⟨q0,q1,q2,rfl, -, -, -⟩:=viewProgram h3
 obtain ⟨z0,z1,z2,z3,z4,z5,z6,z7,z8,rfl, -⟩:=viewCPU h4
 simp only [List.cons_append,List.nil_append,bdL,bdV,Bool.and_eq_true,decide_eq_true_eq,Bool.and_true,Bool.true_and,true_and] at bd
 simp only [List.cons_append,List.nil_append] at cP
 have c4:=datS_clone 2 1 8 x4 (by simp [bd]) (by decide)
 have c5:=datS_clone 5 1 1 x5 (by simp [bd]) (by decide)
 have c10:=datS_clone 41 1 8 x10 (by simp [bd]) (by decide)
 have c11:=datS_clone 5 1 1 x11 (by simp [bd]) (by decide)
 have c12:=datS_clone 5 1 1 x12 (by simp [bd]) (by decide)
 have l16 : x16.length ≤ 10000:=by simp [bd]
 have r16 : ∀ r ∈ x16,bdL 10000 r = true:=fun r hr=>bdRows_mem (by simp [bd]) hr
 have c16 : cloneC 116 3 48 [.list 3 x16] [] = some (.sl 0 0 0 x16.length,[{ gen:=0,kind:=2,elem:=116,size:=3,inl:=true,rows:=x16 }]):=by
   have e1 : x16.length * 48 ≤ 140737488355328:=by omega
   have e2 : x16.length ≤ 9223372036854775807:=by omega
   simp [cloneC,e1,e2,capT l16,rowB]
 change W _ (Ret _ _ (.agg [.int .u64 x0, .int .i64 x1, .int .i64 x2, .int .i64 p0, .int .u64 p1, .list 1 p2, .list 4 q0, .list 1 q1, .int .i64 q2, .int .i64 z0, .int .i64 z1, .int .i64 z2, .int .i64 z3, .int .i64 z4, .int .i64 z5, .int .i64 z6, .int .i64 z7, .int .i64 z8, .list 2 p5, .list 4 p6, .int .i64 p7, .int .i64 p8, .int .i64 p9, .list 1 x4, .list 1 x5, .int .i64 x6, .int .u64 x7, .int .i64 x8, .int .i64 x9, .list 1 x10, .list 1 x11, .list 1 x12, .int .i64 x13, .int .i64 x14, .int .i64 x15, .list 3 x16]) []) _ _ ⟨57,[(0, .agg [.int .u64 x0, .int .i64 x1, .int .i64 x2, .int .i64 p0, .int .u64 p1, .list 1 p2, .list 4 q0, .list 1 q1, .int .i64 q2, .int .i64 z0, .int .i64 z1, .int .i64 z2, .int .i64 z3, .int .i64 z4, .int .i64 z5, .int .i64 z6, .int .i64 z7, .int .i64 z8, .list 2 p5, .list 4 p6, .int .i64 p7, .int .i64 p8, .int .i64 p9, .list 1 x4, .list 1 x5, .int .i64 x6, .int .u64 x7, .int .i64 x8, .int .i64 x9, .list 1 x10, .list 1 x11, .list 1 x12, .int .i64 x13, .int .i64 x14, .int .i64 x15, .list 3 x16])],[]⟩
 dsimp only
 clear bd bp hp ty
 repeat (first | refine ZS ?_ | refine ZK tm cob_specs_ok rfl (by conv=>lhs; simp [cP,c4,c5,c10]) fun _=>?_ | refine ZL tm cob_specs_ok rfl (by conv=>lhs; simp [cP,c4,c5,c10]) fun _=>?_)
 refine W.loop rfl (ι:={ q : Nat × NL ABlk // q.1 ≤ 2 ∧ lk q.2 32 = some { gen:=1,kind:=2,elem:=60,size:=36,inl:=false,rows:=[[.int .u64 x0, .int .i64 x1, .int .i64 x2, .int .i64 p0, .int .u64 p1, .list 1 p2, .list 4 q0, .list 1 q1, .int .i64 q2, .int .i64 z0, .int .i64 z1, .int .i64 z2, .int .i64 z3, .int .i64 z4, .int .i64 z5, .int .i64 z6, .int .i64 z7, .int .i64 z8, .list 2 p5, .list 4 p6, .int .i64 p7, .int .i64 p8, .int .i64 p9, .list 1 x4, .list 1 x5, .int .i64 x6, .int .u64 x7, .int .i64 x8, .int .i64 x9, .list 1 x10, .list 1 x11, .list 1 x12, .int .i64 x13, .int .i64 x14, .int .i64 x15, .list 3 x16]] } ∧ lk q.2 48 = some zOB ∧ lk q.2 608 = none })
   (fun q=>⟨57,[(1, .ptr 32 1 0 0),(2, .ptr 48 1 0 0),(24, .agg [.list 1 x11, .list 1 x12]),(25, .int .i64 (q.1.1 : Nat))],q.1.2⟩) (fun q=>2 - q.1.1)
   ⟨(0,_),by simp,by rfl,by rfl,by rfl⟩ (AS.le_of rfl ⟨rfl,rfl,rfl,rfl,trivial⟩ (fun _=>rfl)) ?_
 rintro ⟨⟨k,h⟩,hk,h1,h2,h3⟩
 dsimp only at hk h1 h2 h3 ⊢
 by_cases hk2 : k = 2
 · subst hk2
   have g1 : ((lk h 608).getD {}).gen + 1 = 1:=by rw [h3]; rfl
   repeat (first | refine ZS ?_ | refine ZK tm cob_specs_ok rfl (by conv=>lhs; simp [h1,h2,zOB,zO,c16]) fun _=>?_ | refine ZL tm cob_specs_ok rfl (by conv=>lhs; simp [h1,h2,zOB,zO,c16]) fun _=>?_)
   refine W.loop rfl (ι:={ q : Nat × NL ABlk // q.1 ≤ x16.length ∧ lk q.2 32 = some { gen:=1,kind:=2,elem:=60,size:=36,inl:=false,rows:=[[.int .u64 x0, .int .i64 x1, .int .i64 x2, .int .i64 p0, .int .u64 p1, .list 1 p2, .list 4 q0, .list 1 q1, .int .i64 q2, .int .i64 z0, .int .i64 z1, .int .i64 z2, .int .i64 z3, .int .i64 z4, .int .i64 z5, .int .i64 z6, .int .i64 z7, .int .i64 z8, .list 2 p5, .list 4 p6, .int .i64 p7, .int .i64 p8, .int .i64 p9, .list 1 x4, .list 1 x5, .int .i64 x6, .int .u64 x7, .int .i64 x8, .int .i64 x9, .list 1 x10, .list 1 x11, .list 1 x12, .int .i64 x13, .int .i64 x14, .int .i64 x15, .sl 608 1 0 x16.length]] } ∧ lk q.2 48 = some zOB ∧ lk q.2 608 = some (nmB x16) })
     (fun q=>⟨57,[(1, .ptr 32 1 0 0),(2, .ptr 48 1 0 0),(40, .sl 608 1 0 x16.length),(41, .int .i64 x16.length),(42, .int .i64 (q.1.1 : Nat))],q.1.2⟩) (fun q=>x16.length - q.1.1)
     ⟨(0,_),by simp,by simp [lk_st,h1,h3],by simp [lk_st,h2],by simp [lk_st,nmB,h3]⟩ (AS.le_of rfl ⟨rfl,rfl,by simp [lk,h3],rfl,rfl,trivial⟩ (fun _=>rfl)) ?_
   clear g1 h1 h2 h3 hk h
   rintro ⟨⟨k,h⟩,hk,h1,h2,h3⟩
   dsimp only at hk h1 h2 h3 ⊢
   by_cases hk2 : k = x16.length
   · subst hk2
     repeat (first | refine ZS ?_ | refine ZK tm cob_specs_ok rfl (by conv=>lhs; simp [h1,h2,h3,zOB,zO,nmB]) fun _=>?_ | refine ZL tm cob_specs_ok rfl (by conv=>lhs; simp [h1,h2,h3,zOB,zO,nmB]) fun _=>?_)
     exact Yr (h1:=by conv=>lhs; simp [h3,nmB]) (h2:=by conv=>lhs; simp [h3,nmB])
   · have hlt : k < x16.length:=by omega
     obtain ⟨r,hr⟩:=get_lt hlt
     have hm:=List.mem_of_getElem? hr
     obtain ⟨s,n,ids,rfl,hi⟩:=nameRow (h16 r hm) (r16 r hm)
     have cI:=datS_clone 41 1 8 ids hi (by decide)
     have q1 : (k : Int) < x16.length:=by omega
     have q2 : ¬ x16.length ≤ k:=by omega
     have hw : IntKind.i64.wrap ((k : Int) + 1) = ((k + 1 : Nat) : Int):=w64 (by omega) (by omega)
     have hs:=set_self hr
     repeat (first | refine ZS ?_ | refine ZK tm cob_specs_ok rfl (by conv=>lhs; simp [h1,h2,h3,nmB,q1,q2,hr,cI,hw,hs]) fun _=>?_ | refine ZL tm cob_specs_ok rfl (by conv=>lhs; simp [h1,h2,h3,nmB,q1,q2,hr,cI,hw,hs]) fun _=>?_)
     exact ⟨⟨(k + 1,_),hlt,by simp [lk_st,h1],by simp [lk_st,h2],by simp [lk_st,nmB,h3,hs]⟩,by dsimp only; omega,AS.le_of rfl ⟨rfl,rfl,rfl,rfl,rfl,trivial⟩ (fun _=>rfl)⟩
 · have hk3 : k = 0 ∨ k = 1:=by omega
   rcases hk3 with rfl | rfl
   · repeat (first | refine ZS ?_ | refine ZK tm cob_specs_ok rfl (by conv=>lhs; simp [h1,h2,c11]) fun _=>?_ | refine ZL tm cob_specs_ok rfl (by conv=>lhs; simp [h1,h2,c11]) fun _=>?_)
     exact ⟨⟨(1,_),by simp,by simp [lk_st,h1],by simp [lk_st,h2],by simp [lk_st,h3]⟩,by simp,AS.le_of rfl ⟨rfl,rfl,rfl,rfl,trivial⟩ (fun _=>rfl)⟩
   · repeat (first | refine ZS ?_ | refine ZK tm cob_specs_ok rfl (by conv=>lhs; simp [h1,h2,c12]) fun _=>?_ | refine ZL tm cob_specs_ok rfl (by conv=>lhs; simp [h1,h2,c12]) fun _=>?_)
     exact ⟨⟨(2,_),by simp,by simp [lk_st,h1],by simp [lk_st,h2],by simp [lk_st,h3]⟩,by simp,AS.le_of rfl ⟨rfl,rfl,rfl,rfl,trivial⟩ (fun _=>rfl)⟩
end
end Go.Abs.Np
