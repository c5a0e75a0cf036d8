/- Facts about types. Conditions: none. -/
import Derived.Test.YtlakgienobmpbaaGreatAb8
import Derived.Test.YtlakgienobmpbaaGreatProg
import Derived.KernelRfl
namespace Go.Abs.Nz
open Go Go.Proofs Go.Abs
set_option maxRecDepth 100000
@[simp] theorem sz0 : szOf Tryz.prog 0 = some 1 := by kernel_rfl
@[simp] theorem ag0 : aggT Tryz.prog 0 = some false := by kernel_rfl
@[simp] theorem sz1 : szOf Tryz.prog 1 = some 1 := by kernel_rfl
@[simp] theorem ag1 : aggT Tryz.prog 1 = some false := by kernel_rfl
@[simp] theorem zz1 : zeroA Tryz.prog 1 = some (.nilf) := by kernel_rfl
@[simp] theorem sz2 : szOf Tryz.prog 2 = some 1 := by kernel_rfl
@[simp] theorem ag2 : aggT Tryz.prog 2 = some false := by kernel_rfl
@[simp] theorem zz2 : zeroA Tryz.prog 2 = some (.int .i64 0) := by kernel_rfl
@[simp] theorem sz3 : szOf Tryz.prog 3 = some 1 := by kernel_rfl
@[simp] theorem ag3 : aggT Tryz.prog 3 = some false := by kernel_rfl
@[simp] theorem zz3 : zeroA Tryz.prog 3 = some (.int .i64 0) := by kernel_rfl
@[simp] theorem sz4 : szOf Tryz.prog 4 = some 1 := by kernel_rfl
@[simp] theorem ag4 : aggT Tryz.prog 4 = some false := by kernel_rfl
@[simp] theorem zz4 : zeroA Tryz.prog 4 = some (.bool false) := by kernel_rfl
@[simp] theorem sz5 : szOf Tryz.prog 5 = some 1 := by kernel_rfl
@[simp] theorem ag5 : aggT Tryz.prog 5 = some false := by kernel_rfl
@[simp] theorem zz5 : zeroA Tryz.prog 5 = some (.int .u8 0) := by kernel_rfl
@[simp] theorem sz6 : szOf Tryz.prog 6 = some 1 := by kernel_rfl
@[simp] theorem ag6 : aggT Tryz.prog 6 = some false := by kernel_rfl
@[simp] theorem zz6 : zeroA Tryz.prog 6 = some (.int .u8 0) := by kernel_rfl
@[simp] theorem sz7 : szOf Tryz.prog 7 = some 4 := by kernel_rfl
@[simp] theorem ag7 : aggT Tryz.prog 7 = some true := by kernel_rfl
@[simp] theorem zz7 : zeroA Tryz.prog 7 = some (.agg [.int .i64 0, .int .i64 0, .bool false, .int .u8 0]) := by kernel_rfl
@[simp] theorem sz8 : szOf Tryz.prog 8 = some 4 := by kernel_rfl
@[simp] theorem ag8 : aggT Tryz.prog 8 = some true := by kernel_rfl
@[simp] theorem zz8 : zeroA Tryz.prog 8 = some (.agg [.int .i64 0, .int .i64 0, .bool false, .int .u8 0]) := by kernel_rfl
@[simp] theorem sz9 : szOf Tryz.prog 9 = some 1 := by kernel_rfl
@[simp] theorem ag9 : aggT Tryz.prog 9 = some false := by kernel_rfl
@[simp] theorem zz9 : zeroA Tryz.prog 9 = some (.str ByteArray.empty) := by kernel_rfl
@[simp] theorem sz10 : szOf Tryz.prog 10 = some 1 := by kernel_rfl
@[simp] theorem ag10 : aggT Tryz.prog 10 = some false := by kernel_rfl
@[simp] theorem zz10 : zeroA Tryz.prog 10 = some (.str ByteArray.empty) := by kernel_rfl
@[simp] theorem sz11 : szOf Tryz.prog 11 = some 1 := by kernel_rfl
@[simp] theorem ag11 : aggT Tryz.prog 11 = some false := by kernel_rfl
@[simp] theorem zz11 : zeroA Tryz.prog 11 = some (.str ByteArray.empty) := by kernel_rfl
@[simp] theorem sz12 : szOf Tryz.prog 12 = some 1 := by kernel_rfl
@[simp] theorem ag12 : aggT Tryz.prog 12 = some false := by kernel_rfl
@[simp] theorem zz12 : zeroA Tryz.prog 12 = some (.int .u64 0) := by kernel_rfl
@[simp] theorem sz13 : szOf Tryz.prog 13 = some 2 := by kernel_rfl
@[simp] theorem ag13 : aggT Tryz.prog 13 = some true := by kernel_rfl
@[simp] theorem zz13 : zeroA Tryz.prog 13 = some (.agg [.str ByteArray.empty, .int .u64 0]) := by kernel_rfl
@[simp] theorem sz14 : szOf Tryz.prog 14 = some 2 := by kernel_rfl
@[simp] theorem ag14 : aggT Tryz.prog 14 = some true := by kernel_rfl
@[simp] theorem zz14 : zeroA Tryz.prog 14 = some (.agg [.str ByteArray.empty, .int .u64 0]) := by kernel_rfl
@[simp] theorem sz15 : szOf Tryz.prog 15 = some 1 := by kernel_rfl
@[simp] theorem ag15 : aggT Tryz.prog 15 = some false := by kernel_rfl
@[simp] theorem zz15 : zeroA Tryz.prog 15 = some (.nilp) := by kernel_rfl
@[simp] theorem sz16 : szOf Tryz.prog 16 = some 1 := by kernel_rfl
@[simp] theorem ag16 : aggT Tryz.prog 16 = some false := by kernel_rfl
@[simp] theorem zz16 : zeroA Tryz.prog 16 = some (.nilp) := by kernel_rfl
@[simp] theorem sz17 : szOf Tryz.prog 17 = some 1 := by kernel_rfl
@[simp] theorem ag17 : aggT Tryz.prog 17 = some false := by kernel_rfl
@[simp] theorem zz17 : zeroA Tryz.prog 17 = some (.nilp) := by kernel_rfl
@[simp] theorem sz18 : szOf Tryz.prog 18 = some 1 := by kernel_rfl
@[simp] theorem ag18 : aggT Tryz.prog 18 = some true := by kernel_rfl
@[simp] theorem zz18 : zeroA Tryz.prog 18 = some (.agg [.nilp]) := by kernel_rfl
@[simp] theorem sz19 : szOf Tryz.prog 19 = some 1 := by kernel_rfl
@[simp] theorem ag19 : aggT Tryz.prog 19 = some true := by kernel_rfl
@[simp] theorem zz19 : zeroA Tryz.prog 19 = some (.agg [.nilp]) := by kernel_rfl
@[simp] theorem sz20 : szOf Tryz.prog 20 = some 1 := by kernel_rfl
@[simp] theorem ag20 : aggT Tryz.prog 20 = some false := by kernel_rfl
@[simp] theorem sz21 : szOf Tryz.prog 21 = some 1 := by kernel_rfl
@[simp] theorem ag21 : aggT Tryz.prog 21 = some false := by kernel_rfl
@[simp] theorem zz21 : zeroA Tryz.prog 21 = some (.int .i32 0) := by kernel_rfl
@[simp] theorem sz22 : szOf Tryz.prog 22 = some 1 := by kernel_rfl
@[simp] theorem ag22 : aggT Tryz.prog 22 = some false := by kernel_rfl
@[simp] theorem zz22 : zeroA Tryz.prog 22 = some (.nils) := by kernel_rfl
@[simp] theorem sz23 : szOf Tryz.prog 23 = some 1 := by kernel_rfl
@[simp] theorem ag23 : aggT Tryz.prog 23 = some true := by kernel_rfl
@[simp] theorem zz23 : zeroA Tryz.prog 23 = some (.agg [.nils]) := by kernel_rfl
@[simp] theorem sz24 : szOf Tryz.prog 24 = some 1 := by kernel_rfl
@[simp] theorem ag24 : aggT Tryz.prog 24 = some true := by kernel_rfl
@[simp] theorem zz24 : zeroA Tryz.prog 24 = some (.agg [.nils]) := by kernel_rfl
@[simp] theorem sz25 : szOf Tryz.prog 25 = some 1 := by kernel_rfl
@[simp] theorem ag25 : aggT Tryz.prog 25 = some false := by kernel_rfl
@[simp] theorem zz25 : zeroA Tryz.prog 25 = some (.nils) := by kernel_rfl
@[simp] theorem sz26 : szOf Tryz.prog 26 = some 1 := by kernel_rfl
@[simp] theorem ag26 : aggT Tryz.prog 26 = some false := by kernel_rfl
@[simp] theorem zz26 : zeroA Tryz.prog 26 = some (.int .u64 0) := by kernel_rfl
@[simp] theorem sz27 : szOf Tryz.prog 27 = some 1 := by kernel_rfl
@[simp] theorem ag27 : aggT Tryz.prog 27 = some false := by kernel_rfl
@[simp] theorem zz27 : zeroA Tryz.prog 27 = some (.nils) := by kernel_rfl
@[simp] theorem sz28 : szOf Tryz.prog 28 = some 1 := by kernel_rfl
@[simp] theorem ag28 : aggT Tryz.prog 28 = some false := by kernel_rfl
@[simp] theorem zz28 : zeroA Tryz.prog 28 = some (.nils) := by kernel_rfl
@[simp] theorem sz29 : szOf Tryz.prog 29 = some 1 := by kernel_rfl
@[simp] theorem ag29 : aggT Tryz.prog 29 = some false := by kernel_rfl
@[simp] theorem zz29 : zeroA Tryz.prog 29 = some (.nils) := by kernel_rfl
@[simp] theorem sz30 : szOf Tryz.prog 30 = some 3 := by kernel_rfl
@[simp] theorem ag30 : aggT Tryz.prog 30 = some true := by kernel_rfl
@[simp] theorem zz30 : zeroA Tryz.prog 30 = some (.agg [.nils, .nils, .int .i64 0]) := by kernel_rfl
@[simp] theorem sz31 : szOf Tryz.prog 31 = some 3 := by kernel_rfl
@[simp] theorem ag31 : aggT Tryz.prog 31 = some true := by kernel_rfl
@[simp] theorem zz31 : zeroA Tryz.prog 31 = some (.agg [.nils, .nils, .int .i64 0]) := by kernel_rfl
@[simp] theorem sz32 : szOf Tryz.prog 32 = some 8 := by kernel_rfl
@[simp] theorem ag32 : aggT Tryz.prog 32 = some true := by kernel_rfl
@[simp] theorem zz32 : zeroA Tryz.prog 32 = some (.agg [.int .i64 0, .int .i64 0, .int .i64 0, .int .i64 0, .int .i64 0, .int .i64 0, .int .i64 0, .int .i64 0]) := by kernel_rfl
@[simp] theorem sz33 : szOf Tryz.prog 33 = some 9 := by kernel_rfl
@[simp] theorem ag33 : aggT Tryz.prog 33 = some true := by kernel_rfl
@[simp] theorem zz33 : zeroA Tryz.prog 33 = some (.agg [.int .i64 0, .int .i64 0, .int .i64 0, .int .i64 0, .int .i64 0, .int .i64 0, .int .i64 0, .int .i64 0, .int .i64 0]) := by kernel_rfl
@[simp] theorem sz34 : szOf Tryz.prog 34 = some 9 := by kernel_rfl
@[simp] theorem ag34 : aggT Tryz.prog 34 = some true := by kernel_rfl
@[simp] theorem zz34 : zeroA Tryz.prog 34 = some (.agg [.int .i64 0, .int .i64 0, .int .i64 0, .int .i64 0, .int .i64 0, .int .i64 0, .int .i64 0, .int .i64 0, .int .i64 0]) := by kernel_rfl
@[simp] theorem sz35 : szOf Tryz.prog 35 = some 1 := by kernel_rfl
@[simp] theorem ag35 : aggT Tryz.prog 35 = some false := by kernel_rfl
@[simp] theorem zz35 : zeroA Tryz.prog 35 = some (.nils) := by kernel_rfl
@[simp] theorem sz36 : szOf Tryz.prog 36 = some 1 := by kernel_rfl
@[simp] theorem ag36 : aggT Tryz.prog 36 = some false := by kernel_rfl
@[simp] theorem zz36 : zeroA Tryz.prog 36 = some (.nils) := by kernel_rfl
@[simp] theorem sz37 : szOf Tryz.prog 37 = some 20 := by kernel_rfl
@[simp] theorem ag37 : aggT Tryz.prog 37 = some true := by kernel_rfl
@[simp] theorem zz37 : zeroA Tryz.prog 37 = some (.agg [.int .i64 0, .int .u64 0, .nils, .nils, .nils, .int .i64 0, .int .i64 0, .int .i64 0, .int .i64 0, .int .i64 0, .int .i64 0, .int .i64 0, .int .i64 0, .int .i64 0, .int .i64 0, .nils, .nils, .int .i64 0, .int .i64 0, .int .i64 0]) := by kernel_rfl
@[simp] theorem sz38 : szOf Tryz.prog 38 = some 20 := by kernel_rfl
@[simp] theorem ag38 : aggT Tryz.prog 38 = some true := by kernel_rfl
@[simp] theorem zz38 : zeroA Tryz.prog 38 = some (.agg [.int .i64 0, .int .u64 0, .nils, .nils, .nils, .int .i64 0, .int .i64 0, .int .i64 0, .int .i64 0, .int .i64 0, .int .i64 0, .int .i64 0, .int .i64 0, .int .i64 0, .int .i64 0, .nils, .nils, .int .i64 0, .int .i64 0, .int .i64 0]) := by kernel_rfl
@[simp] theorem sz39 : szOf Tryz.prog 39 = some 1 := by kernel_rfl
@[simp] theorem ag39 : aggT Tryz.prog 39 = some false := by kernel_rfl
@[simp] theorem zz39 : zeroA Tryz.prog 39 = some (.nils) := by kernel_rfl
@[simp] theorem sz40 : szOf Tryz.prog 40 = some 2 := by kernel_rfl
@[simp] theorem ag40 : aggT Tryz.prog 40 = some true := by kernel_rfl
@[simp] theorem zz40 : zeroA Tryz.prog 40 = some (.agg [.nils, .nils]) := by kernel_rfl
@[simp] theorem sz41 : szOf Tryz.prog 41 = some 2 := by kernel_rfl
@[simp] theorem ag41 : aggT Tryz.prog 41 = some true := by kernel_rfl
@[simp] theorem zz41 : zeroA Tryz.prog 41 = some (.agg [.int .i64 0, .int .i64 0]) := by kernel_rfl
@[simp] theorem sz42 : szOf Tryz.prog 42 = some 1 := by kernel_rfl
@[simp] theorem ag42 : aggT Tryz.prog 42 = some false := by kernel_rfl
@[simp] theorem zz42 : zeroA Tryz.prog 42 = some (.nils) := by kernel_rfl
@[simp] theorem sz43 : szOf Tryz.prog 43 = some 36 := by kernel_rfl
@[simp] theorem ag43 : aggT Tryz.prog 43 = some true := by kernel_rfl
@[simp] theorem zz43 : zeroA Tryz.prog 43 = some (.agg [.int .u64 0, .int .i64 0, .int .i64 0, .int .i64 0, .int .u64 0, .nils, .nils, .nils, .int .i64 0, .int .i64 0, .int .i64 0, .int .i64 0, .int .i64 0, .int .i64 0, .int .i64 0, .int .i64 0, .int .i64 0, .int .i64 0, .nils, .nils, .int .i64 0, .int .i64 0, .int .i64 0, .nils, .nils, .int .i64 0, .int .u64 0, .int .i64 0, .int .i64 0, .nils, .nils, .nils, .int .i64 0, .int .i64 0, .int .i64 0, .nils]) := by kernel_rfl
@[simp] theorem sz44 : szOf Tryz.prog 44 = some 36 := by kernel_rfl
@[simp] theorem ag44 : aggT Tryz.prog 44 = some true := by kernel_rfl
@[simp] theorem zz44 : zeroA Tryz.prog 44 = some (.agg [.int .u64 0, .int .i64 0, .int .i64 0, .int .i64 0, .int .u64 0, .nils, .nils, .nils, .int .i64 0, .int .i64 0, .int .i64 0, .int .i64 0, .int .i64 0, .int .i64 0, .int .i64 0, .int .i64 0, .int .i64 0, .int .i64 0, .nils, .nils, .int .i64 0, .int .i64 0, .int .i64 0, .nils, .nils, .int .i64 0, .int .u64 0, .int .i64 0, .int .i64 0, .nils, .nils, .nils, .int .i64 0, .int .i64 0, .int .i64 0, .nils]) := by kernel_rfl
@[simp] theorem sz45 : szOf Tryz.prog 45 = some 45 := by kernel_rfl
@[simp] theorem ag45 : aggT Tryz.prog 45 = some true := by kernel_rfl
@[simp] theorem zz45 : zeroA Tryz.prog 45 = some (.agg [.int .i64 0, .int .i64 0, .int .i64 0, .int .u64 0, .int .i64 0, .int .u64 0, .int .i64 0, .int .i64 0, .int .i64 0, .int .u64 0, .nils, .nils, .nils, .int .i64 0, .int .i64 0, .int .i64 0, .int .i64 0, .int .i64 0, .int .i64 0, .int .i64 0, .int .i64 0, .int .i64 0, .int .i64 0, .nils, .nils, .int .i64 0, .int .i64 0, .int .i64 0, .nils, .nils, .int .i64 0, .int .u64 0, .int .i64 0, .int .i64 0, .nils, .nils, .nils, .int .i64 0, .int .i64 0, .int .i64 0, .nils, .int .u64 0, .int .i64 0, .int .u64 0, .int .i64 0]) := by kernel_rfl
@[simp] theorem sz46 : szOf Tryz.prog 46 = some 45 := by kernel_rfl
@[simp] theorem ag46 : aggT Tryz.prog 46 = some true := by kernel_rfl
@[simp] theorem zz46 : zeroA Tryz.prog 46 = some (.agg [.int .i64 0, .int .i64 0, .int .i64 0, .int .u64 0, .int .i64 0, .int .u64 0, .int .i64 0, .int .i64 0, .int .i64 0, .int .u64 0, .nils, .nils, .nils, .int .i64 0, .int .i64 0, .int .i64 0, .int .i64 0, .int .i64 0, .int .i64 0, .int .i64 0, .int .i64 0, .int .i64 0, .int .i64 0, .nils, .nils, .int .i64 0, .int .i64 0, .int .i64 0, .nils, .nils, .int .i64 0, .int .u64 0, .int .i64 0, .int .i64 0, .nils, .nils, .nils, .int .i64 0, .int .i64 0, .int .i64 0, .nils, .int .u64 0, .int .i64 0, .int .u64 0, .int .i64 0]) := by kernel_rfl
@[simp] theorem sz47 : szOf Tryz.prog 47 = some 1 := by kernel_rfl
@[simp] theorem ag47 : aggT Tryz.prog 47 = some false := by kernel_rfl
@[simp] theorem zz47 : zeroA Tryz.prog 47 = some (.nilf) := by kernel_rfl
@[simp] theorem sz48 : szOf Tryz.prog 48 = some 1 := by kernel_rfl
@[simp] theorem ag48 : aggT Tryz.prog 48 = some false := by kernel_rfl
@[simp] theorem zz48 : zeroA Tryz.prog 48 = some (.nilf) := by kernel_rfl
@[simp] theorem sz49 : szOf Tryz.prog 49 = some 1 := by kernel_rfl
@[simp] theorem ag49 : aggT Tryz.prog 49 = some false := by kernel_rfl
@[simp] theorem zz49 : zeroA Tryz.prog 49 = some (.nilf) := by kernel_rfl
@[simp] theorem sz50 : szOf Tryz.prog 50 = some 1 := by kernel_rfl
@[simp] theorem ag50 : aggT Tryz.prog 50 = some false := by kernel_rfl
@[simp] theorem zz50 : zeroA Tryz.prog 50 = some (.nilp) := by kernel_rfl
@[simp] theorem sz51 : szOf Tryz.prog 51 = some 1 := by kernel_rfl
@[simp] theorem ag51 : aggT Tryz.prog 51 = some false := by kernel_rfl
@[simp] theorem sz52 : szOf Tryz.prog 52 = some 1 := by kernel_rfl
@[simp] theorem ag52 : aggT Tryz.prog 52 = some false := by kernel_rfl
@[simp] theorem zz52 : zeroA Tryz.prog 52 = some (.nilf) := by kernel_rfl
@[simp] theorem sz53 : szOf Tryz.prog 53 = some 1 := by kernel_rfl
@[simp] theorem ag53 : aggT Tryz.prog 53 = some false := by kernel_rfl
@[simp] theorem zz53 : zeroA Tryz.prog 53 = some (.nilf) := by kernel_rfl
@[simp] theorem sz54 : szOf Tryz.prog 54 = some 1 := by kernel_rfl
@[simp] theorem ag54 : aggT Tryz.prog 54 = some false := by kernel_rfl
@[simp] theorem zz54 : zeroA Tryz.prog 54 = some (.nils) := by kernel_rfl
@[simp] theorem sz55 : szOf Tryz.prog 55 = some 1 := by kernel_rfl
@[simp] theorem ag55 : aggT Tryz.prog 55 = some false := by kernel_rfl
@[simp] theorem zz55 : zeroA Tryz.prog 55 = some (.nils) := by kernel_rfl
@[simp] theorem sz56 : szOf Tryz.prog 56 = some 1 := by kernel_rfl
@[simp] theorem ag56 : aggT Tryz.prog 56 = some false := by kernel_rfl
@[simp] theorem zz56 : zeroA Tryz.prog 56 = some (.int .i64 0) := by kernel_rfl
@[simp] theorem sz57 : szOf Tryz.prog 57 = some 1 := by kernel_rfl
@[simp] theorem ag57 : aggT Tryz.prog 57 = some false := by kernel_rfl
@[simp] theorem sz58 : szOf Tryz.prog 58 = some 1 := by kernel_rfl
@[simp] theorem ag58 : aggT Tryz.prog 58 = some false := by kernel_rfl
@[simp] theorem zz58 : zeroA Tryz.prog 58 = some (.nilf) := by kernel_rfl
@[simp] theorem sz59 : szOf Tryz.prog 59 = some 1 := by kernel_rfl
@[simp] theorem ag59 : aggT Tryz.prog 59 = some false := by kernel_rfl
@[simp] theorem zz59 : zeroA Tryz.prog 59 = some (.nilf) := by kernel_rfl
@[simp] theorem sz60 : szOf Tryz.prog 60 = some 1 := by kernel_rfl
@[simp] theorem ag60 : aggT Tryz.prog 60 = some false := by kernel_rfl
@[simp] theorem zz60 : zeroA Tryz.prog 60 = some (.nils) := by kernel_rfl
@[simp] theorem sz61 : szOf Tryz.prog 61 = some 1 := by kernel_rfl
@[simp] theorem ag61 : aggT Tryz.prog 61 = some false := by kernel_rfl
@[simp] theorem sz62 : szOf Tryz.prog 62 = some 1 := by kernel_rfl
@[simp] theorem ag62 : aggT Tryz.prog 62 = some false := by kernel_rfl
@[simp] theorem zz62 : zeroA Tryz.prog 62 = some (.nilf) := by kernel_rfl
@[simp] theorem sz63 : szOf Tryz.prog 63 = some 1 := by kernel_rfl
@[simp] theorem ag63 : aggT Tryz.prog 63 = some false := by kernel_rfl
@[simp] theorem zz63 : zeroA Tryz.prog 63 = some (.nilf) := by kernel_rfl
@[simp] theorem sz64 : szOf Tryz.prog 64 = some 1 := by kernel_rfl
@[simp] theorem ag64 : aggT Tryz.prog 64 = some false := by kernel_rfl
@[simp] theorem zz64 : zeroA Tryz.prog 64 = some (.nilf) := by kernel_rfl
@[simp] theorem sz65 : szOf Tryz.prog 65 = some 1 := by kernel_rfl
@[simp] theorem ag65 : aggT Tryz.prog 65 = some false := by kernel_rfl
@[simp] theorem zz65 : zeroA Tryz.prog 65 = some (.nilf) := by kernel_rfl
@[simp] theorem sz66 : szOf Tryz.prog 66 = some 1 := by kernel_rfl
@[simp] theorem ag66 : aggT Tryz.prog 66 = some false := by kernel_rfl
@[simp] theorem zz66 : zeroA Tryz.prog 66 = some (.nilf) := by kernel_rfl
@[simp] theorem sz67 : szOf Tryz.prog 67 = some 1 := by kernel_rfl
@[simp] theorem ag67 : aggT Tryz.prog 67 = some false := by kernel_rfl
@[simp] theorem zz67 : zeroA Tryz.prog 67 = some (.nilf) := by kernel_rfl
@[simp] theorem sz68 : szOf Tryz.prog 68 = some 1 := by kernel_rfl
@[simp] theorem ag68 : aggT Tryz.prog 68 = some false := by kernel_rfl
@[simp] theorem zz68 : zeroA Tryz.prog 68 = some (.nilf) := by kernel_rfl
@[simp] theorem sz69 : szOf Tryz.prog 69 = some 1 := by kernel_rfl
@[simp] theorem ag69 : aggT Tryz.prog 69 = some false := by kernel_rfl
@[simp] theorem zz69 : zeroA Tryz.prog 69 = some (.nils) := by kernel_rfl
@[simp] theorem sz70 : szOf Tryz.prog 70 = some 2 := by kernel_rfl
@[simp] theorem ag70 : aggT Tryz.prog 70 = some true := by kernel_rfl
@[simp] theorem zz70 : zeroA Tryz.prog 70 = some (.agg [.int .i64 0, .nils]) := by kernel_rfl
@[simp] theorem sz71 : szOf Tryz.prog 71 = some 2 := by kernel_rfl
@[simp] theorem ag71 : aggT Tryz.prog 71 = some true := by kernel_rfl
@[simp] theorem zz71 : zeroA Tryz.prog 71 = some (.agg [.int .i64 0, .nils]) := by kernel_rfl
@[simp] theorem sz72 : szOf Tryz.prog 72 = some 1 := by kernel_rfl
@[simp] theorem ag72 : aggT Tryz.prog 72 = some false := by kernel_rfl
@[simp] theorem zz72 : zeroA Tryz.prog 72 = some (.nilf) := by kernel_rfl
@[simp] theorem sz73 : szOf Tryz.prog 73 = some 1 := by kernel_rfl
@[simp] theorem ag73 : aggT Tryz.prog 73 = some false := by kernel_rfl
@[simp] theorem zz73 : zeroA Tryz.prog 73 = some (.nilf) := by kernel_rfl
@[simp] theorem sz74 : szOf Tryz.prog 74 = some 1 := by kernel_rfl
@[simp] theorem ag74 : aggT Tryz.prog 74 = some false := by kernel_rfl
@[simp] theorem zz74 : zeroA Tryz.prog 74 = some (.nilf) := by kernel_rfl
@[simp] theorem sz75 : szOf Tryz.prog 75 = some 1 := by kernel_rfl
@[simp] theorem ag75 : aggT Tryz.prog 75 = some false := by kernel_rfl
@[simp] theorem zz75 : zeroA Tryz.prog 75 = some (.nilf) := by kernel_rfl
@[simp] theorem sz76 : szOf Tryz.prog 76 = some 1 := by kernel_rfl
@[simp] theorem ag76 : aggT Tryz.prog 76 = some false := by kernel_rfl
@[simp] theorem zz76 : zeroA Tryz.prog 76 = some (.nils) := by kernel_rfl
@[simp] theorem sz77 : szOf Tryz.prog 77 = some 1 := by kernel_rfl
@[simp] theorem ag77 : aggT Tryz.prog 77 = some false := by kernel_rfl
@[simp] theorem sz78 : szOf Tryz.prog 78 = some 1 := by kernel_rfl
@[simp] theorem ag78 : aggT Tryz.prog 78 = some false := by kernel_rfl
@[simp] theorem zz78 : zeroA Tryz.prog 78 = some (.nilf) := by kernel_rfl
@[simp] theorem sz79 : szOf Tryz.prog 79 = some 1 := by kernel_rfl
@[simp] theorem ag79 : aggT Tryz.prog 79 = some false := by kernel_rfl
@[simp] theorem zz79 : zeroA Tryz.prog 79 = some (.nilf) := by kernel_rfl
@[simp] theorem sz80 : szOf Tryz.prog 80 = some 1 := by kernel_rfl
@[simp] theorem ag80 : aggT Tryz.prog 80 = some false := by kernel_rfl
@[simp] theorem zz80 : zeroA Tryz.prog 80 = some (.nilf) := by kernel_rfl
@[simp] theorem sz81 : szOf Tryz.prog 81 = some 1 := by kernel_rfl
@[simp] theorem ag81 : aggT Tryz.prog 81 = some false := by kernel_rfl
@[simp] theorem zz81 : zeroA Tryz.prog 81 = some (.nilf) := by kernel_rfl
@[simp] theorem sz82 : szOf Tryz.prog 82 = some 1 := by kernel_rfl
@[simp] theorem ag82 : aggT Tryz.prog 82 = some false := by kernel_rfl
@[simp] theorem zz82 : zeroA Tryz.prog 82 = some (.nils) := by kernel_rfl
@[simp] theorem sz83 : szOf Tryz.prog 83 = some 1 := by kernel_rfl
@[simp] theorem ag83 : aggT Tryz.prog 83 = some false := by kernel_rfl
@[simp] theorem zz83 : zeroA Tryz.prog 83 = some (.nils) := by kernel_rfl
@[simp] theorem sz84 : szOf Tryz.prog 84 = some 41 := by kernel_rfl
@[simp] theorem ag84 : aggT Tryz.prog 84 = some true := by kernel_rfl
@[simp] theorem zz84 : zeroA Tryz.prog 84 = some (.agg [.int .u64 0, .int .i64 0, .nils, .int .u64 0, .int .i64 0, .int .i64 0, .int .i64 0, .int .u64 0, .nils, .nils, .nils, .int .i64 0, .int .i64 0, .int .i64 0, .int .i64 0, .int .i64 0, .int .i64 0, .int .i64 0, .int .i64 0, .int .i64 0, .int .i64 0, .nils, .nils, .int .i64 0, .int .i64 0, .int .i64 0, .nils, .nils, .int .i64 0, .int .u64 0, .int .i64 0, .int .i64 0, .nils, .nils, .nils, .int .i64 0, .int .i64 0, .int .i64 0, .nils, .nils, .nils]) := by kernel_rfl
@[simp] theorem sz85 : szOf Tryz.prog 85 = some 41 := by kernel_rfl
@[simp] theorem ag85 : aggT Tryz.prog 85 = some true := by kernel_rfl
@[simp] theorem zz85 : zeroA Tryz.prog 85 = some (.agg [.int .u64 0, .int .i64 0, .nils, .int .u64 0, .int .i64 0, .int .i64 0, .int .i64 0, .int .u64 0, .nils, .nils, .nils, .int .i64 0, .int .i64 0, .int .i64 0, .int .i64 0, .int .i64 0, .int .i64 0, .int .i64 0, .int .i64 0, .int .i64 0, .int .i64 0, .nils, .nils, .int .i64 0, .int .i64 0, .int .i64 0, .nils, .nils, .int .i64 0, .int .u64 0, .int .i64 0, .int .i64 0, .nils, .nils, .nils, .int .i64 0, .int .i64 0, .int .i64 0, .nils, .nils, .nils]) := by kernel_rfl
@[simp] theorem sz86 : szOf Tryz.prog 86 = some 1 := by kernel_rfl
@[simp] theorem ag86 : aggT Tryz.prog 86 = some false := by kernel_rfl
@[simp] theorem zz86 : zeroA Tryz.prog 86 = some (.nilf) := by kernel_rfl
@[simp] theorem sz87 : szOf Tryz.prog 87 = some 1 := by kernel_rfl
@[simp] theorem ag87 : aggT Tryz.prog 87 = some false := by kernel_rfl
@[simp] theorem zz87 : zeroA Tryz.prog 87 = some (.nils) := by kernel_rfl
@[simp] theorem sz88 : szOf Tryz.prog 88 = some 1 := by kernel_rfl
@[simp] theorem ag88 : aggT Tryz.prog 88 = some false := by kernel_rfl
@[simp] theorem zz88 : zeroA Tryz.prog 88 = some (.nilf) := by kernel_rfl
@[simp] theorem sz89 : szOf Tryz.prog 89 = some 1 := by kernel_rfl
@[simp] theorem ag89 : aggT Tryz.prog 89 = some false := by kernel_rfl
@[simp] theorem zz89 : zeroA Tryz.prog 89 = some (.nilf) := by kernel_rfl
@[simp] theorem sz90 : szOf Tryz.prog 90 = some 1 := by kernel_rfl
@[simp] theorem ag90 : aggT Tryz.prog 90 = some false := by kernel_rfl
@[simp] theorem zz90 : zeroA Tryz.prog 90 = some (.nilf) := by kernel_rfl
@[simp] theorem sz91 : szOf Tryz.prog 91 = some 4 := by kernel_rfl
@[simp] theorem ag91 : aggT Tryz.prog 91 = some true := by kernel_rfl
@[simp] theorem zz91 : zeroA Tryz.prog 91 = some (.agg [.int .i64 0, .int .i64 0, .bool false, .nils]) := by kernel_rfl
@[simp] theorem sz92 : szOf Tryz.prog 92 = some 4 := by kernel_rfl
@[simp] theorem ag92 : aggT Tryz.prog 92 = some true := by kernel_rfl
@[simp] theorem zz92 : zeroA Tryz.prog 92 = some (.agg [.int .i64 0, .int .i64 0, .bool false, .nils]) := by kernel_rfl
@[simp] theorem sz93 : szOf Tryz.prog 93 = some 3 := by kernel_rfl
@[simp] theorem ag93 : aggT Tryz.prog 93 = some true := by kernel_rfl
@[simp] theorem zz93 : zeroA Tryz.prog 93 = some (.agg [.str ByteArray.empty, .int .i64 0, .nils]) := by kernel_rfl
@[simp] theorem sz94 : szOf Tryz.prog 94 = some 3 := by kernel_rfl
@[simp] theorem ag94 : aggT Tryz.prog 94 = some true := by kernel_rfl
@[simp] theorem zz94 : zeroA Tryz.prog 94 = some (.agg [.str ByteArray.empty, .int .i64 0, .nils]) := by kernel_rfl
@[simp] theorem sz95 : szOf Tryz.prog 95 = some 1 := by kernel_rfl
@[simp] theorem ag95 : aggT Tryz.prog 95 = some false := by kernel_rfl
@[simp] theorem zz95 : zeroA Tryz.prog 95 = some (.nilf) := by kernel_rfl
@[simp] theorem sz96 : szOf Tryz.prog 96 = some 1 := by kernel_rfl
@[simp] theorem ag96 : aggT Tryz.prog 96 = some false := by kernel_rfl
@[simp] theorem zz96 : zeroA Tryz.prog 96 = some (.nilf) := by kernel_rfl
@[simp] theorem sz97 : szOf Tryz.prog 97 = some 1 := by kernel_rfl
@[simp] theorem ag97 : aggT Tryz.prog 97 = some true := by kernel_rfl
@[simp] theorem zz97 : zeroA Tryz.prog 97 = some (.agg [.nils]) := by kernel_rfl
@[simp] theorem sz98 : szOf Tryz.prog 98 = some 1 := by kernel_rfl
@[simp] theorem ag98 : aggT Tryz.prog 98 = some true := by kernel_rfl
@[simp] theorem zz98 : zeroA Tryz.prog 98 = some (.agg [.nils]) := by kernel_rfl
@[simp] theorem sz99 : szOf Tryz.prog 99 = some 1 := by kernel_rfl
@[simp] theorem ag99 : aggT Tryz.prog 99 = some false := by kernel_rfl
@[simp] theorem zz99 : zeroA Tryz.prog 99 = some (.nilf) := by kernel_rfl
@[simp] theorem sz100 : szOf Tryz.prog 100 = some 1 := by kernel_rfl
@[simp] theorem ag100 : aggT Tryz.prog 100 = some false := by kernel_rfl
@[simp] theorem zz100 : zeroA Tryz.prog 100 = some (.nilf) := by kernel_rfl
@[simp] theorem sz101 : szOf Tryz.prog 101 = some 1 := by kernel_rfl
@[simp] theorem ag101 : aggT Tryz.prog 101 = some false := by kernel_rfl
@[simp] theorem zz101 : zeroA Tryz.prog 101 = some (.nilf) := by kernel_rfl
@[simp] theorem sz102 : szOf Tryz.prog 102 = some 1 := by kernel_rfl
@[simp] theorem ag102 : aggT Tryz.prog 102 = some false := by kernel_rfl
@[simp] theorem zz102 : zeroA Tryz.prog 102 = some (.nilf) := by kernel_rfl
@[simp] theorem sz103 : szOf Tryz.prog 103 = some 1 := by kernel_rfl
@[simp] theorem ag103 : aggT Tryz.prog 103 = some false := by kernel_rfl
@[simp] theorem zz103 : zeroA Tryz.prog 103 = some (.nilp) := by kernel_rfl
@[simp] theorem sz104 : szOf Tryz.prog 104 = some 1 := by kernel_rfl
@[simp] theorem ag104 : aggT Tryz.prog 104 = some false := by kernel_rfl
@[simp] theorem zz104 : zeroA Tryz.prog 104 = some (.nilf) := by kernel_rfl
@[simp] theorem sz105 : szOf Tryz.prog 105 = some 1 := by kernel_rfl
@[simp] theorem ag105 : aggT Tryz.prog 105 = some false := by kernel_rfl
@[simp] theorem zz105 : zeroA Tryz.prog 105 = some (.nilf) := by kernel_rfl
@[simp] theorem sz106 : szOf Tryz.prog 106 = some 1 := by kernel_rfl
@[simp] theorem ag106 : aggT Tryz.prog 106 = some false := by kernel_rfl
@[simp] theorem zz106 : zeroA Tryz.prog 106 = some (.nilf) := by kernel_rfl
@[simp] theorem sz107 : szOf Tryz.prog 107 = some 1 := by kernel_rfl
@[simp] theorem ag107 : aggT Tryz.prog 107 = some false := by kernel_rfl
@[simp] theorem zz107 : zeroA Tryz.prog 107 = some (.nilf) := by kernel_rfl
@[simp] theorem sz108 : szOf Tryz.prog 108 = some 1 := by kernel_rfl
@[simp] theorem ag108 : aggT Tryz.prog 108 = some false := by kernel_rfl
@[simp] theorem zz108 : zeroA Tryz.prog 108 = some (.nilf) := by kernel_rfl
@[simp] theorem sz109 : szOf Tryz.prog 109 = some 1 := by kernel_rfl
@[simp] theorem ag109 : aggT Tryz.prog 109 = some false := by kernel_rfl
@[simp] theorem zz109 : zeroA Tryz.prog 109 = some (.nilf) := by kernel_rfl
@[simp] theorem sz110 : szOf Tryz.prog 110 = some 1 := by kernel_rfl
@[simp] theorem ag110 : aggT Tryz.prog 110 = some false := by kernel_rfl
@[simp] theorem zz110 : zeroA Tryz.prog 110 = some (.nilf) := by kernel_rfl
@[simp] theorem sz111 : szOf Tryz.prog 111 = some 1 := by kernel_rfl
@[simp] theorem ag111 : aggT Tryz.prog 111 = some false := by kernel_rfl
@[simp] theorem zz111 : zeroA Tryz.prog 111 = some (.nilf) := by kernel_rfl
@[simp] theorem sz112 : szOf Tryz.prog 112 = some 1 := by kernel_rfl
@[simp] theorem ag112 : aggT Tryz.prog 112 = some false := by kernel_rfl
@[simp] theorem sz113 : szOf Tryz.prog 113 = some 1 := by kernel_rfl
@[simp] theorem ag113 : aggT Tryz.prog 113 = some false := by kernel_rfl
@[simp] theorem zz113 : zeroA Tryz.prog 113 = some (.nilf) := by kernel_rfl
@[simp] theorem sz114 : szOf Tryz.prog 114 = some 1 := by kernel_rfl
@[simp] theorem ag114 : aggT Tryz.prog 114 = some false := by kernel_rfl
@[simp] theorem zz114 : zeroA Tryz.prog 114 = some (.nilf) := by kernel_rfl
@[simp] theorem sz115 : szOf Tryz.prog 115 = some 1 := by kernel_rfl
@[simp] theorem ag115 : aggT Tryz.prog 115 = some false := by kernel_rfl
@[simp] theorem zz115 : zeroA Tryz.prog 115 = some (.nilp) := by kernel_rfl
@[simp] theorem sz116 : szOf Tryz.prog 116 = some 43 := by kernel_rfl
@[simp] theorem ag116 : aggT Tryz.prog 116 = some true := by kernel_rfl
@[simp] theorem zz116 : zeroA Tryz.prog 116 = some (.agg [.int .u64 0, .int .i64 0, .nils, .int .u64 0, .int .i64 0, .int .i64 0, .int .i64 0, .int .u64 0, .nils, .nils, .nils, .int .i64 0, .int .i64 0, .int .i64 0, .int .i64 0, .int .i64 0, .int .i64 0, .int .i64 0, .int .i64 0, .int .i64 0, .int .i64 0, .nils, .nils, .int .i64 0, .int .i64 0, .int .i64 0, .nils, .nils, .int .i64 0, .int .u64 0, .int .i64 0, .int .i64 0, .nils, .nils, .nils, .int .i64 0, .int .i64 0, .int .i64 0, .nils, .nils, .nils, .int .i64 0, .nils]) := by kernel_rfl
@[simp] theorem sz117 : szOf Tryz.prog 117 = some 43 := by kernel_rfl
@[simp] theorem ag117 : aggT Tryz.prog 117 = some true := by kernel_rfl
@[simp] theorem zz117 : zeroA Tryz.prog 117 = some (.agg [.int .u64 0, .int .i64 0, .nils, .int .u64 0, .int .i64 0, .int .i64 0, .int .i64 0, .int .u64 0, .nils, .nils, .nils, .int .i64 0, .int .i64 0, .int .i64 0, .int .i64 0, .int .i64 0, .int .i64 0, .int .i64 0, .int .i64 0, .int .i64 0, .int .i64 0, .nils, .nils, .int .i64 0, .int .i64 0, .int .i64 0, .nils, .nils, .int .i64 0, .int .u64 0, .int .i64 0, .int .i64 0, .nils, .nils, .nils, .int .i64 0, .int .i64 0, .int .i64 0, .nils, .nils, .nils, .int .i64 0, .nils]) := by kernel_rfl
@[simp] theorem sz118 : szOf Tryz.prog 118 = some 2 := by kernel_rfl
@[simp] theorem ag118 : aggT Tryz.prog 118 = some true := by kernel_rfl
@[simp] theorem zz118 : zeroA Tryz.prog 118 = some (.agg [.int .i64 0, .int .i64 0]) := by kernel_rfl
@[simp] theorem sz119 : szOf Tryz.prog 119 = some 2 := by kernel_rfl
@[simp] theorem ag119 : aggT Tryz.prog 119 = some true := by kernel_rfl
@[simp] theorem zz119 : zeroA Tryz.prog 119 = some (.agg [.int .i64 0, .int .i64 0]) := by kernel_rfl
@[simp] theorem sz120 : szOf Tryz.prog 120 = some 1 := by kernel_rfl
@[simp] theorem ag120 : aggT Tryz.prog 120 = some false := by kernel_rfl
@[simp] theorem zz120 : zeroA Tryz.prog 120 = some (.nilf) := by kernel_rfl
@[simp] theorem sz121 : szOf Tryz.prog 121 = some 1 := by kernel_rfl
@[simp] theorem ag121 : aggT Tryz.prog 121 = some false := by kernel_rfl
@[simp] theorem zz121 : zeroA Tryz.prog 121 = some (.nilf) := by kernel_rfl
@[simp] theorem sz122 : szOf Tryz.prog 122 = some 1 := by kernel_rfl
@[simp] theorem ag122 : aggT Tryz.prog 122 = some false := by kernel_rfl
@[simp] theorem zz122 : zeroA Tryz.prog 122 = some (.nilf) := by kernel_rfl
@[simp] theorem sz123 : szOf Tryz.prog 123 = some 1 := by kernel_rfl
@[simp] theorem ag123 : aggT Tryz.prog 123 = some false := by kernel_rfl
@[simp] theorem zz123 : zeroA Tryz.prog 123 = some (.nilf) := by kernel_rfl
@[simp] theorem sz124 : szOf Tryz.prog 124 = some 1 := by kernel_rfl
@[simp] theorem ag124 : aggT Tryz.prog 124 = some false := by kernel_rfl
@[simp] theorem sz125 : szOf Tryz.prog 125 = some 1 := by kernel_rfl
@[simp] theorem ag125 : aggT Tryz.prog 125 = some false := by kernel_rfl
@[simp] theorem zz125 : zeroA Tryz.prog 125 = some (.nilf) := by kernel_rfl
@[simp] theorem sz126 : szOf Tryz.prog 126 = some 1 := by kernel_rfl
@[simp] theorem ag126 : aggT Tryz.prog 126 = some false := by kernel_rfl
@[simp] theorem zz126 : zeroA Tryz.prog 126 = some (.nilf) := by kernel_rfl
@[simp] theorem sz127 : szOf Tryz.prog 127 = some 1 := by kernel_rfl
@[simp] theorem ag127 : aggT Tryz.prog 127 = some false := by kernel_rfl
@[simp] theorem zz127 : zeroA Tryz.prog 127 = some (.nilf) := by kernel_rfl
@[simp] theorem sz128 : szOf Tryz.prog 128 = some 1 := by kernel_rfl
@[simp] theorem ag128 : aggT Tryz.prog 128 = some false := by kernel_rfl
@[simp] theorem zz128 : zeroA Tryz.prog 128 = some (.nilf) := by kernel_rfl
@[simp] theorem sz129 : szOf Tryz.prog 129 = some 1 := by kernel_rfl
@[simp] theorem ag129 : aggT Tryz.prog 129 = some false := by kernel_rfl
@[simp] theorem zz129 : zeroA Tryz.prog 129 = some (.nilf) := by kernel_rfl
@[simp] theorem sz130 : szOf Tryz.prog 130 = some 1 := by kernel_rfl
@[simp] theorem ag130 : aggT Tryz.prog 130 = some false := by kernel_rfl
@[simp] theorem sz131 : szOf Tryz.prog 131 = some 1 := by kernel_rfl
@[simp] theorem ag131 : aggT Tryz.prog 131 = some false := by kernel_rfl
@[simp] theorem zz131 : zeroA Tryz.prog 131 = some (.nilf) := by kernel_rfl
@[simp] theorem sz132 : szOf Tryz.prog 132 = some 1 := by kernel_rfl
@[simp] theorem ag132 : aggT Tryz.prog 132 = some false := by kernel_rfl
@[simp] theorem zz132 : zeroA Tryz.prog 132 = some (.nilf) := by kernel_rfl
@[simp] theorem sz133 : szOf Tryz.prog 133 = some 1 := by kernel_rfl
@[simp] theorem ag133 : aggT Tryz.prog 133 = some false := by kernel_rfl
@[simp] theorem zz133 : zeroA Tryz.prog 133 = some (.nilf) := by kernel_rfl
@[simp] theorem sz134 : szOf Tryz.prog 134 = some 1 := by kernel_rfl
@[simp] theorem ag134 : aggT Tryz.prog 134 = some false := by kernel_rfl
@[simp] theorem zz134 : zeroA Tryz.prog 134 = some (.nilf) := by kernel_rfl
@[simp] theorem sz135 : szOf Tryz.prog 135 = some 1 := by kernel_rfl
@[simp] theorem ag135 : aggT Tryz.prog 135 = some false := by kernel_rfl
@[simp] theorem zz135 : zeroA Tryz.prog 135 = some (.nilf) := by kernel_rfl
@[simp] theorem sz136 : szOf Tryz.prog 136 = some 1 := by kernel_rfl
@[simp] theorem ag136 : aggT Tryz.prog 136 = some false := by kernel_rfl
@[simp] theorem zz136 : zeroA Tryz.prog 136 = some (.nilf) := by kernel_rfl
@[simp] theorem sz137 : szOf Tryz.prog 137 = some 1 := by kernel_rfl
@[simp] theorem ag137 : aggT Tryz.prog 137 = some false := by kernel_rfl
@[simp] theorem sz138 : szOf Tryz.prog 138 = some 1 := by kernel_rfl
@[simp] theorem ag138 : aggT Tryz.prog 138 = some false := by kernel_rfl
@[simp] theorem zz138 : zeroA Tryz.prog 138 = some (.nilf) := by kernel_rfl
@[simp] theorem sz139 : szOf Tryz.prog 139 = some 1 := by kernel_rfl
@[simp] theorem ag139 : aggT Tryz.prog 139 = some false := by kernel_rfl
@[simp] theorem sz140 : szOf Tryz.prog 140 = some 1 := by kernel_rfl
@[simp] theorem ag140 : aggT Tryz.prog 140 = some false := by kernel_rfl
@[simp] theorem zz140 : zeroA Tryz.prog 140 = some (.nilf) := by kernel_rfl
@[simp] theorem sz141 : szOf Tryz.prog 141 = some 1 := by kernel_rfl
@[simp] theorem ag141 : aggT Tryz.prog 141 = some false := by kernel_rfl
@[simp] theorem zz141 : zeroA Tryz.prog 141 = some (.nilf) := by kernel_rfl
@[simp] theorem sz142 : szOf Tryz.prog 142 = some 1 := by kernel_rfl
@[simp] theorem ag142 : aggT Tryz.prog 142 = some false := by kernel_rfl
@[simp] theorem zz142 : zeroA Tryz.prog 142 = some (.nilf) := by kernel_rfl
@[simp] theorem sz143 : szOf Tryz.prog 143 = some 1 := by kernel_rfl
@[simp] theorem ag143 : aggT Tryz.prog 143 = some false := by kernel_rfl
@[simp] theorem sz144 : szOf Tryz.prog 144 = some 1 := by kernel_rfl
@[simp] theorem ag144 : aggT Tryz.prog 144 = some false := by kernel_rfl
@[simp] theorem zz144 : zeroA Tryz.prog 144 = some (.nilf) := by kernel_rfl
@[simp] theorem sz145 : szOf Tryz.prog 145 = some 1 := by kernel_rfl
@[simp] theorem ag145 : aggT Tryz.prog 145 = some false := by kernel_rfl
@[simp] theorem zz145 : zeroA Tryz.prog 145 = some (.nilf) := by kernel_rfl
@[simp] theorem sz146 : szOf Tryz.prog 146 = some 1 := by kernel_rfl
@[simp] theorem ag146 : aggT Tryz.prog 146 = some false := by kernel_rfl
@[simp] theorem zz146 : zeroA Tryz.prog 146 = some (.nilf) := by kernel_rfl
@[simp] theorem sz147 : szOf Tryz.prog 147 = some 1 := by kernel_rfl
@[simp] theorem ag147 : aggT Tryz.prog 147 = some false := by kernel_rfl
@[simp] theorem zz147 : zeroA Tryz.prog 147 = some (.nilf) := by kernel_rfl
@[simp] theorem sz148 : szOf Tryz.prog 148 = some 1 := by kernel_rfl
@[simp] theorem ag148 : aggT Tryz.prog 148 = some false := by kernel_rfl
@[simp] theorem zz148 : zeroA Tryz.prog 148 = some (.nilf) := by kernel_rfl
@[simp] theorem sz149 : szOf Tryz.prog 149 = some 1 := by kernel_rfl
@[simp] theorem ag149 : aggT Tryz.prog 149 = some false := by kernel_rfl
@[simp] theorem zz149 : zeroA Tryz.prog 149 = some (.nilf) := by kernel_rfl
@[simp] theorem sz150 : szOf Tryz.prog 150 = some 1 := by kernel_rfl
@[simp] theorem ag150 : aggT Tryz.prog 150 = some false := by kernel_rfl
@[simp] theorem zz150 : zeroA Tryz.prog 150 = some (.nilf) := by kernel_rfl
@[simp] theorem sz151 : szOf Tryz.prog 151 = some 1 := by kernel_rfl
@[simp] theorem ag151 : aggT Tryz.prog 151 = some false := by kernel_rfl
@[simp] theorem zz151 : zeroA Tryz.prog 151 = some (.nilf) := by kernel_rfl
@[simp] theorem sz152 : szOf Tryz.prog 152 = some 1 := by kernel_rfl
@[simp] theorem ag152 : aggT Tryz.prog 152 = some false := by kernel_rfl
@[simp] theorem zz152 : zeroA Tryz.prog 152 = some (.nilf) := by kernel_rfl
@[simp] theorem sz153 : szOf Tryz.prog 153 = some 1 := by kernel_rfl
@[simp] theorem ag153 : aggT Tryz.prog 153 = some false := by kernel_rfl
@[simp] theorem zz153 : zeroA Tryz.prog 153 = some (.nilf) := by kernel_rfl
@[simp] theorem sz154 : szOf Tryz.prog 154 = some 1 := by kernel_rfl
@[simp] theorem ag154 : aggT Tryz.prog 154 = some false := by kernel_rfl
@[simp] theorem zz154 : zeroA Tryz.prog 154 = some (.nilf) := by kernel_rfl
@[simp] theorem sz155 : szOf Tryz.prog 155 = some 1 := by kernel_rfl
@[simp] theorem ag155 : aggT Tryz.prog 155 = some false := by kernel_rfl
@[simp] theorem zz155 : zeroA Tryz.prog 155 = some (.nilf) := by kernel_rfl
@[simp] theorem sz156 : szOf Tryz.prog 156 = some 1 := by kernel_rfl
@[simp] theorem ag156 : aggT Tryz.prog 156 = some false := by kernel_rfl
@[simp] theorem zz156 : zeroA Tryz.prog 156 = some (.nilf) := by kernel_rfl
@[simp] theorem sz157 : szOf Tryz.prog 157 = some 1 := by kernel_rfl
@[simp] theorem ag157 : aggT Tryz.prog 157 = some false := by kernel_rfl
@[simp] theorem zz157 : zeroA Tryz.prog 157 = some (.nilf) := by kernel_rfl
@[simp] theorem sz158 : szOf Tryz.prog 158 = some 1 := by kernel_rfl
@[simp] theorem ag158 : aggT Tryz.prog 158 = some false := by kernel_rfl
@[simp] theorem zz158 : zeroA Tryz.prog 158 = some (.nilf) := by kernel_rfl
@[simp] theorem sz159 : szOf Tryz.prog 159 = some 1 := by kernel_rfl
@[simp] theorem ag159 : aggT Tryz.prog 159 = some false := by kernel_rfl
@[simp] theorem zz159 : zeroA Tryz.prog 159 = some (.nilf) := by kernel_rfl
@[simp] theorem sz160 : szOf Tryz.prog 160 = some 1 := by kernel_rfl
@[simp] theorem ag160 : aggT Tryz.prog 160 = some false := by kernel_rfl
@[simp] theorem zz160 : zeroA Tryz.prog 160 = some (.int .u64 0) := by kernel_rfl
@[simp] theorem sz161 : szOf Tryz.prog 161 = some 1 := by kernel_rfl
@[simp] theorem ag161 : aggT Tryz.prog 161 = some false := by kernel_rfl
@[simp] theorem zz161 : zeroA Tryz.prog 161 = some (.nilf) := by kernel_rfl
@[simp] theorem sz162 : szOf Tryz.prog 162 = some 1 := by kernel_rfl
@[simp] theorem ag162 : aggT Tryz.prog 162 = some false := by kernel_rfl
@[simp] theorem zz162 : zeroA Tryz.prog 162 = some (.nilf) := by kernel_rfl
@[simp] theorem sz163 : szOf Tryz.prog 163 = some 1 := by kernel_rfl
@[simp] theorem ag163 : aggT Tryz.prog 163 = some false := by kernel_rfl
@[simp] theorem zz163 : zeroA Tryz.prog 163 = some (.nilf) := by kernel_rfl
@[simp] theorem sz164 : szOf Tryz.prog 164 = some 1 := by kernel_rfl
@[simp] theorem ag164 : aggT Tryz.prog 164 = some false := by kernel_rfl
@[simp] theorem zz164 : zeroA Tryz.prog 164 = some (.nilf) := by kernel_rfl
@[simp] theorem sz165 : szOf Tryz.prog 165 = some 1 := by kernel_rfl
@[simp] theorem ag165 : aggT Tryz.prog 165 = some false := by kernel_rfl
@[simp] theorem zz165 : zeroA Tryz.prog 165 = some (.nilf) := by kernel_rfl
@[simp] theorem sz166 : szOf Tryz.prog 166 = some 1 := by kernel_rfl
@[simp] theorem ag166 : aggT Tryz.prog 166 = some false := by kernel_rfl
@[simp] theorem zz166 : zeroA Tryz.prog 166 = some (.nilf) := by kernel_rfl
@[simp] theorem sz167 : szOf Tryz.prog 167 = some 1 := by kernel_rfl
@[simp] theorem ag167 : aggT Tryz.prog 167 = some false := by kernel_rfl
@[simp] theorem zz167 : zeroA Tryz.prog 167 = some (.nilf) := by kernel_rfl
@[simp] theorem sz168 : szOf Tryz.prog 168 = some 1 := by kernel_rfl
@[simp] theorem ag168 : aggT Tryz.prog 168 = some false := by kernel_rfl
@[simp] theorem zz168 : zeroA Tryz.prog 168 = some (.nilf) := by kernel_rfl
@[simp] theorem sz169 : szOf Tryz.prog 169 = some 1 := by kernel_rfl
@[simp] theorem ag169 : aggT Tryz.prog 169 = some false := by kernel_rfl
@[simp] theorem zz169 : zeroA Tryz.prog 169 = some (.nilf) := by kernel_rfl
@[simp] theorem sz170 : szOf Tryz.prog 170 = some 1 := by kernel_rfl
@[simp] theorem ag170 : aggT Tryz.prog 170 = some false := by kernel_rfl
@[simp] theorem zz170 : zeroA Tryz.prog 170 = some (.nilf) := by kernel_rfl
@[simp] theorem sz171 : szOf Tryz.prog 171 = some 1 := by kernel_rfl
@[simp] theorem ag171 : aggT Tryz.prog 171 = some false := by kernel_rfl
@[simp] theorem zz171 : zeroA Tryz.prog 171 = some (.nilf) := by kernel_rfl
@[simp] theorem sz172 : szOf Tryz.prog 172 = some 1 := by kernel_rfl
@[simp] theorem ag172 : aggT Tryz.prog 172 = some false := by kernel_rfl
@[simp] theorem zz172 : zeroA Tryz.prog 172 = some (.nilf) := by kernel_rfl
@[simp] theorem sz173 : szOf Tryz.prog 173 = some 1 := by kernel_rfl
@[simp] theorem ag173 : aggT Tryz.prog 173 = some false := by kernel_rfl
@[simp] theorem zz173 : zeroA Tryz.prog 173 = some (.nilf) := by kernel_rfl
@[simp] theorem sz174 : szOf Tryz.prog 174 = some 1 := by kernel_rfl
@[simp] theorem ag174 : aggT Tryz.prog 174 = some false := by kernel_rfl
@[simp] theorem zz174 : zeroA Tryz.prog 174 = some (.nilf) := by kernel_rfl
@[simp] theorem sz175 : szOf Tryz.prog 175 = some 1 := by kernel_rfl
@[simp] theorem ag175 : aggT Tryz.prog 175 = some false := by kernel_rfl
@[simp] theorem zz175 : zeroA Tryz.prog 175 = some (.nilf) := by kernel_rfl
@[simp] theorem sz176 : szOf Tryz.prog 176 = some 1 := by kernel_rfl
@[simp] theorem ag176 : aggT Tryz.prog 176 = some false := by kernel_rfl
@[simp] theorem zz176 : zeroA Tryz.prog 176 = some (.nilf) := by kernel_rfl
@[simp] theorem sz177 : szOf Tryz.prog 177 = some 2 := by kernel_rfl
@[simp] theorem ag177 : aggT Tryz.prog 177 = some true := by kernel_rfl
@[simp] theorem zz177 : zeroA Tryz.prog 177 = some (.agg [.int .u64 0, .bool false]) := by kernel_rfl
@[simp] theorem sz178 : szOf Tryz.prog 178 = some 2 := by kernel_rfl
@[simp] theorem ag178 : aggT Tryz.prog 178 = some true := by kernel_rfl
@[simp] theorem zz178 : zeroA Tryz.prog 178 = some (.agg [.int .u64 0, .bool false]) := by kernel_rfl
@[simp] theorem sz179 : szOf Tryz.prog 179 = some 1 := by kernel_rfl
@[simp] theorem ag179 : aggT Tryz.prog 179 = some false := by kernel_rfl
@[simp] theorem zz179 : zeroA Tryz.prog 179 = some (.nilf) := by kernel_rfl
@[simp] theorem sz180 : szOf Tryz.prog 180 = some 4 := by kernel_rfl
@[simp] theorem ag180 : aggT Tryz.prog 180 = some true := by kernel_rfl
@[simp] theorem zz180 : zeroA Tryz.prog 180 = some (.agg [.int .i64 0, .int .u64 0, .int .u64 0, .int .i64 0]) := by kernel_rfl
@[simp] theorem sz181 : szOf Tryz.prog 181 = some 4 := by kernel_rfl
@[simp] theorem ag181 : aggT Tryz.prog 181 = some true := by kernel_rfl
@[simp] theorem zz181 : zeroA Tryz.prog 181 = some (.agg [.int .i64 0, .int .u64 0, .int .u64 0, .int .i64 0]) := by kernel_rfl
@[simp] theorem sz182 : szOf Tryz.prog 182 = some 1 := by kernel_rfl
@[simp] theorem ag182 : aggT Tryz.prog 182 = some false := by kernel_rfl
@[simp] theorem zz182 : zeroA Tryz.prog 182 = some (.nilf) := by kernel_rfl
@[simp] theorem sz183 : szOf Tryz.prog 183 = some 1 := by kernel_rfl
@[simp] theorem ag183 : aggT Tryz.prog 183 = some false := by kernel_rfl
@[simp] theorem zz183 : zeroA Tryz.prog 183 = some (.nilf) := by kernel_rfl
@[simp] theorem sz184 : szOf Tryz.prog 184 = some 1 := by kernel_rfl
@[simp] theorem ag184 : aggT Tryz.prog 184 = some false := by kernel_rfl
@[simp] theorem zz184 : zeroA Tryz.prog 184 = some (.nilf) := by kernel_rfl
@[simp] theorem sz185 : szOf Tryz.prog 185 = some 1 := by kernel_rfl
@[simp] theorem ag185 : aggT Tryz.prog 185 = some false := by kernel_rfl
@[simp] theorem zz185 : zeroA Tryz.prog 185 = some (.nilf) := by kernel_rfl
@[simp] theorem sz186 : szOf Tryz.prog 186 = some 1 := by kernel_rfl
@[simp] theorem ag186 : aggT Tryz.prog 186 = some false := by kernel_rfl
@[simp] theorem zz186 : zeroA Tryz.prog 186 = some (.nilf) := by kernel_rfl
@[simp] theorem sz187 : szOf Tryz.prog 187 = some 1 := by kernel_rfl
@[simp] theorem ag187 : aggT Tryz.prog 187 = some false := by kernel_rfl
@[simp] theorem zz187 : zeroA Tryz.prog 187 = some (.nilf) := by kernel_rfl
@[simp] theorem sz188 : szOf Tryz.prog 188 = some 1 := by kernel_rfl
@[simp] theorem ag188 : aggT Tryz.prog 188 = some false := by kernel_rfl
@[simp] theorem zz188 : zeroA Tryz.prog 188 = some (.nilf) := by kernel_rfl
@[simp] theorem sz189 : szOf Tryz.prog 189 = some 1 := by kernel_rfl
@[simp] theorem ag189 : aggT Tryz.prog 189 = some false := by kernel_rfl
@[simp] theorem zz189 : zeroA Tryz.prog 189 = some (.nilf) := by kernel_rfl
@[simp] theorem sz190 : szOf Tryz.prog 190 = some 1 := by kernel_rfl
@[simp] theorem ag190 : aggT Tryz.prog 190 = some false := by kernel_rfl
@[simp] theorem zz190 : zeroA Tryz.prog 190 = some (.nilf) := by kernel_rfl
@[simp] theorem sz191 : szOf Tryz.prog 191 = some 1 := by kernel_rfl
@[simp] theorem ag191 : aggT Tryz.prog 191 = some false := by kernel_rfl
@[simp] theorem zz191 : zeroA Tryz.prog 191 = some (.nilf) := by kernel_rfl
@[simp] theorem sz192 : szOf Tryz.prog 192 = some 1 := by kernel_rfl
@[simp] theorem ag192 : aggT Tryz.prog 192 = some false := by kernel_rfl
@[simp] theorem zz192 : zeroA Tryz.prog 192 = some (.nilf) := by kernel_rfl
@[simp] theorem sz193 : szOf Tryz.prog 193 = some 1 := by kernel_rfl
@[simp] theorem ag193 : aggT Tryz.prog 193 = some false := by kernel_rfl
@[simp] theorem zz193 : zeroA Tryz.prog 193 = some (.nilf) := by kernel_rfl
@[simp] theorem sz194 : szOf Tryz.prog 194 = some 1 := by kernel_rfl
@[simp] theorem ag194 : aggT Tryz.prog 194 = some false := by kernel_rfl
@[simp] theorem zz194 : zeroA Tryz.prog 194 = some (.nilf) := by kernel_rfl
@[simp] theorem sz195 : szOf Tryz.prog 195 = some 1 := by kernel_rfl
@[simp] theorem ag195 : aggT Tryz.prog 195 = some false := by kernel_rfl
@[simp] theorem zz195 : zeroA Tryz.prog 195 = some (.nilf) := by kernel_rfl
@[simp] theorem sz196 : szOf Tryz.prog 196 = some 1 := by kernel_rfl
@[simp] theorem ag196 : aggT Tryz.prog 196 = some false := by kernel_rfl
@[simp] theorem zz196 : zeroA Tryz.prog 196 = some (.nilf) := by kernel_rfl
@[simp] theorem sz197 : szOf Tryz.prog 197 = some 1 := by kernel_rfl
@[simp] theorem ag197 : aggT Tryz.prog 197 = some false := by kernel_rfl
@[simp] theorem sz198 : szOf Tryz.prog 198 = some 1 := by kernel_rfl
@[simp] theorem ag198 : aggT Tryz.prog 198 = some false := by kernel_rfl
@[simp] theorem zz198 : zeroA Tryz.prog 198 = some (.nilf) := by kernel_rfl
@[simp] theorem sz199 : szOf Tryz.prog 199 = some 1 := by kernel_rfl
@[simp] theorem ag199 : aggT Tryz.prog 199 = some false := by kernel_rfl
@[simp] theorem zz199 : zeroA Tryz.prog 199 = some (.nilf) := by kernel_rfl
@[simp] theorem sz200 : szOf Tryz.prog 200 = some 1 := by kernel_rfl
@[simp] theorem ag200 : aggT Tryz.prog 200 = some false := by kernel_rfl
@[simp] theorem zz200 : zeroA Tryz.prog 200 = some (.nilf) := by kernel_rfl
@[simp] theorem sz201 : szOf Tryz.prog 201 = some 4 := by kernel_rfl
@[simp] theorem ag201 : aggT Tryz.prog 201 = some true := by kernel_rfl
@[simp] theorem zz201 : zeroA Tryz.prog 201 = some (.agg [.int .i64 0, .int .i64 0, .int .i64 0, .int .i64 0]) := by kernel_rfl
@[simp] theorem sz202 : szOf Tryz.prog 202 = some 4 := by kernel_rfl
@[simp] theorem ag202 : aggT Tryz.prog 202 = some true := by kernel_rfl
@[simp] theorem zz202 : zeroA Tryz.prog 202 = some (.agg [.int .i64 0, .int .i64 0, .int .i64 0, .int .i64 0]) := by kernel_rfl
@[simp] theorem sz203 : szOf Tryz.prog 203 = some 1 := by kernel_rfl
@[simp] theorem ag203 : aggT Tryz.prog 203 = some false := by kernel_rfl
@[simp] theorem zz203 : zeroA Tryz.prog 203 = some (.nilf) := by kernel_rfl
@[simp] theorem sz204 : szOf Tryz.prog 204 = some 1 := by kernel_rfl
@[simp] theorem ag204 : aggT Tryz.prog 204 = some false := by kernel_rfl
@[simp] theorem zz204 : zeroA Tryz.prog 204 = some (.nilf) := by kernel_rfl
@[simp] theorem sz205 : szOf Tryz.prog 205 = some 1 := by kernel_rfl
@[simp] theorem ag205 : aggT Tryz.prog 205 = some false := by kernel_rfl
@[simp] theorem zz205 : zeroA Tryz.prog 205 = some (.nilf) := by kernel_rfl
@[simp] theorem sz206 : szOf Tryz.prog 206 = some 1 := by kernel_rfl
@[simp] theorem ag206 : aggT Tryz.prog 206 = some false := by kernel_rfl
@[simp] theorem zz206 : zeroA Tryz.prog 206 = some (.nilf) := by kernel_rfl
@[simp] theorem sz207 : szOf Tryz.prog 207 = some 1 := by kernel_rfl
@[simp] theorem ag207 : aggT Tryz.prog 207 = some false := by kernel_rfl
@[simp] theorem zz207 : zeroA Tryz.prog 207 = some (.nilf) := by kernel_rfl
@[simp] theorem sz208 : szOf Tryz.prog 208 = some 1 := by kernel_rfl
@[simp] theorem ag208 : aggT Tryz.prog 208 = some false := by kernel_rfl
@[simp] theorem zz208 : zeroA Tryz.prog 208 = some (.nilf) := by kernel_rfl
@[simp] theorem sz209 : szOf Tryz.prog 209 = some 1 := by kernel_rfl
@[simp] theorem ag209 : aggT Tryz.prog 209 = some false := by kernel_rfl
@[simp] theorem zz209 : zeroA Tryz.prog 209 = some (.nilf) := by kernel_rfl
@[simp] theorem sz210 : szOf Tryz.prog 210 = some 1 := by kernel_rfl
@[simp] theorem ag210 : aggT Tryz.prog 210 = some false := by kernel_rfl
@[simp] theorem zz210 : zeroA Tryz.prog 210 = some (.nilf) := by kernel_rfl
@[simp] theorem sz211 : szOf Tryz.prog 211 = some 1 := by kernel_rfl
@[simp] theorem ag211 : aggT Tryz.prog 211 = some false := by kernel_rfl
@[simp] theorem zz211 : zeroA Tryz.prog 211 = some (.nilf) := by kernel_rfl
@[simp] theorem sz212 : szOf Tryz.prog 212 = some 1 := by kernel_rfl
@[simp] theorem ag212 : aggT Tryz.prog 212 = some false := by kernel_rfl
@[simp] theorem zz212 : zeroA Tryz.prog 212 = some (.nilf) := by kernel_rfl
@[simp] theorem sz213 : szOf Tryz.prog 213 = some 1 := by kernel_rfl
@[simp] theorem ag213 : aggT Tryz.prog 213 = some false := by kernel_rfl
@[simp] theorem zz213 : zeroA Tryz.prog 213 = some (.int .i64 0) := by kernel_rfl
@[simp] theorem sz214 : szOf Tryz.prog 214 = some 1 := by kernel_rfl
@[simp] theorem ag214 : aggT Tryz.prog 214 = some false := by kernel_rfl
@[simp] theorem sz215 : szOf Tryz.prog 215 = some 1 := by kernel_rfl
@[simp] theorem ag215 : aggT Tryz.prog 215 = some false := by kernel_rfl
@[simp] theorem zz215 : zeroA Tryz.prog 215 = some (.nilf) := by kernel_rfl
@[simp] theorem sz216 : szOf Tryz.prog 216 = some 1 := by kernel_rfl
@[simp] theorem ag216 : aggT Tryz.prog 216 = some false := by kernel_rfl
@[simp] theorem zz216 : zeroA Tryz.prog 216 = some (.nilf) := by kernel_rfl
@[simp] theorem sz217 : szOf Tryz.prog 217 = some 1 := by kernel_rfl
@[simp] theorem ag217 : aggT Tryz.prog 217 = some false := by kernel_rfl
@[simp] theorem zz217 : zeroA Tryz.prog 217 = some (.nilf) := by kernel_rfl
@[simp] theorem sz218 : szOf Tryz.prog 218 = some 1 := by kernel_rfl
@[simp] theorem ag218 : aggT Tryz.prog 218 = some false := by kernel_rfl
@[simp] theorem zz218 : zeroA Tryz.prog 218 = some (.nilf) := by kernel_rfl
@[simp] theorem sz219 : szOf Tryz.prog 219 = some 1 := by kernel_rfl
@[simp] theorem ag219 : aggT Tryz.prog 219 = some false := by kernel_rfl
@[simp] theorem zz219 : zeroA Tryz.prog 219 = some (.nilf) := by kernel_rfl
@[simp] theorem sz220 : szOf Tryz.prog 220 = some 1 := by kernel_rfl
@[simp] theorem ag220 : aggT Tryz.prog 220 = some false := by kernel_rfl
@[simp] theorem zz220 : zeroA Tryz.prog 220 = some (.nilf) := by kernel_rfl
@[simp] theorem sz221 : szOf Tryz.prog 221 = some 1 := by kernel_rfl
@[simp] theorem ag221 : aggT Tryz.prog 221 = some false := by kernel_rfl
@[simp] theorem zz221 : zeroA Tryz.prog 221 = some (.int .u32 0) := by kernel_rfl
@[simp] theorem sz222 : szOf Tryz.prog 222 = some 1 := by kernel_rfl
@[simp] theorem ag222 : aggT Tryz.prog 222 = some false := by kernel_rfl
@[simp] theorem zz222 : zeroA Tryz.prog 222 = some (.nilf) := by kernel_rfl
@[simp] theorem sz223 : szOf Tryz.prog 223 = some 1 := by kernel_rfl
@[simp] theorem ag223 : aggT Tryz.prog 223 = some false := by kernel_rfl
@[simp] theorem zz223 : zeroA Tryz.prog 223 = some (.nilf) := by kernel_rfl
@[simp] theorem sz224 : szOf Tryz.prog 224 = some 1 := by kernel_rfl
@[simp] theorem ag224 : aggT Tryz.prog 224 = some false := by kernel_rfl
@[simp] theorem zz224 : zeroA Tryz.prog 224 = some (.nilf) := by kernel_rfl
@[simp] theorem sz225 : szOf Tryz.prog 225 = some 1 := by kernel_rfl
@[simp] theorem ag225 : aggT Tryz.prog 225 = some false := by kernel_rfl
@[simp] theorem zz225 : zeroA Tryz.prog 225 = some (.int .u64 0) := by kernel_rfl
@[simp] theorem sz226 : szOf Tryz.prog 226 = some 1 := by kernel_rfl
@[simp] theorem ag226 : aggT Tryz.prog 226 = some false := by kernel_rfl
@[simp] theorem zz226 : zeroA Tryz.prog 226 = some (.nilf) := by kernel_rfl
@[simp] theorem sz227 : szOf Tryz.prog 227 = some 1 := by kernel_rfl
@[simp] theorem ag227 : aggT Tryz.prog 227 = some false := by kernel_rfl
@[simp] theorem zz227 : zeroA Tryz.prog 227 = some (.nilf) := by kernel_rfl
@[simp] theorem sz228 : szOf Tryz.prog 228 = some 1 := by kernel_rfl
@[simp] theorem ag228 : aggT Tryz.prog 228 = some false := by kernel_rfl
@[simp] theorem zz228 : zeroA Tryz.prog 228 = some (.nilf) := by kernel_rfl
@[simp] theorem sz229 : szOf Tryz.prog 229 = some 1 := by kernel_rfl
@[simp] theorem ag229 : aggT Tryz.prog 229 = some false := by kernel_rfl
@[simp] theorem zz229 : zeroA Tryz.prog 229 = some (.nilp) := by kernel_rfl
@[simp] theorem sz230 : szOf Tryz.prog 230 = some 1 := by kernel_rfl
@[simp] theorem ag230 : aggT Tryz.prog 230 = some false := by kernel_rfl
@[simp] theorem zz230 : zeroA Tryz.prog 230 = some (.nilf) := by kernel_rfl
@[simp] theorem sz231 : szOf Tryz.prog 231 = some 1 := by kernel_rfl
@[simp] theorem ag231 : aggT Tryz.prog 231 = some false := by kernel_rfl
@[simp] theorem zz231 : zeroA Tryz.prog 231 = some (.nilp) := by kernel_rfl
@[simp] theorem sz232 : szOf Tryz.prog 232 = some 1 := by kernel_rfl
@[simp] theorem ag232 : aggT Tryz.prog 232 = some false := by kernel_rfl
@[simp] theorem sz233 : szOf Tryz.prog 233 = some 1 := by kernel_rfl
@[simp] theorem ag233 : aggT Tryz.prog 233 = some false := by kernel_rfl
@[simp] theorem zz233 : zeroA Tryz.prog 233 = some (.nilf) := by kernel_rfl
@[simp] theorem sz234 : szOf Tryz.prog 234 = some 1 := by kernel_rfl
@[simp] theorem ag234 : aggT Tryz.prog 234 = some false := by kernel_rfl
@[simp] theorem zz234 : zeroA Tryz.prog 234 = some (.nilf) := by kernel_rfl
@[simp] theorem sz235 : szOf Tryz.prog 235 = some 4 := by kernel_rfl
@[simp] theorem ag235 : aggT Tryz.prog 235 = some true := by kernel_rfl
@[simp] theorem zz235 : zeroA Tryz.prog 235 = some (.agg [.nilp, .nilp, .nilp, .str ByteArray.empty]) := by kernel_rfl
@[simp] theorem sz236 : szOf Tryz.prog 236 = some 4 := by kernel_rfl
@[simp] theorem ag236 : aggT Tryz.prog 236 = some true := by kernel_rfl
@[simp] theorem zz236 : zeroA Tryz.prog 236 = some (.agg [.nilp, .nilp, .nilp, .str ByteArray.empty]) := by kernel_rfl
@[simp] theorem sz237 : szOf Tryz.prog 237 = some 0 := by kernel_rfl
@[simp] theorem ag237 : aggT Tryz.prog 237 = some true := by kernel_rfl
@[simp] theorem zz237 : zeroA Tryz.prog 237 = some (.agg []) := by kernel_rfl
@[simp] theorem sz238 : szOf Tryz.prog 238 = some 0 := by kernel_rfl
@[simp] theorem ag238 : aggT Tryz.prog 238 = some true := by kernel_rfl
@[simp] theorem zz238 : zeroA Tryz.prog 238 = some (.agg []) := by kernel_rfl
@[simp] theorem sz239 : szOf Tryz.prog 239 = some 0 := by kernel_rfl
@[simp] theorem ag239 : aggT Tryz.prog 239 = some true := by kernel_rfl
@[simp] theorem zz239 : zeroA Tryz.prog 239 = some (.agg []) := by kernel_rfl
@[simp] theorem sz240 : szOf Tryz.prog 240 = some 1 := by kernel_rfl
@[simp] theorem ag240 : aggT Tryz.prog 240 = some false := by kernel_rfl
@[simp] theorem zz240 : zeroA Tryz.prog 240 = some (.nilf) := by kernel_rfl
@[simp] theorem sz241 : szOf Tryz.prog 241 = some 1 := by kernel_rfl
@[simp] theorem ag241 : aggT Tryz.prog 241 = some false := by kernel_rfl
@[simp] theorem zz241 : zeroA Tryz.prog 241 = some (.int .u8 0) := by kernel_rfl
@[simp] theorem sz242 : szOf Tryz.prog 242 = some 1 := by kernel_rfl
@[simp] theorem ag242 : aggT Tryz.prog 242 = some false := by kernel_rfl
@[simp] theorem zz242 : zeroA Tryz.prog 242 = some (.int .u8 0) := by kernel_rfl
@[simp] theorem sz243 : szOf Tryz.prog 243 = some 1 := by kernel_rfl
@[simp] theorem ag243 : aggT Tryz.prog 243 = some false := by kernel_rfl
@[simp] theorem zz243 : zeroA Tryz.prog 243 = some (.nilf) := by kernel_rfl
@[simp] theorem sz244 : szOf Tryz.prog 244 = some 1 := by kernel_rfl
@[simp] theorem ag244 : aggT Tryz.prog 244 = some false := by kernel_rfl
@[simp] theorem zz244 : zeroA Tryz.prog 244 = some (.nilp) := by kernel_rfl
@[simp] theorem sz245 : szOf Tryz.prog 245 = some 1 := by kernel_rfl
@[simp] theorem ag245 : aggT Tryz.prog 245 = some false := by kernel_rfl
@[simp] theorem zz245 : zeroA Tryz.prog 245 = some (.int .i32 0) := by kernel_rfl
@[simp] theorem sz246 : szOf Tryz.prog 246 = some 1 := by kernel_rfl
@[simp] theorem ag246 : aggT Tryz.prog 246 = some false := by kernel_rfl
@[simp] theorem zz246 : zeroA Tryz.prog 246 = some (.int .i32 0) := by kernel_rfl
@[simp] theorem sz247 : szOf Tryz.prog 247 = some 11 := by kernel_rfl
@[simp] theorem ag247 : aggT Tryz.prog 247 = some true := by kernel_rfl
@[simp] theorem zz247 : zeroA Tryz.prog 247 = some (.agg [.int .u64 0, .int .u64 0, .int .u32 0, .int .u8 0, .int .u8 0, .int .u8 0, .int .u8 0, .nilf, .nilp, .int .i32 0, .int .i32 0]) := by kernel_rfl
@[simp] theorem sz248 : szOf Tryz.prog 248 = some 11 := by kernel_rfl
@[simp] theorem ag248 : aggT Tryz.prog 248 = some true := by kernel_rfl
@[simp] theorem zz248 : zeroA Tryz.prog 248 = some (.agg [.int .u64 0, .int .u64 0, .int .u32 0, .int .u8 0, .int .u8 0, .int .u8 0, .int .u8 0, .nilf, .nilp, .int .i32 0, .int .i32 0]) := by kernel_rfl
@[simp] theorem sz249 : szOf Tryz.prog 249 = some 1 := by kernel_rfl
@[simp] theorem ag249 : aggT Tryz.prog 249 = some false := by kernel_rfl
@[simp] theorem zz249 : zeroA Tryz.prog 249 = some (.nilp) := by kernel_rfl
@[simp] theorem ap22 : apT Tryz.prog 22 = some (92, 4, 48) := by kernel_rfl
@[simp] theorem ap25 : apT Tryz.prog 25 = some (5, 1, 1) := by kernel_rfl
@[simp] theorem ap27 : apT Tryz.prog 27 = some (26, 1, 8) := by kernel_rfl
@[simp] theorem ap28 : apT Tryz.prog 28 = some (202, 4, 32) := by kernel_rfl
@[simp] theorem ap29 : apT Tryz.prog 29 = some (9, 1, 16) := by kernel_rfl
@[simp] theorem ap35 : apT Tryz.prog 35 = some (178, 2, 16) := by kernel_rfl
@[simp] theorem ap36 : apT Tryz.prog 36 = some (181, 4, 32) := by kernel_rfl
@[simp] theorem ap39 : apT Tryz.prog 39 = some (2, 1, 8) := by kernel_rfl
@[simp] theorem ap42 : apT Tryz.prog 42 = some (94, 3, 48) := by kernel_rfl
@[simp] theorem ap54 : apT Tryz.prog 54 = some (24, 1, 24) := by kernel_rfl
@[simp] theorem ap55 : apT Tryz.prog 55 = some (46, 45, 536) := by kernel_rfl
@[simp] theorem ap60 : apT Tryz.prog 60 = some (41, 2, 16) := by kernel_rfl
@[simp] theorem ap69 : apT Tryz.prog 69 = some (85, 41, 552) := by kernel_rfl
@[simp] theorem ap76 : apT Tryz.prog 76 = some (71, 2, 32) := by kernel_rfl
@[simp] theorem ap82 : apT Tryz.prog 82 = some (3, 1, 8) := by kernel_rfl
@[simp] theorem ap83 : apT Tryz.prog 83 = some (119, 2, 16) := by kernel_rfl
@[simp] theorem ap87 : apT Tryz.prog 87 = some (44, 36, 464) := by kernel_rfl
@[simp] theorem bt4 : boolT Tryz.prog 4 = true := by kernel_rfl
@[simp] theorem lf7 : leafs Tryz.prog 7 = [2, 3, 4, 6] := by kernel_rfl
@[simp] theorem lf8 : leafs Tryz.prog 8 = [2, 3, 4, 6] := by kernel_rfl
@[simp] theorem lf13 : leafs Tryz.prog 13 = [9, 12] := by kernel_rfl
@[simp] theorem lf14 : leafs Tryz.prog 14 = [9, 12] := by kernel_rfl
@[simp] theorem lf18 : leafs Tryz.prog 18 = [17] := by kernel_rfl
@[simp] theorem lf19 : leafs Tryz.prog 19 = [17] := by kernel_rfl
@[simp] theorem nvn22 : nrmV Tryz.prog 22 .nils = .list 4 [] := by kernel_rfl
@[simp] theorem nvl22 (s : Nat) (rows : List (List AV)) : nrmV Tryz.prog 22 (.list s rows) = .list s (nrmRows Tryz.prog [3, 3, 4, 55] rows) := by
  have h : Tryz.prog.underlying 22 = some (.slice 92) := by kernel_rfl
  have l : leafs Tryz.prog 92 = [3, 3, 4, 55] := by kernel_rfl
  simp only [nrmV, h, l]
@[simp] theorem lf22 : leafs Tryz.prog 22 = [22] := by kernel_rfl
@[simp] theorem lf23 : leafs Tryz.prog 23 = [22] := by kernel_rfl
@[simp] theorem lf24 : leafs Tryz.prog 24 = [22] := by kernel_rfl
@[simp] theorem nvn25 : nrmV Tryz.prog 25 .nils = .list 1 [] := by kernel_rfl
@[simp] theorem nvl25 (s : Nat) (rows : List (List AV)) : nrmV Tryz.prog 25 (.list s rows) = .list s (nrmRows Tryz.prog [5] rows) := by
  have h : Tryz.prog.underlying 25 = some (.slice 5) := by kernel_rfl
  have l : leafs Tryz.prog 5 = [5] := by kernel_rfl
  simp only [nrmV, h, l]
@[simp] theorem lf25 : leafs Tryz.prog 25 = [25] := by kernel_rfl
@[simp] theorem nvn27 : nrmV Tryz.prog 27 .nils = .list 1 [] := by kernel_rfl
@[simp] theorem nvl27 (s : Nat) (rows : List (List AV)) : nrmV Tryz.prog 27 (.list s rows) = .list s (nrmRows Tryz.prog [26] rows) := by
  have h : Tryz.prog.underlying 27 = some (.slice 26) := by kernel_rfl
  have l : leafs Tryz.prog 26 = [26] := by kernel_rfl
  simp only [nrmV, h, l]
@[simp] theorem lf27 : leafs Tryz.prog 27 = [27] := by kernel_rfl
@[simp] theorem nvn28 : nrmV Tryz.prog 28 .nils = .list 4 [] := by kernel_rfl
@[simp] theorem nvl28 (s : Nat) (rows : List (List AV)) : nrmV Tryz.prog 28 (.list s rows) = .list s (nrmRows Tryz.prog [3, 3, 3, 3] rows) := by
  have h : Tryz.prog.underlying 28 = some (.slice 202) := by kernel_rfl
  have l : leafs Tryz.prog 202 = [3, 3, 3, 3] := by kernel_rfl
  simp only [nrmV, h, l]
@[simp] theorem lf28 : leafs Tryz.prog 28 = [28] := by kernel_rfl
@[simp] theorem nvn29 : nrmV Tryz.prog 29 .nils = .list 1 [] := by kernel_rfl
@[simp] theorem nvl29 (s : Nat) (rows : List (List AV)) : nrmV Tryz.prog 29 (.list s rows) = .list s (nrmRows Tryz.prog [9] rows) := by
  have h : Tryz.prog.underlying 29 = some (.slice 9) := by kernel_rfl
  have l : leafs Tryz.prog 9 = [9] := by kernel_rfl
  simp only [nrmV, h, l]
@[simp] theorem lf29 : leafs Tryz.prog 29 = [29] := by kernel_rfl
@[simp] theorem lf30 : leafs Tryz.prog 30 = [28, 29, 3] := by kernel_rfl
@[simp] theorem lf31 : leafs Tryz.prog 31 = [28, 29, 3] := by kernel_rfl
@[simp] theorem lf32 : leafs Tryz.prog 32 = [2, 2, 2, 2, 2, 2, 2, 2] := by kernel_rfl
@[simp] theorem lf33 : leafs Tryz.prog 33 = [3, 2, 2, 2, 2, 2, 2, 2, 2] := by kernel_rfl
@[simp] theorem lf34 : leafs Tryz.prog 34 = [3, 2, 2, 2, 2, 2, 2, 2, 2] := by kernel_rfl
@[simp] theorem nvn35 : nrmV Tryz.prog 35 .nils = .list 2 [] := by kernel_rfl
@[simp] theorem nvl35 (s : Nat) (rows : List (List AV)) : nrmV Tryz.prog 35 (.list s rows) = .list s (nrmRows Tryz.prog [26, 4] rows) := by
  have h : Tryz.prog.underlying 35 = some (.slice 178) := by kernel_rfl
  have l : leafs Tryz.prog 178 = [26, 4] := by kernel_rfl
  simp only [nrmV, h, l]
@[simp] theorem lf35 : leafs Tryz.prog 35 = [35] := by kernel_rfl
@[simp] theorem nvn36 : nrmV Tryz.prog 36 .nils = .list 4 [] := by kernel_rfl
@[simp] theorem nvl36 (s : Nat) (rows : List (List AV)) : nrmV Tryz.prog 36 (.list s rows) = .list s (nrmRows Tryz.prog [3, 26, 26, 3] rows) := by
  have h : Tryz.prog.underlying 36 = some (.slice 181) := by kernel_rfl
  have l : leafs Tryz.prog 181 = [3, 26, 26, 3] := by kernel_rfl
  simp only [nrmV, h, l]
@[simp] theorem lf36 : leafs Tryz.prog 36 = [36] := by kernel_rfl
@[simp] theorem lf37 : leafs Tryz.prog 37 = [3, 26, 27, 28, 29, 3, 3, 2, 2, 2, 2, 2, 2, 2, 2, 35, 36, 2, 2, 2] := by kernel_rfl
@[simp] theorem lf38 : leafs Tryz.prog 38 = [3, 26, 27, 28, 29, 3, 3, 2, 2, 2, 2, 2, 2, 2, 2, 35, 36, 2, 2, 2] := by kernel_rfl
@[simp] theorem nvn39 : nrmV Tryz.prog 39 .nils = .list 1 [] := by kernel_rfl
@[simp] theorem nvl39 (s : Nat) (rows : List (List AV)) : nrmV Tryz.prog 39 (.list s rows) = .list s (nrmRows Tryz.prog [2] rows) := by
  have h : Tryz.prog.underlying 39 = some (.slice 2) := by kernel_rfl
  have l : leafs Tryz.prog 2 = [2] := by kernel_rfl
  simp only [nrmV, h, l]
@[simp] theorem lf39 : leafs Tryz.prog 39 = [39] := by kernel_rfl
@[simp] theorem lf40 : leafs Tryz.prog 40 = [25, 25] := by kernel_rfl
@[simp] theorem lf41 : leafs Tryz.prog 41 = [3, 3] := by kernel_rfl
@[simp] theorem nvn42 : nrmV Tryz.prog 42 .nils = .list 3 [] := by kernel_rfl
@[simp] theorem nvl42 (s : Nat) (rows : List (List AV)) : nrmV Tryz.prog 42 (.list s rows) = .list s (nrmRows Tryz.prog [9, 3, 27] rows) := by
  have h : Tryz.prog.underlying 42 = some (.slice 94) := by kernel_rfl
  have l : leafs Tryz.prog 94 = [9, 3, 27] := by kernel_rfl
  simp only [nrmV, h, l]
@[simp] theorem lf42 : leafs Tryz.prog 42 = [42] := by kernel_rfl
@[simp] theorem lf43 : leafs Tryz.prog 43 = [26, 3, 3, 3, 26, 27, 28, 29, 3, 3, 2, 2, 2, 2, 2, 2, 2, 2, 35, 36, 2, 2, 2, 39, 25, 3, 26, 3, 3, 27, 25, 25, 3, 3, 2, 42] := by kernel_rfl
@[simp] theorem lf44 : leafs Tryz.prog 44 = [26, 3, 3, 3, 26, 27, 28, 29, 3, 3, 2, 2, 2, 2, 2, 2, 2, 2, 35, 36, 2, 2, 2, 39, 25, 3, 26, 3, 3, 27, 25, 25, 3, 3, 2, 42] := by kernel_rfl
@[simp] theorem lf45 : leafs Tryz.prog 45 = [3, 3, 3, 26, 3, 26, 3, 3, 3, 26, 27, 28, 29, 3, 3, 2, 2, 2, 2, 2, 2, 2, 2, 35, 36, 2, 2, 2, 39, 25, 3, 26, 3, 3, 27, 25, 25, 3, 3, 2, 42, 26, 2, 26, 3] := by kernel_rfl
@[simp] theorem lf46 : leafs Tryz.prog 46 = [3, 3, 3, 26, 3, 26, 3, 3, 3, 26, 27, 28, 29, 3, 3, 2, 2, 2, 2, 2, 2, 2, 2, 35, 36, 2, 2, 2, 39, 25, 3, 26, 3, 3, 27, 25, 25, 3, 3, 2, 42, 26, 2, 26, 3] := by kernel_rfl
@[simp] theorem nvn54 : nrmV Tryz.prog 54 .nils = .list 1 [] := by kernel_rfl
@[simp] theorem nvl54 (s : Nat) (rows : List (List AV)) : nrmV Tryz.prog 54 (.list s rows) = .list s (nrmRows Tryz.prog [22] rows) := by
  have h : Tryz.prog.underlying 54 = some (.slice 24) := by kernel_rfl
  have l : leafs Tryz.prog 24 = [22] := by kernel_rfl
  simp only [nrmV, h, l]
@[simp] theorem lf54 : leafs Tryz.prog 54 = [54] := by kernel_rfl
@[simp] theorem nvn55 : nrmV Tryz.prog 55 .nils = .list 45 [] := by kernel_rfl
@[simp] theorem nvl55 (s : Nat) (rows : List (List AV)) : nrmV Tryz.prog 55 (.list s rows) = .list s (nrmRows Tryz.prog [3, 3, 3, 26, 3, 26, 3, 3, 3, 26, 27, 28, 29, 3, 3, 2, 2, 2, 2, 2, 2, 2, 2, 35, 36, 2, 2, 2, 39, 25, 3, 26, 3, 3, 27, 25, 25, 3, 3, 2, 42, 26, 2, 26, 3] rows) := by
  have h : Tryz.prog.underlying 55 = some (.slice 46) := by kernel_rfl
  have l : leafs Tryz.prog 46 = [3, 3, 3, 26, 3, 26, 3, 3, 3, 26, 27, 28, 29, 3, 3, 2, 2, 2, 2, 2, 2, 2, 2, 35, 36, 2, 2, 2, 39, 25, 3, 26, 3, 3, 27, 25, 25, 3, 3, 2, 42, 26, 2, 26, 3] := by kernel_rfl
  simp only [nrmV, h, l]
@[simp] theorem lf55 : leafs Tryz.prog 55 = [55] := by kernel_rfl
@[simp] theorem nvn60 : nrmV Tryz.prog 60 .nils = .list 2 [] := by kernel_rfl
@[simp] theorem nvl60 (s : Nat) (rows : List (List AV)) : nrmV Tryz.prog 60 (.list s rows) = .list s (nrmRows Tryz.prog [3, 3] rows) := by
  have h : Tryz.prog.underlying 60 = some (.slice 41) := by kernel_rfl
  have l : leafs Tryz.prog 41 = [3, 3] := by kernel_rfl
  simp only [nrmV, h, l]
@[simp] theorem lf60 : leafs Tryz.prog 60 = [60] := by kernel_rfl
@[simp] theorem nvn69 : nrmV Tryz.prog 69 .nils = .list 41 [] := by kernel_rfl
@[simp] theorem nvl69 (s : Nat) (rows : List (List AV)) : nrmV Tryz.prog 69 (.list s rows) = .list s (nrmRows Tryz.prog [26, 3, 82, 26, 3, 3, 3, 26, 27, 28, 29, 3, 3, 2, 2, 2, 2, 2, 2, 2, 2, 35, 36, 2, 2, 2, 39, 25, 3, 26, 3, 3, 27, 25, 25, 3, 3, 2, 42, 82, 83] rows) := by
  have h : Tryz.prog.underlying 69 = some (.slice 85) := by kernel_rfl
  have l : leafs Tryz.prog 85 = [26, 3, 82, 26, 3, 3, 3, 26, 27, 28, 29, 3, 3, 2, 2, 2, 2, 2, 2, 2, 2, 35, 36, 2, 2, 2, 39, 25, 3, 26, 3, 3, 27, 25, 25, 3, 3, 2, 42, 82, 83] := by kernel_rfl
  simp only [nrmV, h, l]
@[simp] theorem lf69 : leafs Tryz.prog 69 = [69] := by kernel_rfl
@[simp] theorem lf70 : leafs Tryz.prog 70 = [3, 69] := by kernel_rfl
@[simp] theorem lf71 : leafs Tryz.prog 71 = [3, 69] := by kernel_rfl
@[simp] theorem nvn76 : nrmV Tryz.prog 76 .nils = .list 2 [] := by kernel_rfl
@[simp] theorem nvl76 (s : Nat) (rows : List (List AV)) : nrmV Tryz.prog 76 (.list s rows) = .list s (nrmRows Tryz.prog [3, 69] rows) := by
  have h : Tryz.prog.underlying 76 = some (.slice 71) := by kernel_rfl
  have l : leafs Tryz.prog 71 = [3, 69] := by kernel_rfl
  simp only [nrmV, h, l]
@[simp] theorem lf76 : leafs Tryz.prog 76 = [76] := by kernel_rfl
@[simp] theorem nvn82 : nrmV Tryz.prog 82 .nils = .list 1 [] := by kernel_rfl
@[simp] theorem nvl82 (s : Nat) (rows : List (List AV)) : nrmV Tryz.prog 82 (.list s rows) = .list s (nrmRows Tryz.prog [3] rows) := by
  have h : Tryz.prog.underlying 82 = some (.slice 3) := by kernel_rfl
  have l : leafs Tryz.prog 3 = [3] := by kernel_rfl
  simp only [nrmV, h, l]
@[simp] theorem lf82 : leafs Tryz.prog 82 = [82] := by kernel_rfl
@[simp] theorem nvn83 : nrmV Tryz.prog 83 .nils = .list 2 [] := by kernel_rfl
@[simp] theorem nvl83 (s : Nat) (rows : List (List AV)) : nrmV Tryz.prog 83 (.list s rows) = .list s (nrmRows Tryz.prog [3, 3] rows) := by
  have h : Tryz.prog.underlying 83 = some (.slice 119) := by kernel_rfl
  have l : leafs Tryz.prog 119 = [3, 3] := by kernel_rfl
  simp only [nrmV, h, l]
@[simp] theorem lf83 : leafs Tryz.prog 83 = [83] := by kernel_rfl
@[simp] theorem lf84 : leafs Tryz.prog 84 = [26, 3, 82, 26, 3, 3, 3, 26, 27, 28, 29, 3, 3, 2, 2, 2, 2, 2, 2, 2, 2, 35, 36, 2, 2, 2, 39, 25, 3, 26, 3, 3, 27, 25, 25, 3, 3, 2, 42, 82, 83] := by kernel_rfl
@[simp] theorem lf85 : leafs Tryz.prog 85 = [26, 3, 82, 26, 3, 3, 3, 26, 27, 28, 29, 3, 3, 2, 2, 2, 2, 2, 2, 2, 2, 35, 36, 2, 2, 2, 39, 25, 3, 26, 3, 3, 27, 25, 25, 3, 3, 2, 42, 82, 83] := by kernel_rfl
@[simp] theorem nvn87 : nrmV Tryz.prog 87 .nils = .list 36 [] := by kernel_rfl
@[simp] theorem nvl87 (s : Nat) (rows : List (List AV)) : nrmV Tryz.prog 87 (.list s rows) = .list s (nrmRows Tryz.prog [26, 3, 3, 3, 26, 27, 28, 29, 3, 3, 2, 2, 2, 2, 2, 2, 2, 2, 35, 36, 2, 2, 2, 39, 25, 3, 26, 3, 3, 27, 25, 25, 3, 3, 2, 42] rows) := by
  have h : Tryz.prog.underlying 87 = some (.slice 44) := by kernel_rfl
  have l : leafs Tryz.prog 44 = [26, 3, 3, 3, 26, 27, 28, 29, 3, 3, 2, 2, 2, 2, 2, 2, 2, 2, 35, 36, 2, 2, 2, 39, 25, 3, 26, 3, 3, 27, 25, 25, 3, 3, 2, 42] := by kernel_rfl
  simp only [nrmV, h, l]
@[simp] theorem lf87 : leafs Tryz.prog 87 = [87] := by kernel_rfl
@[simp] theorem lf91 : leafs Tryz.prog 91 = [3, 3, 4, 55] := by kernel_rfl
@[simp] theorem lf92 : leafs Tryz.prog 92 = [3, 3, 4, 55] := by kernel_rfl
@[simp] theorem lf93 : leafs Tryz.prog 93 = [9, 3, 27] := by kernel_rfl
@[simp] theorem lf94 : leafs Tryz.prog 94 = [9, 3, 27] := by kernel_rfl
@[simp] theorem lf97 : leafs Tryz.prog 97 = [25] := by kernel_rfl
@[simp] theorem lf98 : leafs Tryz.prog 98 = [25] := by kernel_rfl
@[simp] theorem lf116 : leafs Tryz.prog 116 = [26, 3, 82, 26, 3, 3, 3, 26, 27, 28, 29, 3, 3, 2, 2, 2, 2, 2, 2, 2, 2, 35, 36, 2, 2, 2, 39, 25, 3, 26, 3, 3, 27, 25, 25, 3, 3, 2, 42, 82, 83, 3, 55] := by kernel_rfl
@[simp] theorem lf117 : leafs Tryz.prog 117 = [26, 3, 82, 26, 3, 3, 3, 26, 27, 28, 29, 3, 3, 2, 2, 2, 2, 2, 2, 2, 2, 35, 36, 2, 2, 2, 39, 25, 3, 26, 3, 3, 27, 25, 25, 3, 3, 2, 42, 82, 83, 3, 55] := by kernel_rfl
@[simp] theorem lf118 : leafs Tryz.prog 118 = [3, 3] := by kernel_rfl
@[simp] theorem lf119 : leafs Tryz.prog 119 = [3, 3] := by kernel_rfl
@[simp] theorem lf177 : leafs Tryz.prog 177 = [26, 4] := by kernel_rfl
@[simp] theorem lf178 : leafs Tryz.prog 178 = [26, 4] := by kernel_rfl
@[simp] theorem lf180 : leafs Tryz.prog 180 = [3, 26, 26, 3] := by kernel_rfl
@[simp] theorem lf181 : leafs Tryz.prog 181 = [3, 26, 26, 3] := by kernel_rfl
@[simp] theorem lf201 : leafs Tryz.prog 201 = [3, 3, 3, 3] := by kernel_rfl
@[simp] theorem lf202 : leafs Tryz.prog 202 = [3, 3, 3, 3] := by kernel_rfl
@[simp] theorem lf235 : leafs Tryz.prog 235 = [17, 17, 17, 9] := by kernel_rfl
@[simp] theorem lf236 : leafs Tryz.prog 236 = [17, 17, 17, 9] := by kernel_rfl
@[simp] theorem lf237 : leafs Tryz.prog 237 = [] := by kernel_rfl
@[simp] theorem lf238 : leafs Tryz.prog 238 = [] := by kernel_rfl
@[simp] theorem lf239 : leafs Tryz.prog 239 = [] := by kernel_rfl
@[simp] theorem lf247 : leafs Tryz.prog 247 = [12, 12, 221, 241, 5, 5, 242, 243, 244, 245, 246] := by kernel_rfl
@[simp] theorem lf248 : leafs Tryz.prog 248 = [12, 12, 221, 241, 5, 5, 242, 243, 244, 245, 246] := by kernel_rfl
attribute [simp] runL runG stopG newF List.findIdx?_cons List.findIdx?_nil List.idxOf?_cons List.idxOf?_nil headG stepA execA_eq skipA run_ret run_fail run_get run_put run_asm num lk st lk_st putA AS.ev ofValue ofFlat mkv splice fieldAddrA buildA fillA runF gdst pickA unOpA extractA resVs resV pack frzT inlT inlV frzV frzVs frzL frz1 newId AV.cellsOf AV.flat AV.flat2 specOf loadA_runR capA copyA copyTo srcA sliceCA slice3A appendZA extA AV.place lenCA clearA clearTo expG expB3 List.zipWith renL fF handB renB AV.ren backF backL idsOf freshIds refsL refsB AV.refs List.range List.range.loop placesA sliceRows rowsOf convertA sliceArrA sliceA bndA nilCheckA arrayAtA mmA lookupA keyOf keyOK findA keyEqA foundA makeMapA mapUpdateA appendA rowsA indexA partA fieldA retE2 frqT frqV frqVs frqL frq1 reachE blkRefs outE nodupE firstE seqO expB2 expF
end Go.Abs.Nz
namespace Go.Abs.Nz
open Go Go.Proofs Go.Abs
set_option maxRecDepth 100000
set_option maxHeartbeats 4000000
set_option linter.unusedSimpArgs false
set_option linter.unusedVariables false
theorem vc2 : Tryz.prog.cellsOf 2 = 1 := by kernel_rfl
theorem vc5 : Tryz.prog.cellsOf 5 = 1 := by kernel_rfl
theorem vc26 : Tryz.prog.cellsOf 26 = 1 := by kernel_rfl
theorem vc94 : Tryz.prog.cellsOf 94 = 3 := by kernel_rfl
theorem viewObject {xs : List AV} (h : TyR Tryz.prog 8 44 xs) : ∃ (x0 : Int) (x1 : Int) (x2 : Int) (x3 : List AV) (x4 : List (List AV)) (x5 : List (List AV)) (x6 : Int) (x7 : Int) (x8 : Int) (x9 : Int) (x10 : List (List AV)) (x11 : List (List AV)) (x12 : List (List AV)) (x13 : Int) (x14 : Int) (x15 : Int) (x16 : List (List AV)), xs = .int .u64 x0 :: (.int .i64 x1 :: (.int .i64 x2 :: (x3 ++ ([.list 1 x4, .list 1 x5, .int .i64 x6, .int .u64 x7, .int .i64 x8, .int .i64 x9, .list 1 x10, .list 1 x11, .list 1 x12, .int .i64 x13, .int .i64 x14, .int .i64 x15, .list 3 x16])))) ∧ (Lit.int .u64 x0).wf = true ∧ (Lit.int .i64 x1).wf = true ∧ (Lit.int .i64 x2).wf = true ∧ TyR Tryz.prog 8 38 x3 ∧ (∀ r ∈ x4, TyR Tryz.prog 8 2 r) ∧ (∀ r ∈ x5, TyR Tryz.prog 8 5 r) ∧ (Lit.int .i64 x6).wf = true ∧ (Lit.int .u64 x7).wf = true ∧ (Lit.int .i64 x8).wf = true ∧ (Lit.int .i64 x9).wf = true ∧ (∀ r ∈ x10, TyR Tryz.prog 8 26 r) ∧ (∀ r ∈ x11, TyR Tryz.prog 8 5 r) ∧ (∀ r ∈ x12, TyR Tryz.prog 8 5 r) ∧ (Lit.int .i64 x13).wf = true ∧ (Lit.int .i64 x14).wf = true ∧ (Lit.int .i64 x15).wf = true ∧ (∀ r ∈ x16, TyR Tryz.prog 8 94 r) := by
  simp only [TyFs, TyR_int Tryz.underlying2, TyR_int Tryz.underlying3, TyR_slice Tryz.underlying25, TyR_int Tryz.underlying26, TyR_slice Tryz.underlying27, TyR_slice Tryz.underlying39, TyR_array Tryz.underlying40, TyR_array Tryz.underlying41, TyR_slice Tryz.underlying42, TyR_struct Tryz.underlying44, vc2, vc5, vc26, vc94, List.map_cons, List.map_nil, List.replicate] at h
  obtain ⟨_, _, rfl, ⟨x0, rfl, w0⟩, ⟨_, _, rfl, ⟨x1, rfl, w1⟩, ⟨_, _, rfl, ⟨x2, rfl, w2⟩, ⟨x3, _, rfl, w3, ⟨_, _, rfl, ⟨x4, rfl, _, w4⟩, ⟨_, _, rfl, ⟨x5, rfl, _, w5⟩, ⟨_, _, rfl, ⟨x6, rfl, w6⟩, ⟨_, _, rfl, ⟨x7, rfl, w7⟩, ⟨_, _, rfl, ⟨x8, rfl, w8⟩, ⟨_, _, rfl, ⟨x9, rfl, w9⟩, ⟨_, _, rfl, ⟨x10, rfl, _, w10⟩, ⟨_, _, rfl, ⟨_, _, rfl, ⟨x11, rfl, _, w11⟩, ⟨_, _, rfl, ⟨x12, rfl, _, w12⟩, rfl⟩⟩, ⟨_, _, rfl, ⟨_, _, rfl, ⟨x13, rfl, w13⟩, ⟨_, _, rfl, ⟨x14, rfl, w14⟩, rfl⟩⟩, ⟨_, _, rfl, ⟨x15, rfl, w15⟩, ⟨_, _, rfl, ⟨x16, rfl, _, w16⟩, rfl⟩⟩⟩⟩⟩⟩⟩⟩⟩⟩⟩⟩⟩⟩⟩ := h
  refine ⟨x0, x1, x2, x3, x4, x5, x6, x7, x8, x9, x10, x11, x12, x13, x14, x15, x16, ?_, w0, w1, w2, TyR.monoN (by omega) w3, (fun r hr => TyR.monoN (by omega) (w4 r hr)), (fun r hr => TyR.monoN (by omega) (w5 r hr)), w6, w7, w8, w9, (fun r hr => TyR.monoN (by omega) (w10 r hr)), (fun r hr => TyR.monoN (by omega) (w11 r hr)), (fun r hr => TyR.monoN (by omega) (w12 r hr)), w13, w14, w15, (fun r hr => TyR.monoN (by omega) (w16 r hr))⟩
  simp only [List.cons_append, List.nil_append, List.append_nil, List.append_assoc]
theorem vc9 : Tryz.prog.cellsOf 9 = 1 := by kernel_rfl
theorem vc202 : Tryz.prog.cellsOf 202 = 4 := by kernel_rfl
theorem viewProgram {xs : List AV} (h : TyR Tryz.prog 8 31 xs) : ∃ (x0 : List (List AV)) (x1 : List (List AV)) (x2 : Int), xs = [.list 4 x0, .list 1 x1, .int .i64 x2] ∧ (∀ r ∈ x0, TyR Tryz.prog 8 202 r) ∧ (∀ r ∈ x1, TyR Tryz.prog 8 9 r) ∧ (Lit.int .i64 x2).wf = true := by
  simp only [TyFs, TyR_int Tryz.underlying3, TyR_slice Tryz.underlying28, TyR_slice Tryz.underlying29, TyR_struct Tryz.underlying31, vc9, vc202, List.map_cons, List.map_nil, List.replicate] at h
  obtain ⟨_, _, rfl, ⟨x0, rfl, _, w0⟩, ⟨_, _, rfl, ⟨x1, rfl, _, w1⟩, ⟨_, _, rfl, ⟨x2, rfl, w2⟩, rfl⟩⟩⟩ := h
  refine ⟨x0, x1, x2, ?_, (fun r hr => TyR.monoN (by omega) (w0 r hr)), (fun r hr => TyR.monoN (by omega) (w1 r hr)), w2⟩
  simp only [List.cons_append, List.nil_append, List.append_nil, List.append_assoc]
theorem viewCPU {xs : List AV} (h : TyR Tryz.prog 8 34 xs) : ∃ (x0 : Int) (x1 : Int) (x2 : Int) (x3 : Int) (x4 : Int) (x5 : Int) (x6 : Int) (x7 : Int) (x8 : Int), xs = [.int .i64 x0, .int .i64 x1, .int .i64 x2, .int .i64 x3, .int .i64 x4, .int .i64 x5, .int .i64 x6, .int .i64 x7, .int .i64 x8] ∧ (Lit.int .i64 x0).wf = true ∧ (Lit.int .i64 x1).wf = true ∧ (Lit.int .i64 x2).wf = true ∧ (Lit.int .i64 x3).wf = true ∧ (Lit.int .i64 x4).wf = true ∧ (Lit.int .i64 x5).wf = true ∧ (Lit.int .i64 x6).wf = true ∧ (Lit.int .i64 x7).wf = true ∧ (Lit.int .i64 x8).wf = true := by
  simp only [TyFs, TyR_int Tryz.underlying2, TyR_int Tryz.underlying3, TyR_array Tryz.underlying32, TyR_struct Tryz.underlying34, List.map_cons, List.map_nil, List.replicate] at h
  obtain ⟨_, _, rfl, ⟨x0, rfl, w0⟩, ⟨_, _, rfl, ⟨_, _, rfl, ⟨x1, rfl, w1⟩, ⟨_, _, rfl, ⟨x2, rfl, w2⟩, ⟨_, _, rfl, ⟨x3, rfl, w3⟩, ⟨_, _, rfl, ⟨x4, rfl, w4⟩, ⟨_, _, rfl, ⟨x5, rfl, w5⟩, ⟨_, _, rfl, ⟨x6, rfl, w6⟩, ⟨_, _, rfl, ⟨x7, rfl, w7⟩, ⟨_, _, rfl, ⟨x8, rfl, w8⟩, rfl⟩⟩⟩⟩⟩⟩⟩⟩, rfl⟩⟩ := h
  refine ⟨x0, x1, x2, x3, x4, x5, x6, x7, x8, ?_, w0, w1, w2, w3, w4, w5, w6, w7, w8⟩
  simp only [List.cons_append, List.nil_append, List.append_nil, List.append_assoc]
theorem vc178 : Tryz.prog.cellsOf 178 = 2 := by kernel_rfl
theorem vc181 : Tryz.prog.cellsOf 181 = 4 := by kernel_rfl
theorem viewProcess {xs : List AV} (h : TyR Tryz.prog 8 38 xs) : ∃ (x0 : Int) (x1 : Int) (x2 : List (List AV)) (x3 : List AV) (x4 : List AV) (x5 : List (List AV)) (x6 : List (List AV)) (x7 : Int) (x8 : Int) (x9 : Int), xs = .int .i64 x0 :: (.int .u64 x1 :: (.list 1 x2 :: (x3 ++ (x4 ++ ([.list 2 x5, .list 4 x6, .int .i64 x7, .int .i64 x8, .int .i64 x9]))))) ∧ (Lit.int .i64 x0).wf = true ∧ (Lit.int .u64 x1).wf = true ∧ (∀ r ∈ x2, TyR Tryz.prog 8 26 r) ∧ TyR Tryz.prog 8 31 x3 ∧ TyR Tryz.prog 8 34 x4 ∧ (∀ r ∈ x5, TyR Tryz.prog 8 178 r) ∧ (∀ r ∈ x6, TyR Tryz.prog 8 181 r) ∧ (Lit.int .i64 x7).wf = true ∧ (Lit.int .i64 x8).wf = true ∧ (Lit.int .i64 x9).wf = true := by
  simp only [TyFs, TyR_int Tryz.underlying2, TyR_int Tryz.underlying3, TyR_int Tryz.underlying26, TyR_slice Tryz.underlying27, TyR_slice Tryz.underlying35, TyR_slice Tryz.underlying36, TyR_struct Tryz.underlying38, vc26, vc178, vc181, List.map_cons, List.map_nil, List.replicate] at h
  obtain ⟨_, _, rfl, ⟨x0, rfl, w0⟩, ⟨_, _, rfl, ⟨x1, rfl, w1⟩, ⟨_, _, rfl, ⟨x2, rfl, _, w2⟩, ⟨x3, _, rfl, w3, ⟨x4, _, rfl, w4, ⟨_, _, rfl, ⟨x5, rfl, _, w5⟩, ⟨_, _, rfl, ⟨x6, rfl, _, w6⟩, ⟨_, _, rfl, ⟨x7, rfl, w7⟩, ⟨_, _, rfl, ⟨x8, rfl, w8⟩, ⟨_, _, rfl, ⟨x9, rfl, w9⟩, rfl⟩⟩⟩⟩⟩⟩⟩⟩⟩⟩ := h
  refine ⟨x0, x1, x2, x3, x4, x5, x6, x7, x8, x9, ?_, w0, w1, (fun r hr => TyR.monoN (by omega) (w2 r hr)), TyR.monoN (by omega) w3, TyR.monoN (by omega) w4, (fun r hr => TyR.monoN (by omega) (w5 r hr)), (fun r hr => TyR.monoN (by omega) (w6 r hr)), w7, w8, w9⟩
  simp only [List.cons_append, List.nil_append, List.append_nil, List.append_assoc]
theorem viewName {xs : List AV} (h : TyR Tryz.prog 8 94 xs) : ∃ (x0 : ByteArray) (x1 : Int) (x2 : List (List AV)), xs = [.str x0, .int .i64 x1, .list 1 x2] ∧ (Lit.int .i64 x1).wf = true ∧ (∀ r ∈ x2, TyR Tryz.prog 8 26 r) := by
  simp only [TyFs, TyR_int Tryz.underlying3, TyR_string Tryz.underlying9, TyR_slice Tryz.underlying27, TyR_struct Tryz.underlying94, vc26, List.map_cons, List.map_nil, List.replicate] at h
  obtain ⟨_, _, rfl, ⟨x0, rfl, _⟩, ⟨_, _, rfl, ⟨x1, rfl, w1⟩, ⟨_, _, rfl, ⟨x2, rfl, _, w2⟩, rfl⟩⟩⟩ := h
  refine ⟨x0, x1, x2, ?_, w1, (fun r hr => TyR.monoN (by omega) (w2 r hr))⟩
  simp only [List.cons_append, List.nil_append, List.append_nil, List.append_assoc]
theorem viewInstr {xs : List AV} (h : TyR Tryz.prog 8 202 xs) : ∃ (x0 : Int) (x1 : Int) (x2 : Int) (x3 : Int), xs = [.int .i64 x0, .int .i64 x1, .int .i64 x2, .int .i64 x3] ∧ (Lit.int .i64 x0).wf = true ∧ (Lit.int .i64 x1).wf = true ∧ (Lit.int .i64 x2).wf = true ∧ (Lit.int .i64 x3).wf = true := by
  simp only [TyFs, TyR_int Tryz.underlying3, TyR_struct Tryz.underlying202, List.map_cons, List.map_nil, List.replicate] at h
  obtain ⟨_, _, rfl, ⟨x0, rfl, w0⟩, ⟨_, _, rfl, ⟨x1, rfl, w1⟩, ⟨_, _, rfl, ⟨x2, rfl, w2⟩, ⟨_, _, rfl, ⟨x3, rfl, w3⟩, rfl⟩⟩⟩⟩ := h
  refine ⟨x0, x1, x2, x3, ?_, w0, w1, w2, w3⟩
  simp only [List.cons_append, List.nil_append, List.append_nil, List.append_assoc]
theorem viewSlot {xs : List AV} (h : TyR Tryz.prog 8 181 xs) : ∃ (x0 : Int) (x1 : Int) (x2 : Int) (x3 : Int), xs = [.int .i64 x0, .int .u64 x1, .int .u64 x2, .int .i64 x3] ∧ (Lit.int .i64 x0).wf = true ∧ (Lit.int .u64 x1).wf = true ∧ (Lit.int .u64 x2).wf = true ∧ (Lit.int .i64 x3).wf = true := by
  simp only [TyFs, TyR_int Tryz.underlying3, TyR_int Tryz.underlying26, TyR_struct Tryz.underlying181, List.map_cons, List.map_nil, List.replicate] at h
  obtain ⟨_, _, rfl, ⟨x0, rfl, w0⟩, ⟨_, _, rfl, ⟨x1, rfl, w1⟩, ⟨_, _, rfl, ⟨x2, rfl, w2⟩, ⟨_, _, rfl, ⟨x3, rfl, w3⟩, rfl⟩⟩⟩⟩ := h
  refine ⟨x0, x1, x2, x3, ?_, w0, w1, w2, w3⟩
  simp only [List.cons_append, List.nil_append, List.append_nil, List.append_assoc]
theorem viewPageRef {xs : List AV} (h : TyR Tryz.prog 8 178 xs) : ∃ (x0 : Int) (x1 : Bool), xs = [.int .u64 x0, .bool x1] ∧ (Lit.int .u64 x0).wf = true := by
  simp only [TyFs, TyR_bool Tryz.underlying4, TyR_int Tryz.underlying26, TyR_struct Tryz.underlying178, List.map_cons, List.map_nil, List.replicate] at h
  obtain ⟨_, _, rfl, ⟨x0, rfl, w0⟩, ⟨_, _, rfl, ⟨x1, rfl⟩, rfl⟩⟩ := h
  refine ⟨x0, x1, ?_, w0⟩
  simp only [List.cons_append, List.nil_append, List.append_nil, List.append_assoc]
theorem vc3 : Tryz.prog.cellsOf 3 = 1 := by kernel_rfl
theorem vc119 : Tryz.prog.cellsOf 119 = 2 := by kernel_rfl
theorem viewEntry {xs : List AV} (h : TyR Tryz.prog 8 85 xs) : ∃ (x0 : Int) (x1 : Int) (x2 : List (List AV)) (x3 : List AV) (x4 : List (List AV)) (x5 : List (List AV)), xs = .int .u64 x0 :: (.int .i64 x1 :: (.list 1 x2 :: (x3 ++ ([.list 1 x4, .list 2 x5])))) ∧ (Lit.int .u64 x0).wf = true ∧ (Lit.int .i64 x1).wf = true ∧ (∀ r ∈ x2, TyR Tryz.prog 8 3 r) ∧ TyR Tryz.prog 8 44 x3 ∧ (∀ r ∈ x4, TyR Tryz.prog 8 3 r) ∧ (∀ r ∈ x5, TyR Tryz.prog 8 119 r) := by
  simp only [TyFs, TyR_int Tryz.underlying3, TyR_int Tryz.underlying26, TyR_slice Tryz.underlying82, TyR_slice Tryz.underlying83, TyR_struct Tryz.underlying85, vc3, vc119, List.map_cons, List.map_nil, List.replicate] at h
  obtain ⟨_, _, rfl, ⟨x0, rfl, w0⟩, ⟨_, _, rfl, ⟨x1, rfl, w1⟩, ⟨_, _, rfl, ⟨x2, rfl, _, w2⟩, ⟨x3, _, rfl, w3, ⟨_, _, rfl, ⟨x4, rfl, _, w4⟩, ⟨_, _, rfl, ⟨x5, rfl, _, w5⟩, rfl⟩⟩⟩⟩⟩⟩ := h
  refine ⟨x0, x1, x2, x3, x4, x5, ?_, w0, w1, (fun r hr => TyR.monoN (by omega) (w2 r hr)), TyR.monoN (by omega) w3, (fun r hr => TyR.monoN (by omega) (w4 r hr)), (fun r hr => TyR.monoN (by omega) (w5 r hr))⟩
  simp only [List.cons_append, List.nil_append, List.append_nil, List.append_assoc]
theorem viewAsk {xs : List AV} (h : TyR Tryz.prog 8 119 xs) : ∃ (x0 : Int) (x1 : Int), xs = [.int .i64 x0, .int .i64 x1] ∧ (Lit.int .i64 x0).wf = true ∧ (Lit.int .i64 x1).wf = true := by
  simp only [TyFs, TyR_int Tryz.underlying3, TyR_struct Tryz.underlying119, List.map_cons, List.map_nil, List.replicate] at h
  obtain ⟨_, _, rfl, ⟨x0, rfl, w0⟩, ⟨_, _, rfl, ⟨x1, rfl, w1⟩, rfl⟩⟩ := h
  refine ⟨x0, x1, ?_, w0, w1⟩
  simp only [List.cons_append, List.nil_append, List.append_nil, List.append_assoc]
end Go.Abs.Nz
