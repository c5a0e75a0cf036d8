/- Facts about types. Conditions: none. -/
import Derived.Test.YtphclapfniepoaaGreatAb8
import Derived.Test.YtphclapfniepoaaGreatProg
import Derived.KernelRfl
namespace Go.Abs.Nx
open Go Go.Proofs Go.Abs
set_option maxRecDepth 100000
section
@[simp] theorem sz0 : szOf Tryz.prog 0 = some 1 := by kernel_rfl
@[simp] theorem ag0 : aggT Tryz.prog 0 = some false := by kernel_rfl
@[simp] theorem sz1 : szOf Tryz.prog 1 = some 1 := by kernel_rfl
@[simp] theorem ag1 : aggT Tryz.prog 1 = some false := by kernel_rfl
@[simp] theorem zz1 : zeroA Tryz.prog 1 = some (.nilf) := by kernel_rfl
@[simp] theorem sz2 : szOf Tryz.prog 2 = some 1 := by kernel_rfl
@[simp] theorem ag2 : aggT Tryz.prog 2 = some false := by kernel_rfl
@[simp] theorem zz2 : zeroA Tryz.prog 2 = some (.int .i64 0) := by kernel_rfl
@[simp] theorem sz3 : szOf Tryz.prog 3 = some 1 := by kernel_rfl
@[simp] theorem ag3 : aggT Tryz.prog 3 = some false := by kernel_rfl
@[simp] theorem zz3 : zeroA Tryz.prog 3 = some (.int .i64 0) := by kernel_rfl
@[simp] theorem sz4 : szOf Tryz.prog 4 = some 1 := by kernel_rfl
@[simp] theorem ag4 : aggT Tryz.prog 4 = some false := by kernel_rfl
@[simp] theorem zz4 : zeroA Tryz.prog 4 = some (.bool false) := by kernel_rfl
@[simp] theorem sz5 : szOf Tryz.prog 5 = some 1 := by kernel_rfl
@[simp] theorem ag5 : aggT Tryz.prog 5 = some false := by kernel_rfl
@[simp] theorem zz5 : zeroA Tryz.prog 5 = some (.int .u8 0) := by kernel_rfl
@[simp] theorem sz6 : szOf Tryz.prog 6 = some 1 := by kernel_rfl
@[simp] theorem ag6 : aggT Tryz.prog 6 = some false := by kernel_rfl
@[simp] theorem zz6 : zeroA Tryz.prog 6 = some (.int .u8 0) := by kernel_rfl
@[simp] theorem sz7 : szOf Tryz.prog 7 = some 4 := by kernel_rfl
@[simp] theorem ag7 : aggT Tryz.prog 7 = some true := by kernel_rfl
@[simp] theorem zz7 : zeroA Tryz.prog 7 = some (.agg [.int .i64 0, .int .i64 0, .bool false, .int .u8 0]) := by kernel_rfl
@[simp] theorem sz8 : szOf Tryz.prog 8 = some 4 := by kernel_rfl
@[simp] theorem ag8 : aggT Tryz.prog 8 = some true := by kernel_rfl
@[simp] theorem zz8 : zeroA Tryz.prog 8 = some (.agg [.int .i64 0, .int .i64 0, .bool false, .int .u8 0]) := by kernel_rfl
@[simp] theorem sz9 : szOf Tryz.prog 9 = some 1 := by kernel_rfl
@[simp] theorem ag9 : aggT Tryz.prog 9 = some false := by kernel_rfl
@[simp] theorem zz9 : zeroA Tryz.prog 9 = some (.str ByteArray.empty) := by kernel_rfl
@[simp] theorem sz10 : szOf Tryz.prog 10 = some 1 := by kernel_rfl
@[simp] theorem ag10 : aggT Tryz.prog 10 = some false := by kernel_rfl
@[simp] theorem zz10 : zeroA Tryz.prog 10 = some (.str ByteArray.empty) := by kernel_rfl
@[simp] theorem sz11 : szOf Tryz.prog 11 = some 1 := by kernel_rfl
@[simp] theorem ag11 : aggT Tryz.prog 11 = some false := by kernel_rfl
@[simp] theorem zz11 : zeroA Tryz.prog 11 = some (.str ByteArray.empty) := by kernel_rfl
@[simp] theorem sz12 : szOf Tryz.prog 12 = some 1 := by kernel_rfl
@[simp] theorem ag12 : aggT Tryz.prog 12 = some false := by kernel_rfl
@[simp] theorem zz12 : zeroA Tryz.prog 12 = some (.int .u64 0) := by kernel_rfl
@[simp] theorem sz13 : szOf Tryz.prog 13 = some 2 := by kernel_rfl
@[simp] theorem ag13 : aggT Tryz.prog 13 = some true := by kernel_rfl
@[simp] theorem zz13 : zeroA Tryz.prog 13 = some (.agg [.str ByteArray.empty, .int .u64 0]) := by kernel_rfl
@[simp] theorem sz14 : szOf Tryz.prog 14 = some 2 := by kernel_rfl
@[simp] theorem ag14 : aggT Tryz.prog 14 = some true := by kernel_rfl
@[simp] theorem zz14 : zeroA Tryz.prog 14 = some (.agg [.str ByteArray.empty, .int .u64 0]) := by kernel_rfl
@[simp] theorem sz15 : szOf Tryz.prog 15 = some 1 := by kernel_rfl
@[simp] theorem ag15 : aggT Tryz.prog 15 = some false := by kernel_rfl
@[simp] theorem zz15 : zeroA Tryz.prog 15 = some (.nilp) := by kernel_rfl
@[simp] theorem sz16 : szOf Tryz.prog 16 = some 1 := by kernel_rfl
@[simp] theorem ag16 : aggT Tryz.prog 16 = some false := by kernel_rfl
@[simp] theorem zz16 : zeroA Tryz.prog 16 = some (.nilp) := by kernel_rfl
@[simp] theorem sz17 : szOf Tryz.prog 17 = some 1 := by kernel_rfl
@[simp] theorem ag17 : aggT Tryz.prog 17 = some false := by kernel_rfl
@[simp] theorem zz17 : zeroA Tryz.prog 17 = some (.nilp) := by kernel_rfl
@[simp] theorem sz18 : szOf Tryz.prog 18 = some 1 := by kernel_rfl
@[simp] theorem ag18 : aggT Tryz.prog 18 = some true := by kernel_rfl
@[simp] theorem zz18 : zeroA Tryz.prog 18 = some (.agg [.nilp]) := by kernel_rfl
@[simp] theorem sz19 : szOf Tryz.prog 19 = some 1 := by kernel_rfl
@[simp] theorem ag19 : aggT Tryz.prog 19 = some true := by kernel_rfl
@[simp] theorem zz19 : zeroA Tryz.prog 19 = some (.agg [.nilp]) := by kernel_rfl
@[simp] theorem sz20 : szOf Tryz.prog 20 = some 1 := by kernel_rfl
@[simp] theorem ag20 : aggT Tryz.prog 20 = some false := by kernel_rfl
@[simp] theorem sz21 : szOf Tryz.prog 21 = some 1 := by kernel_rfl
@[simp] theorem ag21 : aggT Tryz.prog 21 = some false := by kernel_rfl
@[simp] theorem zz21 : zeroA Tryz.prog 21 = some (.int .i32 0) := by kernel_rfl
@[simp] theorem sz22 : szOf Tryz.prog 22 = some 1 := by kernel_rfl
@[simp] theorem ag22 : aggT Tryz.prog 22 = some false := by kernel_rfl
@[simp] theorem zz22 : zeroA Tryz.prog 22 = some (.nils) := by kernel_rfl
@[simp] theorem sz23 : szOf Tryz.prog 23 = some 1 := by kernel_rfl
@[simp] theorem ag23 : aggT Tryz.prog 23 = some true := by kernel_rfl
@[simp] theorem zz23 : zeroA Tryz.prog 23 = some (.agg [.nils]) := by kernel_rfl
@[simp] theorem sz24 : szOf Tryz.prog 24 = some 1 := by kernel_rfl
@[simp] theorem ag24 : aggT Tryz.prog 24 = some true := by kernel_rfl
@[simp] theorem zz24 : zeroA Tryz.prog 24 = some (.agg [.nils]) := by kernel_rfl
@[simp] theorem sz25 : szOf Tryz.prog 25 = some 1 := by kernel_rfl
@[simp] theorem ag25 : aggT Tryz.prog 25 = some false := by kernel_rfl
@[simp] theorem zz25 : zeroA Tryz.prog 25 = some (.nils) := by kernel_rfl
@[simp] theorem sz26 : szOf Tryz.prog 26 = some 1 := by kernel_rfl
@[simp] theorem ag26 : aggT Tryz.prog 26 = some false := by kernel_rfl
@[simp] theorem zz26 : zeroA Tryz.prog 26 = some (.int .u64 0) := by kernel_rfl
@[simp] theorem sz27 : szOf Tryz.prog 27 = some 1 := by kernel_rfl
@[simp] theorem ag27 : aggT Tryz.prog 27 = some false := by kernel_rfl
@[simp] theorem zz27 : zeroA Tryz.prog 27 = some (.nils) := by kernel_rfl
@[simp] theorem sz28 : szOf Tryz.prog 28 = some 1 := by kernel_rfl
@[simp] theorem ag28 : aggT Tryz.prog 28 = some false := by kernel_rfl
@[simp] theorem zz28 : zeroA Tryz.prog 28 = some (.nils) := by kernel_rfl
@[simp] theorem sz29 : szOf Tryz.prog 29 = some 1 := by kernel_rfl
@[simp] theorem ag29 : aggT Tryz.prog 29 = some false := by kernel_rfl
@[simp] theorem zz29 : zeroA Tryz.prog 29 = some (.nils) := by kernel_rfl
@[simp] theorem sz30 : szOf Tryz.prog 30 = some 3 := by kernel_rfl
@[simp] theorem ag30 : aggT Tryz.prog 30 = some true := by kernel_rfl
@[simp] theorem zz30 : zeroA Tryz.prog 30 = some (.agg [.nils, .nils, .int .i64 0]) := by kernel_rfl
@[simp] theorem sz31 : szOf Tryz.prog 31 = some 3 := by kernel_rfl
@[simp] theorem ag31 : aggT Tryz.prog 31 = some true := by kernel_rfl
@[simp] theorem zz31 : zeroA Tryz.prog 31 = some (.agg [.nils, .nils, .int .i64 0]) := by kernel_rfl
@[simp] theorem sz32 : szOf Tryz.prog 32 = some 8 := by kernel_rfl
@[simp] theorem ag32 : aggT Tryz.prog 32 = some true := by kernel_rfl
@[simp] theorem zz32 : zeroA Tryz.prog 32 = some (.agg [.int .i64 0, .int .i64 0, .int .i64 0, .int .i64 0, .int .i64 0, .int .i64 0, .int .i64 0, .int .i64 0]) := by kernel_rfl
@[simp] theorem sz33 : szOf Tryz.prog 33 = some 9 := by kernel_rfl
@[simp] theorem ag33 : aggT Tryz.prog 33 = some true := by kernel_rfl
@[simp] theorem zz33 : zeroA Tryz.prog 33 = some (.agg [.int .i64 0, .int .i64 0, .int .i64 0, .int .i64 0, .int .i64 0, .int .i64 0, .int .i64 0, .int .i64 0, .int .i64 0]) := by kernel_rfl
@[simp] theorem sz34 : szOf Tryz.prog 34 = some 9 := by kernel_rfl
@[simp] theorem ag34 : aggT Tryz.prog 34 = some true := by kernel_rfl
@[simp] theorem zz34 : zeroA Tryz.prog 34 = some (.agg [.int .i64 0, .int .i64 0, .int .i64 0, .int .i64 0, .int .i64 0, .int .i64 0, .int .i64 0, .int .i64 0, .int .i64 0]) := by kernel_rfl
@[simp] theorem sz35 : szOf Tryz.prog 35 = some 1 := by kernel_rfl
@[simp] theorem ag35 : aggT Tryz.prog 35 = some false := by kernel_rfl
@[simp] theorem zz35 : zeroA Tryz.prog 35 = some (.nils) := by kernel_rfl
@[simp] theorem sz36 : szOf Tryz.prog 36 = some 1 := by kernel_rfl
@[simp] theorem ag36 : aggT Tryz.prog 36 = some false := by kernel_rfl
@[simp] theorem zz36 : zeroA Tryz.prog 36 = some (.nils) := by kernel_rfl
@[simp] theorem sz37 : szOf Tryz.prog 37 = some 20 := by kernel_rfl
@[simp] theorem ag37 : aggT Tryz.prog 37 = some true := by kernel_rfl
@[simp] theorem zz37 : zeroA Tryz.prog 37 = some (.agg [.int .i64 0, .int .u64 0, .nils, .nils, .nils, .int .i64 0, .int .i64 0, .int .i64 0, .int .i64 0, .int .i64 0, .int .i64 0, .int .i64 0, .int .i64 0, .int .i64 0, .int .i64 0, .nils, .nils, .int .i64 0, .int .i64 0, .int .i64 0]) := by kernel_rfl
@[simp] theorem sz38 : szOf Tryz.prog 38 = some 20 := by kernel_rfl
@[simp] theorem ag38 : aggT Tryz.prog 38 = some true := by kernel_rfl
@[simp] theorem zz38 : zeroA Tryz.prog 38 = some (.agg [.int .i64 0, .int .u64 0, .nils, .nils, .nils, .int .i64 0, .int .i64 0, .int .i64 0, .int .i64 0, .int .i64 0, .int .i64 0, .int .i64 0, .int .i64 0, .int .i64 0, .int .i64 0, .nils, .nils, .int .i64 0, .int .i64 0, .int .i64 0]) := by kernel_rfl
@[simp] theorem sz39 : szOf Tryz.prog 39 = some 1 := by kernel_rfl
@[simp] theorem ag39 : aggT Tryz.prog 39 = some false := by kernel_rfl
@[simp] theorem zz39 : zeroA Tryz.prog 39 = some (.nils) := by kernel_rfl
@[simp] theorem sz40 : szOf Tryz.prog 40 = some 2 := by kernel_rfl
@[simp] theorem ag40 : aggT Tryz.prog 40 = some true := by kernel_rfl
@[simp] theorem zz40 : zeroA Tryz.prog 40 = some (.agg [.nils, .nils]) := by kernel_rfl
@[simp] theorem sz41 : szOf Tryz.prog 41 = some 2 := by kernel_rfl
@[simp] theorem ag41 : aggT Tryz.prog 41 = some true := by kernel_rfl
@[simp] theorem zz41 : zeroA Tryz.prog 41 = some (.agg [.int .i64 0, .int .i64 0]) := by kernel_rfl
@[simp] theorem sz42 : szOf Tryz.prog 42 = some 1 := by kernel_rfl
@[simp] theorem ag42 : aggT Tryz.prog 42 = some false := by kernel_rfl
@[simp] theorem zz42 : zeroA Tryz.prog 42 = some (.nils) := by kernel_rfl
@[simp] theorem sz43 : szOf Tryz.prog 43 = some 36 := by kernel_rfl
@[simp] theorem ag43 : aggT Tryz.prog 43 = some true := by kernel_rfl
@[simp] theorem zz43 : zeroA Tryz.prog 43 = some (.agg [.int .u64 0, .int .i64 0, .int .i64 0, .int .i64 0, .int .u64 0, .nils, .nils, .nils, .int .i64 0, .int .i64 0, .int .i64 0, .int .i64 0, .int .i64 0, .int .i64 0, .int .i64 0, .int .i64 0, .int .i64 0, .int .i64 0, .nils, .nils, .int .i64 0, .int .i64 0, .int .i64 0, .nils, .nils, .int .i64 0, .int .u64 0, .int .i64 0, .int .i64 0, .nils, .nils, .nils, .int .i64 0, .int .i64 0, .int .i64 0, .nils]) := by kernel_rfl
@[simp] theorem sz44 : szOf Tryz.prog 44 = some 36 := by kernel_rfl
@[simp] theorem ag44 : aggT Tryz.prog 44 = some true := by kernel_rfl
@[simp] theorem zz44 : zeroA Tryz.prog 44 = some (.agg [.int .u64 0, .int .i64 0, .int .i64 0, .int .i64 0, .int .u64 0, .nils, .nils, .nils, .int .i64 0, .int .i64 0, .int .i64 0, .int .i64 0, .int .i64 0, .int .i64 0, .int .i64 0, .int .i64 0, .int .i64 0, .int .i64 0, .nils, .nils, .int .i64 0, .int .i64 0, .int .i64 0, .nils, .nils, .int .i64 0, .int .u64 0, .int .i64 0, .int .i64 0, .nils, .nils, .nils, .int .i64 0, .int .i64 0, .int .i64 0, .nils]) := by kernel_rfl
@[simp] theorem sz45 : szOf Tryz.prog 45 = some 45 := by kernel_rfl
@[simp] theorem ag45 : aggT Tryz.prog 45 = some true := by kernel_rfl
@[simp] theorem zz45 : zeroA Tryz.prog 45 = some (.agg [.int .i64 0, .int .i64 0, .int .i64 0, .int .u64 0, .int .i64 0, .int .u64 0, .int .i64 0, .int .i64 0, .int .i64 0, .int .u64 0, .nils, .nils, .nils, .int .i64 0, .int .i64 0, .int .i64 0, .int .i64 0, .int .i64 0, .int .i64 0, .int .i64 0, .int .i64 0, .int .i64 0, .int .i64 0, .nils, .nils, .int .i64 0, .int .i64 0, .int .i64 0, .nils, .nils, .int .i64 0, .int .u64 0, .int .i64 0, .int .i64 0, .nils, .nils, .nils, .int .i64 0, .int .i64 0, .int .i64 0, .nils, .int .u64 0, .int .i64 0, .int .u64 0, .int .i64 0]) := by kernel_rfl
@[simp] theorem sz46 : szOf Tryz.prog 46 = some 45 := by kernel_rfl
@[simp] theorem ag46 : aggT Tryz.prog 46 = some true := by kernel_rfl
@[simp] theorem zz46 : zeroA Tryz.prog 46 = some (.agg [.int .i64 0, .int .i64 0, .int .i64 0, .int .u64 0, .int .i64 0, .int .u64 0, .int .i64 0, .int .i64 0, .int .i64 0, .int .u64 0, .nils, .nils, .nils, .int .i64 0, .int .i64 0, .int .i64 0, .int .i64 0, .int .i64 0, .int .i64 0, .int .i64 0, .int .i64 0, .int .i64 0, .int .i64 0, .nils, .nils, .int .i64 0, .int .i64 0, .int .i64 0, .nils, .nils, .int .i64 0, .int .u64 0, .int .i64 0, .int .i64 0, .nils, .nils, .nils, .int .i64 0, .int .i64 0, .int .i64 0, .nils, .int .u64 0, .int .i64 0, .int .u64 0, .int .i64 0]) := by kernel_rfl
@[simp] theorem sz47 : szOf Tryz.prog 47 = some 1 := by kernel_rfl
@[simp] theorem ag47 : aggT Tryz.prog 47 = some false := by kernel_rfl
@[simp] theorem zz47 : zeroA Tryz.prog 47 = some (.nilf) := by kernel_rfl
@[simp] theorem sz48 : szOf Tryz.prog 48 = some 1 := by kernel_rfl
@[simp] theorem ag48 : aggT Tryz.prog 48 = some false := by kernel_rfl
@[simp] theorem zz48 : zeroA Tryz.prog 48 = some (.nilf) := by kernel_rfl
@[simp] theorem sz49 : szOf Tryz.prog 49 = some 1 := by kernel_rfl
@[simp] theorem ag49 : aggT Tryz.prog 49 = some false := by kernel_rfl
@[simp] theorem zz49 : zeroA Tryz.prog 49 = some (.nilf) := by kernel_rfl
@[simp] theorem sz50 : szOf Tryz.prog 50 = some 1 := by kernel_rfl
@[simp] theorem ag50 : aggT Tryz.prog 50 = some false := by kernel_rfl
@[simp] theorem zz50 : zeroA Tryz.prog 50 = some (.nilp) := by kernel_rfl
@[simp] theorem sz51 : szOf Tryz.prog 51 = some 1 := by kernel_rfl
@[simp] theorem ag51 : aggT Tryz.prog 51 = some false := by kernel_rfl
@[simp] theorem sz52 : szOf Tryz.prog 52 = some 1 := by kernel_rfl
@[simp] theorem ag52 : aggT Tryz.prog 52 = some false := by kernel_rfl
@[simp] theorem zz52 : zeroA Tryz.prog 52 = some (.nilf) := by kernel_rfl
@[simp] theorem sz53 : szOf Tryz.prog 53 = some 1 := by kernel_rfl
@[simp] theorem ag53 : aggT Tryz.prog 53 = some false := by kernel_rfl
@[simp] theorem zz53 : zeroA Tryz.prog 53 = some (.nilf) := by kernel_rfl
@[simp] theorem sz54 : szOf Tryz.prog 54 = some 1 := by kernel_rfl
@[simp] theorem ag54 : aggT Tryz.prog 54 = some false := by kernel_rfl
@[simp] theorem zz54 : zeroA Tryz.prog 54 = some (.nils) := by kernel_rfl
@[simp] theorem sz55 : szOf Tryz.prog 55 = some 1 := by kernel_rfl
@[simp] theorem ag55 : aggT Tryz.prog 55 = some false := by kernel_rfl
@[simp] theorem zz55 : zeroA Tryz.prog 55 = some (.nils) := by kernel_rfl
@[simp] theorem sz56 : szOf Tryz.prog 56 = some 1 := by kernel_rfl
@[simp] theorem ag56 : aggT Tryz.prog 56 = some false := by kernel_rfl
@[simp] theorem zz56 : zeroA Tryz.prog 56 = some (.int .i64 0) := by kernel_rfl
@[simp] theorem sz57 : szOf Tryz.prog 57 = some 1 := by kernel_rfl
@[simp] theorem ag57 : aggT Tryz.prog 57 = some false := by kernel_rfl
@[simp] theorem sz58 : szOf Tryz.prog 58 = some 1 := by kernel_rfl
@[simp] theorem ag58 : aggT Tryz.prog 58 = some false := by kernel_rfl
@[simp] theorem zz58 : zeroA Tryz.prog 58 = some (.nilf) := by kernel_rfl
@[simp] theorem sz59 : szOf Tryz.prog 59 = some 1 := by kernel_rfl
@[simp] theorem ag59 : aggT Tryz.prog 59 = some false := by kernel_rfl
@[simp] theorem zz59 : zeroA Tryz.prog 59 = some (.nilf) := by kernel_rfl
@[simp] theorem sz60 : szOf Tryz.prog 60 = some 1 := by kernel_rfl
@[simp] theorem ag60 : aggT Tryz.prog 60 = some false := by kernel_rfl
@[simp] theorem zz60 : zeroA Tryz.prog 60 = some (.nils) := by kernel_rfl
@[simp] theorem sz61 : szOf Tryz.prog 61 = some 1 := by kernel_rfl
@[simp] theorem ag61 : aggT Tryz.prog 61 = some false := by kernel_rfl
@[simp] theorem sz62 : szOf Tryz.prog 62 = some 1 := by kernel_rfl
@[simp] theorem ag62 : aggT Tryz.prog 62 = some false := by kernel_rfl
@[simp] theorem zz62 : zeroA Tryz.prog 62 = some (.nilf) := by kernel_rfl
@[simp] theorem sz63 : szOf Tryz.prog 63 = some 1 := by kernel_rfl
@[simp] theorem ag63 : aggT Tryz.prog 63 = some false := by kernel_rfl
@[simp] theorem zz63 : zeroA Tryz.prog 63 = some (.nilf) := by kernel_rfl
@[simp] theorem sz64 : szOf Tryz.prog 64 = some 1 := by kernel_rfl
@[simp] theorem ag64 : aggT Tryz.prog 64 = some false := by kernel_rfl
@[simp] theorem zz64 : zeroA Tryz.prog 64 = some (.nilf) := by kernel_rfl
@[simp] theorem sz65 : szOf Tryz.prog 65 = some 1 := by kernel_rfl
@[simp] theorem ag65 : aggT Tryz.prog 65 = some false := by kernel_rfl
@[simp] theorem zz65 : zeroA Tryz.prog 65 = some (.nilf) := by kernel_rfl
@[simp] theorem sz66 : szOf Tryz.prog 66 = some 1 := by kernel_rfl
@[simp] theorem ag66 : aggT Tryz.prog 66 = some false := by kernel_rfl
@[simp] theorem zz66 : zeroA Tryz.prog 66 = some (.nilf) := by kernel_rfl
@[simp] theorem sz67 : szOf Tryz.prog 67 = some 1 := by kernel_rfl
@[simp] theorem ag67 : aggT Tryz.prog 67 = some false := by kernel_rfl
@[simp] theorem zz67 : zeroA Tryz.prog 67 = some (.nilf) := by kernel_rfl
@[simp] theorem sz68 : szOf Tryz.prog 68 = some 1 := by kernel_rfl
@[simp] theorem ag68 : aggT Tryz.prog 68 = some false := by kernel_rfl
@[simp] theorem zz68 : zeroA Tryz.prog 68 = some (.nilf) := by kernel_rfl
@[simp] theorem sz69 : szOf Tryz.prog 69 = some 4 := by kernel_rfl
@[simp] theorem ag69 : aggT Tryz.prog 69 = some true := by kernel_rfl
@[simp] theorem zz69 : zeroA Tryz.prog 69 = some (.agg [.int .i64 0, .int .i64 0, .bool false, .nils]) := by kernel_rfl
@[simp] theorem sz70 : szOf Tryz.prog 70 = some 4 := by kernel_rfl
@[simp] theorem ag70 : aggT Tryz.prog 70 = some true := by kernel_rfl
@[simp] theorem zz70 : zeroA Tryz.prog 70 = some (.agg [.int .i64 0, .int .i64 0, .bool false, .nils]) := by kernel_rfl
@[simp] theorem sz71 : szOf Tryz.prog 71 = some 3 := by kernel_rfl
@[simp] theorem ag71 : aggT Tryz.prog 71 = some true := by kernel_rfl
@[simp] theorem zz71 : zeroA Tryz.prog 71 = some (.agg [.str ByteArray.empty, .int .i64 0, .nils]) := by kernel_rfl
@[simp] theorem sz72 : szOf Tryz.prog 72 = some 3 := by kernel_rfl
@[simp] theorem ag72 : aggT Tryz.prog 72 = some true := by kernel_rfl
@[simp] theorem zz72 : zeroA Tryz.prog 72 = some (.agg [.str ByteArray.empty, .int .i64 0, .nils]) := by kernel_rfl
@[simp] theorem sz73 : szOf Tryz.prog 73 = some 1 := by kernel_rfl
@[simp] theorem ag73 : aggT Tryz.prog 73 = some false := by kernel_rfl
@[simp] theorem zz73 : zeroA Tryz.prog 73 = some (.nilf) := by kernel_rfl
@[simp] theorem sz74 : szOf Tryz.prog 74 = some 1 := by kernel_rfl
@[simp] theorem ag74 : aggT Tryz.prog 74 = some false := by kernel_rfl
@[simp] theorem zz74 : zeroA Tryz.prog 74 = some (.nilf) := by kernel_rfl
@[simp] theorem sz75 : szOf Tryz.prog 75 = some 1 := by kernel_rfl
@[simp] theorem ag75 : aggT Tryz.prog 75 = some false := by kernel_rfl
@[simp] theorem zz75 : zeroA Tryz.prog 75 = some (.nilf) := by kernel_rfl
@[simp] theorem sz76 : szOf Tryz.prog 76 = some 1 := by kernel_rfl
@[simp] theorem ag76 : aggT Tryz.prog 76 = some false := by kernel_rfl
@[simp] theorem zz76 : zeroA Tryz.prog 76 = some (.nilf) := by kernel_rfl
@[simp] theorem sz77 : szOf Tryz.prog 77 = some 1 := by kernel_rfl
@[simp] theorem ag77 : aggT Tryz.prog 77 = some true := by kernel_rfl
@[simp] theorem zz77 : zeroA Tryz.prog 77 = some (.agg [.nils]) := by kernel_rfl
@[simp] theorem sz78 : szOf Tryz.prog 78 = some 1 := by kernel_rfl
@[simp] theorem ag78 : aggT Tryz.prog 78 = some true := by kernel_rfl
@[simp] theorem zz78 : zeroA Tryz.prog 78 = some (.agg [.nils]) := by kernel_rfl
@[simp] theorem sz79 : szOf Tryz.prog 79 = some 1 := by kernel_rfl
@[simp] theorem ag79 : aggT Tryz.prog 79 = some false := by kernel_rfl
@[simp] theorem zz79 : zeroA Tryz.prog 79 = some (.nilf) := by kernel_rfl
@[simp] theorem sz80 : szOf Tryz.prog 80 = some 1 := by kernel_rfl
@[simp] theorem ag80 : aggT Tryz.prog 80 = some false := by kernel_rfl
@[simp] theorem zz80 : zeroA Tryz.prog 80 = some (.nilf) := by kernel_rfl
@[simp] theorem sz81 : szOf Tryz.prog 81 = some 1 := by kernel_rfl
@[simp] theorem ag81 : aggT Tryz.prog 81 = some false := by kernel_rfl
@[simp] theorem zz81 : zeroA Tryz.prog 81 = some (.nilf) := by kernel_rfl
@[simp] theorem sz82 : szOf Tryz.prog 82 = some 1 := by kernel_rfl
@[simp] theorem ag82 : aggT Tryz.prog 82 = some false := by kernel_rfl
@[simp] theorem zz82 : zeroA Tryz.prog 82 = some (.nilf) := by kernel_rfl
@[simp] theorem sz83 : szOf Tryz.prog 83 = some 1 := by kernel_rfl
@[simp] theorem ag83 : aggT Tryz.prog 83 = some false := by kernel_rfl
@[simp] theorem zz83 : zeroA Tryz.prog 83 = some (.nilp) := by kernel_rfl
@[simp] theorem sz84 : szOf Tryz.prog 84 = some 1 := by kernel_rfl
@[simp] theorem ag84 : aggT Tryz.prog 84 = some false := by kernel_rfl
@[simp] theorem zz84 : zeroA Tryz.prog 84 = some (.nilf) := by kernel_rfl
@[simp] theorem sz85 : szOf Tryz.prog 85 = some 1 := by kernel_rfl
@[simp] theorem ag85 : aggT Tryz.prog 85 = some false := by kernel_rfl
@[simp] theorem zz85 : zeroA Tryz.prog 85 = some (.nilf) := by kernel_rfl
@[simp] theorem sz86 : szOf Tryz.prog 86 = some 1 := by kernel_rfl
@[simp] theorem ag86 : aggT Tryz.prog 86 = some false := by kernel_rfl
@[simp] theorem zz86 : zeroA Tryz.prog 86 = some (.nilf) := by kernel_rfl
@[simp] theorem sz87 : szOf Tryz.prog 87 = some 1 := by kernel_rfl
@[simp] theorem ag87 : aggT Tryz.prog 87 = some false := by kernel_rfl
@[simp] theorem zz87 : zeroA Tryz.prog 87 = some (.nilf) := by kernel_rfl
@[simp] theorem sz88 : szOf Tryz.prog 88 = some 1 := by kernel_rfl
@[simp] theorem ag88 : aggT Tryz.prog 88 = some false := by kernel_rfl
@[simp] theorem zz88 : zeroA Tryz.prog 88 = some (.nilf) := by kernel_rfl
@[simp] theorem sz89 : szOf Tryz.prog 89 = some 1 := by kernel_rfl
@[simp] theorem ag89 : aggT Tryz.prog 89 = some false := by kernel_rfl
@[simp] theorem zz89 : zeroA Tryz.prog 89 = some (.nilf) := by kernel_rfl
@[simp] theorem sz90 : szOf Tryz.prog 90 = some 1 := by kernel_rfl
@[simp] theorem ag90 : aggT Tryz.prog 90 = some false := by kernel_rfl
@[simp] theorem zz90 : zeroA Tryz.prog 90 = some (.nilf) := by kernel_rfl
@[simp] theorem sz91 : szOf Tryz.prog 91 = some 1 := by kernel_rfl
@[simp] theorem ag91 : aggT Tryz.prog 91 = some false := by kernel_rfl
@[simp] theorem zz91 : zeroA Tryz.prog 91 = some (.nilf) := by kernel_rfl
@[simp] theorem sz92 : szOf Tryz.prog 92 = some 1 := by kernel_rfl
@[simp] theorem ag92 : aggT Tryz.prog 92 = some false := by kernel_rfl
@[simp] theorem sz93 : szOf Tryz.prog 93 = some 1 := by kernel_rfl
@[simp] theorem ag93 : aggT Tryz.prog 93 = some false := by kernel_rfl
@[simp] theorem zz93 : zeroA Tryz.prog 93 = some (.nilf) := by kernel_rfl
@[simp] theorem sz94 : szOf Tryz.prog 94 = some 1 := by kernel_rfl
@[simp] theorem ag94 : aggT Tryz.prog 94 = some false := by kernel_rfl
@[simp] theorem zz94 : zeroA Tryz.prog 94 = some (.nilf) := by kernel_rfl
@[simp] theorem sz95 : szOf Tryz.prog 95 = some 1 := by kernel_rfl
@[simp] theorem ag95 : aggT Tryz.prog 95 = some false := by kernel_rfl
@[simp] theorem zz95 : zeroA Tryz.prog 95 = some (.nilf) := by kernel_rfl
@[simp] theorem sz96 : szOf Tryz.prog 96 = some 1 := by kernel_rfl
@[simp] theorem ag96 : aggT Tryz.prog 96 = some false := by kernel_rfl
@[simp] theorem sz97 : szOf Tryz.prog 97 = some 1 := by kernel_rfl
@[simp] theorem ag97 : aggT Tryz.prog 97 = some false := by kernel_rfl
@[simp] theorem zz97 : zeroA Tryz.prog 97 = some (.nilf) := by kernel_rfl
@[simp] theorem sz98 : szOf Tryz.prog 98 = some 1 := by kernel_rfl
@[simp] theorem ag98 : aggT Tryz.prog 98 = some false := by kernel_rfl
@[simp] theorem sz99 : szOf Tryz.prog 99 = some 1 := by kernel_rfl
@[simp] theorem ag99 : aggT Tryz.prog 99 = some false := by kernel_rfl
@[simp] theorem zz99 : zeroA Tryz.prog 99 = some (.nilf) := by kernel_rfl
@[simp] theorem sz100 : szOf Tryz.prog 100 = some 1 := by kernel_rfl
@[simp] theorem ag100 : aggT Tryz.prog 100 = some false := by kernel_rfl
@[simp] theorem zz100 : zeroA Tryz.prog 100 = some (.nilf) := by kernel_rfl
@[simp] theorem sz101 : szOf Tryz.prog 101 = some 1 := by kernel_rfl
@[simp] theorem ag101 : aggT Tryz.prog 101 = some false := by kernel_rfl
@[simp] theorem zz101 : zeroA Tryz.prog 101 = some (.nilf) := by kernel_rfl
@[simp] theorem sz102 : szOf Tryz.prog 102 = some 1 := by kernel_rfl
@[simp] theorem ag102 : aggT Tryz.prog 102 = some false := by kernel_rfl
@[simp] theorem sz103 : szOf Tryz.prog 103 = some 1 := by kernel_rfl
@[simp] theorem ag103 : aggT Tryz.prog 103 = some false := by kernel_rfl
@[simp] theorem zz103 : zeroA Tryz.prog 103 = some (.nilf) := by kernel_rfl
@[simp] theorem sz104 : szOf Tryz.prog 104 = some 1 := by kernel_rfl
@[simp] theorem ag104 : aggT Tryz.prog 104 = some false := by kernel_rfl
@[simp] theorem zz104 : zeroA Tryz.prog 104 = some (.nilf) := by kernel_rfl
@[simp] theorem sz105 : szOf Tryz.prog 105 = some 1 := by kernel_rfl
@[simp] theorem ag105 : aggT Tryz.prog 105 = some false := by kernel_rfl
@[simp] theorem zz105 : zeroA Tryz.prog 105 = some (.nilf) := by kernel_rfl
@[simp] theorem sz106 : szOf Tryz.prog 106 = some 1 := by kernel_rfl
@[simp] theorem ag106 : aggT Tryz.prog 106 = some false := by kernel_rfl
@[simp] theorem zz106 : zeroA Tryz.prog 106 = some (.nilf) := by kernel_rfl
@[simp] theorem sz107 : szOf Tryz.prog 107 = some 1 := by kernel_rfl
@[simp] theorem ag107 : aggT Tryz.prog 107 = some false := by kernel_rfl
@[simp] theorem zz107 : zeroA Tryz.prog 107 = some (.nilf) := by kernel_rfl
@[simp] theorem sz108 : szOf Tryz.prog 108 = some 1 := by kernel_rfl
@[simp] theorem ag108 : aggT Tryz.prog 108 = some false := by kernel_rfl
@[simp] theorem zz108 : zeroA Tryz.prog 108 = some (.nilf) := by kernel_rfl
@[simp] theorem sz109 : szOf Tryz.prog 109 = some 1 := by kernel_rfl
@[simp] theorem ag109 : aggT Tryz.prog 109 = some false := by kernel_rfl
@[simp] theorem zz109 : zeroA Tryz.prog 109 = some (.nilf) := by kernel_rfl
@[simp] theorem sz110 : szOf Tryz.prog 110 = some 1 := by kernel_rfl
@[simp] theorem ag110 : aggT Tryz.prog 110 = some false := by kernel_rfl
@[simp] theorem zz110 : zeroA Tryz.prog 110 = some (.nilf) := by kernel_rfl
@[simp] theorem sz111 : szOf Tryz.prog 111 = some 1 := by kernel_rfl
@[simp] theorem ag111 : aggT Tryz.prog 111 = some false := by kernel_rfl
@[simp] theorem zz111 : zeroA Tryz.prog 111 = some (.nilf) := by kernel_rfl
@[simp] theorem sz112 : szOf Tryz.prog 112 = some 1 := by kernel_rfl
@[simp] theorem ag112 : aggT Tryz.prog 112 = some false := by kernel_rfl
@[simp] theorem zz112 : zeroA Tryz.prog 112 = some (.nilf) := by kernel_rfl
@[simp] theorem sz113 : szOf Tryz.prog 113 = some 1 := by kernel_rfl
@[simp] theorem ag113 : aggT Tryz.prog 113 = some false := by kernel_rfl
@[simp] theorem zz113 : zeroA Tryz.prog 113 = some (.nilf) := by kernel_rfl
@[simp] theorem sz114 : szOf Tryz.prog 114 = some 1 := by kernel_rfl
@[simp] theorem ag114 : aggT Tryz.prog 114 = some false := by kernel_rfl
@[simp] theorem zz114 : zeroA Tryz.prog 114 = some (.nilf) := by kernel_rfl
@[simp] theorem sz115 : szOf Tryz.prog 115 = some 1 := by kernel_rfl
@[simp] theorem ag115 : aggT Tryz.prog 115 = some false := by kernel_rfl
@[simp] theorem zz115 : zeroA Tryz.prog 115 = some (.nilf) := by kernel_rfl
@[simp] theorem sz116 : szOf Tryz.prog 116 = some 1 := by kernel_rfl
@[simp] theorem ag116 : aggT Tryz.prog 116 = some false := by kernel_rfl
@[simp] theorem zz116 : zeroA Tryz.prog 116 = some (.nilf) := by kernel_rfl
@[simp] theorem sz117 : szOf Tryz.prog 117 = some 1 := by kernel_rfl
@[simp] theorem ag117 : aggT Tryz.prog 117 = some false := by kernel_rfl
@[simp] theorem zz117 : zeroA Tryz.prog 117 = some (.nilf) := by kernel_rfl
@[simp] theorem sz118 : szOf Tryz.prog 118 = some 1 := by kernel_rfl
@[simp] theorem ag118 : aggT Tryz.prog 118 = some false := by kernel_rfl
@[simp] theorem zz118 : zeroA Tryz.prog 118 = some (.nilf) := by kernel_rfl
@[simp] theorem sz119 : szOf Tryz.prog 119 = some 1 := by kernel_rfl
@[simp] theorem ag119 : aggT Tryz.prog 119 = some false := by kernel_rfl
@[simp] theorem zz119 : zeroA Tryz.prog 119 = some (.int .u64 0) := by kernel_rfl
@[simp] theorem sz120 : szOf Tryz.prog 120 = some 1 := by kernel_rfl
@[simp] theorem ag120 : aggT Tryz.prog 120 = some false := by kernel_rfl
@[simp] theorem zz120 : zeroA Tryz.prog 120 = some (.nilf) := by kernel_rfl
@[simp] theorem sz121 : szOf Tryz.prog 121 = some 1 := by kernel_rfl
@[simp] theorem ag121 : aggT Tryz.prog 121 = some false := by kernel_rfl
@[simp] theorem zz121 : zeroA Tryz.prog 121 = some (.nilf) := by kernel_rfl
@[simp] theorem sz122 : szOf Tryz.prog 122 = some 1 := by kernel_rfl
@[simp] theorem ag122 : aggT Tryz.prog 122 = some false := by kernel_rfl
@[simp] theorem zz122 : zeroA Tryz.prog 122 = some (.nils) := by kernel_rfl
@[simp] theorem sz123 : szOf Tryz.prog 123 = some 1 := by kernel_rfl
@[simp] theorem ag123 : aggT Tryz.prog 123 = some false := by kernel_rfl
@[simp] theorem zz123 : zeroA Tryz.prog 123 = some (.nilf) := by kernel_rfl
@[simp] theorem sz124 : szOf Tryz.prog 124 = some 1 := by kernel_rfl
@[simp] theorem ag124 : aggT Tryz.prog 124 = some false := by kernel_rfl
@[simp] theorem zz124 : zeroA Tryz.prog 124 = some (.nilf) := by kernel_rfl
@[simp] theorem sz125 : szOf Tryz.prog 125 = some 1 := by kernel_rfl
@[simp] theorem ag125 : aggT Tryz.prog 125 = some false := by kernel_rfl
@[simp] theorem zz125 : zeroA Tryz.prog 125 = some (.nilf) := by kernel_rfl
@[simp] theorem sz126 : szOf Tryz.prog 126 = some 1 := by kernel_rfl
@[simp] theorem ag126 : aggT Tryz.prog 126 = some false := by kernel_rfl
@[simp] theorem zz126 : zeroA Tryz.prog 126 = some (.nilf) := by kernel_rfl
@[simp] theorem sz127 : szOf Tryz.prog 127 = some 2 := by kernel_rfl
@[simp] theorem ag127 : aggT Tryz.prog 127 = some true := by kernel_rfl
@[simp] theorem zz127 : zeroA Tryz.prog 127 = some (.agg [.int .u64 0, .bool false]) := by kernel_rfl
@[simp] theorem sz128 : szOf Tryz.prog 128 = some 2 := by kernel_rfl
@[simp] theorem ag128 : aggT Tryz.prog 128 = some true := by kernel_rfl
@[simp] theorem zz128 : zeroA Tryz.prog 128 = some (.agg [.int .u64 0, .bool false]) := by kernel_rfl
@[simp] theorem sz129 : szOf Tryz.prog 129 = some 1 := by kernel_rfl
@[simp] theorem ag129 : aggT Tryz.prog 129 = some false := by kernel_rfl
@[simp] theorem zz129 : zeroA Tryz.prog 129 = some (.nilf) := by kernel_rfl
@[simp] theorem sz130 : szOf Tryz.prog 130 = some 4 := by kernel_rfl
@[simp] theorem ag130 : aggT Tryz.prog 130 = some true := by kernel_rfl
@[simp] theorem zz130 : zeroA Tryz.prog 130 = some (.agg [.int .i64 0, .int .u64 0, .int .u64 0, .int .i64 0]) := by kernel_rfl
@[simp] theorem sz131 : szOf Tryz.prog 131 = some 4 := by kernel_rfl
@[simp] theorem ag131 : aggT Tryz.prog 131 = some true := by kernel_rfl
@[simp] theorem zz131 : zeroA Tryz.prog 131 = some (.agg [.int .i64 0, .int .u64 0, .int .u64 0, .int .i64 0]) := by kernel_rfl
@[simp] theorem sz132 : szOf Tryz.prog 132 = some 1 := by kernel_rfl
@[simp] theorem ag132 : aggT Tryz.prog 132 = some false := by kernel_rfl
@[simp] theorem zz132 : zeroA Tryz.prog 132 = some (.nilf) := by kernel_rfl
@[simp] theorem sz133 : szOf Tryz.prog 133 = some 1 := by kernel_rfl
@[simp] theorem ag133 : aggT Tryz.prog 133 = some false := by kernel_rfl
@[simp] theorem zz133 : zeroA Tryz.prog 133 = some (.nilf) := by kernel_rfl
@[simp] theorem sz134 : szOf Tryz.prog 134 = some 1 := by kernel_rfl
@[simp] theorem ag134 : aggT Tryz.prog 134 = some false := by kernel_rfl
@[simp] theorem zz134 : zeroA Tryz.prog 134 = some (.nilf) := by kernel_rfl
@[simp] theorem sz135 : szOf Tryz.prog 135 = some 1 := by kernel_rfl
@[simp] theorem ag135 : aggT Tryz.prog 135 = some false := by kernel_rfl
@[simp] theorem zz135 : zeroA Tryz.prog 135 = some (.nilf) := by kernel_rfl
@[simp] theorem sz136 : szOf Tryz.prog 136 = some 1 := by kernel_rfl
@[simp] theorem ag136 : aggT Tryz.prog 136 = some false := by kernel_rfl
@[simp] theorem zz136 : zeroA Tryz.prog 136 = some (.nilf) := by kernel_rfl
@[simp] theorem sz137 : szOf Tryz.prog 137 = some 1 := by kernel_rfl
@[simp] theorem ag137 : aggT Tryz.prog 137 = some false := by kernel_rfl
@[simp] theorem zz137 : zeroA Tryz.prog 137 = some (.nilf) := by kernel_rfl
@[simp] theorem sz138 : szOf Tryz.prog 138 = some 1 := by kernel_rfl
@[simp] theorem ag138 : aggT Tryz.prog 138 = some false := by kernel_rfl
@[simp] theorem zz138 : zeroA Tryz.prog 138 = some (.nilf) := by kernel_rfl
@[simp] theorem sz139 : szOf Tryz.prog 139 = some 1 := by kernel_rfl
@[simp] theorem ag139 : aggT Tryz.prog 139 = some false := by kernel_rfl
@[simp] theorem sz140 : szOf Tryz.prog 140 = some 1 := by kernel_rfl
@[simp] theorem ag140 : aggT Tryz.prog 140 = some false := by kernel_rfl
@[simp] theorem zz140 : zeroA Tryz.prog 140 = some (.nilf) := by kernel_rfl
@[simp] theorem sz141 : szOf Tryz.prog 141 = some 1 := by kernel_rfl
@[simp] theorem ag141 : aggT Tryz.prog 141 = some false := by kernel_rfl
@[simp] theorem zz141 : zeroA Tryz.prog 141 = some (.nilf) := by kernel_rfl
@[simp] theorem sz142 : szOf Tryz.prog 142 = some 1 := by kernel_rfl
@[simp] theorem ag142 : aggT Tryz.prog 142 = some false := by kernel_rfl
@[simp] theorem zz142 : zeroA Tryz.prog 142 = some (.nilf) := by kernel_rfl
@[simp] theorem sz143 : szOf Tryz.prog 143 = some 4 := by kernel_rfl
@[simp] theorem ag143 : aggT Tryz.prog 143 = some true := by kernel_rfl
@[simp] theorem zz143 : zeroA Tryz.prog 143 = some (.agg [.int .i64 0, .int .i64 0, .int .i64 0, .int .i64 0]) := by kernel_rfl
@[simp] theorem sz144 : szOf Tryz.prog 144 = some 4 := by kernel_rfl
@[simp] theorem ag144 : aggT Tryz.prog 144 = some true := by kernel_rfl
@[simp] theorem zz144 : zeroA Tryz.prog 144 = some (.agg [.int .i64 0, .int .i64 0, .int .i64 0, .int .i64 0]) := by kernel_rfl
@[simp] theorem sz145 : szOf Tryz.prog 145 = some 1 := by kernel_rfl
@[simp] theorem ag145 : aggT Tryz.prog 145 = some false := by kernel_rfl
@[simp] theorem zz145 : zeroA Tryz.prog 145 = some (.nilf) := by kernel_rfl
@[simp] theorem sz146 : szOf Tryz.prog 146 = some 1 := by kernel_rfl
@[simp] theorem ag146 : aggT Tryz.prog 146 = some false := by kernel_rfl
@[simp] theorem zz146 : zeroA Tryz.prog 146 = some (.nilf) := by kernel_rfl
@[simp] theorem sz147 : szOf Tryz.prog 147 = some 1 := by kernel_rfl
@[simp] theorem ag147 : aggT Tryz.prog 147 = some false := by kernel_rfl
@[simp] theorem zz147 : zeroA Tryz.prog 147 = some (.nilf) := by kernel_rfl
@[simp] theorem sz148 : szOf Tryz.prog 148 = some 1 := by kernel_rfl
@[simp] theorem ag148 : aggT Tryz.prog 148 = some false := by kernel_rfl
@[simp] theorem zz148 : zeroA Tryz.prog 148 = some (.nilf) := by kernel_rfl
@[simp] theorem sz149 : szOf Tryz.prog 149 = some 1 := by kernel_rfl
@[simp] theorem ag149 : aggT Tryz.prog 149 = some false := by kernel_rfl
@[simp] theorem zz149 : zeroA Tryz.prog 149 = some (.nilf) := by kernel_rfl
@[simp] theorem sz150 : szOf Tryz.prog 150 = some 1 := by kernel_rfl
@[simp] theorem ag150 : aggT Tryz.prog 150 = some false := by kernel_rfl
@[simp] theorem zz150 : zeroA Tryz.prog 150 = some (.nilf) := by kernel_rfl
@[simp] theorem sz151 : szOf Tryz.prog 151 = some 1 := by kernel_rfl
@[simp] theorem ag151 : aggT Tryz.prog 151 = some false := by kernel_rfl
@[simp] theorem zz151 : zeroA Tryz.prog 151 = some (.nilf) := by kernel_rfl
@[simp] theorem sz152 : szOf Tryz.prog 152 = some 4 := by kernel_rfl
@[simp] theorem ag152 : aggT Tryz.prog 152 = some true := by kernel_rfl
@[simp] theorem zz152 : zeroA Tryz.prog 152 = some (.agg [.nilp, .nilp, .nilp, .str ByteArray.empty]) := by kernel_rfl
@[simp] theorem sz153 : szOf Tryz.prog 153 = some 4 := by kernel_rfl
@[simp] theorem ag153 : aggT Tryz.prog 153 = some true := by kernel_rfl
@[simp] theorem zz153 : zeroA Tryz.prog 153 = some (.agg [.nilp, .nilp, .nilp, .str ByteArray.empty]) := by kernel_rfl
@[simp] theorem sz154 : szOf Tryz.prog 154 = some 0 := by kernel_rfl
@[simp] theorem ag154 : aggT Tryz.prog 154 = some true := by kernel_rfl
@[simp] theorem zz154 : zeroA Tryz.prog 154 = some (.agg []) := by kernel_rfl
@[simp] theorem sz155 : szOf Tryz.prog 155 = some 0 := by kernel_rfl
@[simp] theorem ag155 : aggT Tryz.prog 155 = some true := by kernel_rfl
@[simp] theorem zz155 : zeroA Tryz.prog 155 = some (.agg []) := by kernel_rfl
@[simp] theorem sz156 : szOf Tryz.prog 156 = some 0 := by kernel_rfl
@[simp] theorem ag156 : aggT Tryz.prog 156 = some true := by kernel_rfl
@[simp] theorem zz156 : zeroA Tryz.prog 156 = some (.agg []) := by kernel_rfl
@[simp] theorem sz157 : szOf Tryz.prog 157 = some 1 := by kernel_rfl
@[simp] theorem ag157 : aggT Tryz.prog 157 = some false := by kernel_rfl
@[simp] theorem zz157 : zeroA Tryz.prog 157 = some (.nilf) := by kernel_rfl
@[simp] theorem sz158 : szOf Tryz.prog 158 = some 1 := by kernel_rfl
@[simp] theorem ag158 : aggT Tryz.prog 158 = some false := by kernel_rfl
@[simp] theorem zz158 : zeroA Tryz.prog 158 = some (.int .u32 0) := by kernel_rfl
@[simp] theorem sz159 : szOf Tryz.prog 159 = some 1 := by kernel_rfl
@[simp] theorem ag159 : aggT Tryz.prog 159 = some false := by kernel_rfl
@[simp] theorem zz159 : zeroA Tryz.prog 159 = some (.int .u8 0) := by kernel_rfl
@[simp] theorem sz160 : szOf Tryz.prog 160 = some 1 := by kernel_rfl
@[simp] theorem ag160 : aggT Tryz.prog 160 = some false := by kernel_rfl
@[simp] theorem zz160 : zeroA Tryz.prog 160 = some (.int .u8 0) := by kernel_rfl
@[simp] theorem sz161 : szOf Tryz.prog 161 = some 1 := by kernel_rfl
@[simp] theorem ag161 : aggT Tryz.prog 161 = some false := by kernel_rfl
@[simp] theorem zz161 : zeroA Tryz.prog 161 = some (.nilf) := by kernel_rfl
@[simp] theorem sz162 : szOf Tryz.prog 162 = some 1 := by kernel_rfl
@[simp] theorem ag162 : aggT Tryz.prog 162 = some false := by kernel_rfl
@[simp] theorem zz162 : zeroA Tryz.prog 162 = some (.nilp) := by kernel_rfl
@[simp] theorem sz163 : szOf Tryz.prog 163 = some 1 := by kernel_rfl
@[simp] theorem ag163 : aggT Tryz.prog 163 = some false := by kernel_rfl
@[simp] theorem zz163 : zeroA Tryz.prog 163 = some (.int .i32 0) := by kernel_rfl
@[simp] theorem sz164 : szOf Tryz.prog 164 = some 1 := by kernel_rfl
@[simp] theorem ag164 : aggT Tryz.prog 164 = some false := by kernel_rfl
@[simp] theorem zz164 : zeroA Tryz.prog 164 = some (.int .i32 0) := by kernel_rfl
@[simp] theorem sz165 : szOf Tryz.prog 165 = some 11 := by kernel_rfl
@[simp] theorem ag165 : aggT Tryz.prog 165 = some true := by kernel_rfl
@[simp] theorem zz165 : zeroA Tryz.prog 165 = some (.agg [.int .u64 0, .int .u64 0, .int .u32 0, .int .u8 0, .int .u8 0, .int .u8 0, .int .u8 0, .nilf, .nilp, .int .i32 0, .int .i32 0]) := by kernel_rfl
@[simp] theorem sz166 : szOf Tryz.prog 166 = some 11 := by kernel_rfl
@[simp] theorem ag166 : aggT Tryz.prog 166 = some true := by kernel_rfl
@[simp] theorem zz166 : zeroA Tryz.prog 166 = some (.agg [.int .u64 0, .int .u64 0, .int .u32 0, .int .u8 0, .int .u8 0, .int .u8 0, .int .u8 0, .nilf, .nilp, .int .i32 0, .int .i32 0]) := by kernel_rfl
@[simp] theorem sz167 : szOf Tryz.prog 167 = some 1 := by kernel_rfl
@[simp] theorem ag167 : aggT Tryz.prog 167 = some false := by kernel_rfl
@[simp] theorem zz167 : zeroA Tryz.prog 167 = some (.nilp) := by kernel_rfl
@[simp] theorem ap22 : apT Tryz.prog 22 = some (70,4,48) := by kernel_rfl
@[simp] theorem ap25 : apT Tryz.prog 25 = some (5,1,1) := by kernel_rfl
@[simp] theorem ap27 : apT Tryz.prog 27 = some (26,1,8) := by kernel_rfl
@[simp] theorem ap28 : apT Tryz.prog 28 = some (144,4,32) := by kernel_rfl
@[simp] theorem ap29 : apT Tryz.prog 29 = some (9,1,16) := by kernel_rfl
@[simp] theorem ap35 : apT Tryz.prog 35 = some (128,2,16) := by kernel_rfl
@[simp] theorem ap36 : apT Tryz.prog 36 = some (131,4,32) := by kernel_rfl
@[simp] theorem ap39 : apT Tryz.prog 39 = some (2,1,8) := by kernel_rfl
@[simp] theorem ap42 : apT Tryz.prog 42 = some (72,3,48) := by kernel_rfl
@[simp] theorem ap54 : apT Tryz.prog 54 = some (24,1,24) := by kernel_rfl
@[simp] theorem ap55 : apT Tryz.prog 55 = some (46,45,536) := by kernel_rfl
@[simp] theorem ap60 : apT Tryz.prog 60 = some (41,2,16) := by kernel_rfl
@[simp] theorem ap122 : apT Tryz.prog 122 = some (3,1,8) := by kernel_rfl
@[simp] theorem bt4 : boolT Tryz.prog 4 = true := by kernel_rfl
@[simp] theorem lf7 : leafs Tryz.prog 7 = [2,3,4,6] := by kernel_rfl
@[simp] theorem lf8 : leafs Tryz.prog 8 = [2,3,4,6] := by kernel_rfl
@[simp] theorem lf13 : leafs Tryz.prog 13 = [9,12] := by kernel_rfl
@[simp] theorem lf14 : leafs Tryz.prog 14 = [9,12] := by kernel_rfl
@[simp] theorem lf18 : leafs Tryz.prog 18 = [17] := by kernel_rfl
@[simp] theorem lf19 : leafs Tryz.prog 19 = [17] := by kernel_rfl
@[simp] theorem nvn22 : nrmV Tryz.prog 22 .nils = .list 4 [] := by kernel_rfl
@[simp] theorem nvl22 (s : Nat) (rows : List (List AV)) : nrmV Tryz.prog 22 (.list s rows) = .list s (nrmRows Tryz.prog [3,3,4,55] rows) := by
 have h : Tryz.prog.underlying 22 = some (.slice 70):=by kernel_rfl
 have l : leafs Tryz.prog 70 = [3,3,4,55]:=by kernel_rfl
 simp only [nrmV,h,l]
@[simp] theorem lf22 : leafs Tryz.prog 22 = [22] := by kernel_rfl
@[simp] theorem lf23 : leafs Tryz.prog 23 = [22] := by kernel_rfl
@[simp] theorem lf24 : leafs Tryz.prog 24 = [22] := by kernel_rfl
@[simp] theorem nvn25 : nrmV Tryz.prog 25 .nils = .list 1 [] := by kernel_rfl
@[simp] theorem nvl25 (s : Nat) (rows : List (List AV)) : nrmV Tryz.prog 25 (.list s rows) = .list s (nrmRows Tryz.prog [5] rows) := by
 have h : Tryz.prog.underlying 25 = some (.slice 5):=by kernel_rfl
 have l : leafs Tryz.prog 5 = [5]:=by kernel_rfl
 simp only [nrmV,h,l]
@[simp] theorem lf25 : leafs Tryz.prog 25 = [25] := by kernel_rfl
@[simp] theorem nvn27 : nrmV Tryz.prog 27 .nils = .list 1 [] := by kernel_rfl
@[simp] theorem nvl27 (s : Nat) (rows : List (List AV)) : nrmV Tryz.prog 27 (.list s rows) = .list s (nrmRows Tryz.prog [26] rows) := by
 have h : Tryz.prog.underlying 27 = some (.slice 26):=by kernel_rfl
 have l : leafs Tryz.prog 26 = [26]:=by kernel_rfl
 simp only [nrmV,h,l]
@[simp] theorem lf27 : leafs Tryz.prog 27 = [27] := by kernel_rfl
@[simp] theorem nvn28 : nrmV Tryz.prog 28 .nils = .list 4 [] := by kernel_rfl
@[simp] theorem nvl28 (s : Nat) (rows : List (List AV)) : nrmV Tryz.prog 28 (.list s rows) = .list s (nrmRows Tryz.prog [3,3,3,3] rows) := by
 have h : Tryz.prog.underlying 28 = some (.slice 144):=by kernel_rfl
 have l : leafs Tryz.prog 144 = [3,3,3,3]:=by kernel_rfl
 simp only [nrmV,h,l]
@[simp] theorem lf28 : leafs Tryz.prog 28 = [28] := by kernel_rfl
@[simp] theorem nvn29 : nrmV Tryz.prog 29 .nils = .list 1 [] := by kernel_rfl
@[simp] theorem nvl29 (s : Nat) (rows : List (List AV)) : nrmV Tryz.prog 29 (.list s rows) = .list s (nrmRows Tryz.prog [9] rows) := by
 have h : Tryz.prog.underlying 29 = some (.slice 9):=by kernel_rfl
 have l : leafs Tryz.prog 9 = [9]:=by kernel_rfl
 simp only [nrmV,h,l]
@[simp] theorem lf29 : leafs Tryz.prog 29 = [29] := by kernel_rfl
@[simp] theorem lf30 : leafs Tryz.prog 30 = [28,29,3] := by kernel_rfl
@[simp] theorem lf31 : leafs Tryz.prog 31 = [28,29,3] := by kernel_rfl
@[simp] theorem lf32 : leafs Tryz.prog 32 = [2,2,2,2,2,2,2,2] := by kernel_rfl
@[simp] theorem lf33 : leafs Tryz.prog 33 = [3,2,2,2,2,2,2,2,2] := by kernel_rfl
@[simp] theorem lf34 : leafs Tryz.prog 34 = [3,2,2,2,2,2,2,2,2] := by kernel_rfl
@[simp] theorem nvn35 : nrmV Tryz.prog 35 .nils = .list 2 [] := by kernel_rfl
@[simp] theorem nvl35 (s : Nat) (rows : List (List AV)) : nrmV Tryz.prog 35 (.list s rows) = .list s (nrmRows Tryz.prog [26,4] rows) := by
 have h : Tryz.prog.underlying 35 = some (.slice 128):=by kernel_rfl
 have l : leafs Tryz.prog 128 = [26,4]:=by kernel_rfl
 simp only [nrmV,h,l]
@[simp] theorem lf35 : leafs Tryz.prog 35 = [35] := by kernel_rfl
@[simp] theorem nvn36 : nrmV Tryz.prog 36 .nils = .list 4 [] := by kernel_rfl
@[simp] theorem nvl36 (s : Nat) (rows : List (List AV)) : nrmV Tryz.prog 36 (.list s rows) = .list s (nrmRows Tryz.prog [3,26,26,3] rows) := by
 have h : Tryz.prog.underlying 36 = some (.slice 131):=by kernel_rfl
 have l : leafs Tryz.prog 131 = [3,26,26,3]:=by kernel_rfl
 simp only [nrmV,h,l]
@[simp] theorem lf36 : leafs Tryz.prog 36 = [36] := by kernel_rfl
@[simp] theorem lf37 : leafs Tryz.prog 37 = [3,26,27,28,29,3,3,2,2,2,2,2,2,2,2,35,36,2,2,2] := by kernel_rfl
@[simp] theorem lf38 : leafs Tryz.prog 38 = [3,26,27,28,29,3,3,2,2,2,2,2,2,2,2,35,36,2,2,2] := by kernel_rfl
@[simp] theorem nvn39 : nrmV Tryz.prog 39 .nils = .list 1 [] := by kernel_rfl
@[simp] theorem nvl39 (s : Nat) (rows : List (List AV)) : nrmV Tryz.prog 39 (.list s rows) = .list s (nrmRows Tryz.prog [2] rows) := by
 have h : Tryz.prog.underlying 39 = some (.slice 2):=by kernel_rfl
 have l : leafs Tryz.prog 2 = [2]:=by kernel_rfl
 simp only [nrmV,h,l]
@[simp] theorem lf39 : leafs Tryz.prog 39 = [39] := by kernel_rfl
@[simp] theorem lf40 : leafs Tryz.prog 40 = [25,25] := by kernel_rfl
@[simp] theorem lf41 : leafs Tryz.prog 41 = [3,3] := by kernel_rfl
@[simp] theorem nvn42 : nrmV Tryz.prog 42 .nils = .list 3 [] := by kernel_rfl
@[simp] theorem nvl42 (s : Nat) (rows : List (List AV)) : nrmV Tryz.prog 42 (.list s rows) = .list s (nrmRows Tryz.prog [9,3,27] rows) := by
 have h : Tryz.prog.underlying 42 = some (.slice 72):=by kernel_rfl
 have l : leafs Tryz.prog 72 = [9,3,27]:=by kernel_rfl
 simp only [nrmV,h,l]
@[simp] theorem lf42 : leafs Tryz.prog 42 = [42] := by kernel_rfl
@[simp] theorem lf43 : leafs Tryz.prog 43 = [26,3,3,3,26,27,28,29,3,3,2,2,2,2,2,2,2,2,35,36,2,2,2,39,25,3,26,3,3,27,25,25,3,3,2,42] := by kernel_rfl
@[simp] theorem lf44 : leafs Tryz.prog 44 = [26,3,3,3,26,27,28,29,3,3,2,2,2,2,2,2,2,2,35,36,2,2,2,39,25,3,26,3,3,27,25,25,3,3,2,42] := by kernel_rfl
@[simp] theorem lf45 : leafs Tryz.prog 45 = [3,3,3,26,3,26,3,3,3,26,27,28,29,3,3,2,2,2,2,2,2,2,2,35,36,2,2,2,39,25,3,26,3,3,27,25,25,3,3,2,42,26,2,26,3] := by kernel_rfl
@[simp] theorem lf46 : leafs Tryz.prog 46 = [3,3,3,26,3,26,3,3,3,26,27,28,29,3,3,2,2,2,2,2,2,2,2,35,36,2,2,2,39,25,3,26,3,3,27,25,25,3,3,2,42,26,2,26,3] := by kernel_rfl
@[simp] theorem nvn54 : nrmV Tryz.prog 54 .nils = .list 1 [] := by kernel_rfl
@[simp] theorem nvl54 (s : Nat) (rows : List (List AV)) : nrmV Tryz.prog 54 (.list s rows) = .list s (nrmRows Tryz.prog [22] rows) := by
 have h : Tryz.prog.underlying 54 = some (.slice 24):=by kernel_rfl
 have l : leafs Tryz.prog 24 = [22]:=by kernel_rfl
 simp only [nrmV,h,l]
@[simp] theorem lf54 : leafs Tryz.prog 54 = [54] := by kernel_rfl
@[simp] theorem nvn55 : nrmV Tryz.prog 55 .nils = .list 45 [] := by kernel_rfl
@[simp] theorem nvl55 (s : Nat) (rows : List (List AV)) : nrmV Tryz.prog 55 (.list s rows) = .list s (nrmRows Tryz.prog [3,3,3,26,3,26,3,3,3,26,27,28,29,3,3,2,2,2,2,2,2,2,2,35,36,2,2,2,39,25,3,26,3,3,27,25,25,3,3,2,42,26,2,26,3] rows) := by
 have h : Tryz.prog.underlying 55 = some (.slice 46):=by kernel_rfl
 have l : leafs Tryz.prog 46 = [3,3,3,26,3,26,3,3,3,26,27,28,29,3,3,2,2,2,2,2,2,2,2,35,36,2,2,2,39,25,3,26,3,3,27,25,25,3,3,2,42,26,2,26,3]:=by kernel_rfl
 simp only [nrmV,h,l]
@[simp] theorem lf55 : leafs Tryz.prog 55 = [55] := by kernel_rfl
@[simp] theorem nvn60 : nrmV Tryz.prog 60 .nils = .list 2 [] := by kernel_rfl
@[simp] theorem nvl60 (s : Nat) (rows : List (List AV)) : nrmV Tryz.prog 60 (.list s rows) = .list s (nrmRows Tryz.prog [3,3] rows) := by
 have h : Tryz.prog.underlying 60 = some (.slice 41):=by kernel_rfl
 have l : leafs Tryz.prog 41 = [3,3]:=by kernel_rfl
 simp only [nrmV,h,l]
@[simp] theorem lf60 : leafs Tryz.prog 60 = [60] := by kernel_rfl
@[simp] theorem lf69 : leafs Tryz.prog 69 = [3,3,4,55] := by kernel_rfl
@[simp] theorem lf70 : leafs Tryz.prog 70 = [3,3,4,55] := by kernel_rfl
@[simp] theorem lf71 : leafs Tryz.prog 71 = [9,3,27] := by kernel_rfl
@[simp] theorem lf72 : leafs Tryz.prog 72 = [9,3,27] := by kernel_rfl
@[simp] theorem lf77 : leafs Tryz.prog 77 = [25] := by kernel_rfl
@[simp] theorem lf78 : leafs Tryz.prog 78 = [25] := by kernel_rfl
@[simp] theorem nvn122 : nrmV Tryz.prog 122 .nils = .list 1 [] := by kernel_rfl
@[simp] theorem nvl122 (s : Nat) (rows : List (List AV)) : nrmV Tryz.prog 122 (.list s rows) = .list s (nrmRows Tryz.prog [3] rows) := by
 have h : Tryz.prog.underlying 122 = some (.slice 3):=by kernel_rfl
 have l : leafs Tryz.prog 3 = [3]:=by kernel_rfl
 simp only [nrmV,h,l]
@[simp] theorem lf122 : leafs Tryz.prog 122 = [122] := by kernel_rfl
@[simp] theorem lf127 : leafs Tryz.prog 127 = [26,4] := by kernel_rfl
@[simp] theorem lf128 : leafs Tryz.prog 128 = [26,4] := by kernel_rfl
@[simp] theorem lf130 : leafs Tryz.prog 130 = [3,26,26,3] := by kernel_rfl
@[simp] theorem lf131 : leafs Tryz.prog 131 = [3,26,26,3] := by kernel_rfl
@[simp] theorem lf143 : leafs Tryz.prog 143 = [3,3,3,3] := by kernel_rfl
@[simp] theorem lf144 : leafs Tryz.prog 144 = [3,3,3,3] := by kernel_rfl
@[simp] theorem lf152 : leafs Tryz.prog 152 = [17,17,17,9] := by kernel_rfl
@[simp] theorem lf153 : leafs Tryz.prog 153 = [17,17,17,9] := by kernel_rfl
@[simp] theorem lf154 : leafs Tryz.prog 154 = [] := by kernel_rfl
@[simp] theorem lf155 : leafs Tryz.prog 155 = [] := by kernel_rfl
@[simp] theorem lf156 : leafs Tryz.prog 156 = [] := by kernel_rfl
@[simp] theorem lf165 : leafs Tryz.prog 165 = [12,12,158,159,5,5,160,161,162,163,164] := by kernel_rfl
@[simp] theorem lf166 : leafs Tryz.prog 166 = [12,12,158,159,5,5,160,161,162,163,164] := by kernel_rfl
attribute [simp] runL runG stopG newF List.findIdx?_cons List.findIdx?_nil List.idxOf?_cons List.idxOf?_nil headG stepA execA_eq skipA run_ret run_fail run_get run_put run_asm num lk st lk_st putA AS.ev ofValue ofFlat mkv splice fieldAddrA buildA fillA runF gdst pickA unOpA extractA resVs resV pack frzT inlT inlV frzV frzVs frzL frz1 newId AV.cellsOf AV.flat AV.flat2 specOf loadA_runR capA copyA copyTo srcA sliceCA slice3A appendZA extA AV.place lenCA clearA clearTo expG expB3 List.zipWith renL fF handB renB AV.ren backF backL idsOf freshIds refsL refsB AV.refs List.range List.range.loop placesA sliceRows rowsOf convertA sliceArrA sliceA bndA nilCheckA arrayAtA mmA lookupA keyOf keyOK findA keyEqA foundA makeMapA mapUpdateA appendA rowsA indexA partA fieldA retE2 frqT frqV frqVs frqL frq1 reachE blkRefs outE nodupE firstE seqO expB2 expF
end
end Go.Abs.Nx
namespace Go.Abs.Nx
open Go Go.Proofs Go.Abs
set_option maxRecDepth 100000
set_option maxHeartbeats 4000000
set_option linter.unusedSimpArgs false
set_option linter.unusedVariables false
section
theorem vc2 : Tryz.prog.cellsOf 2 = 1 := by kernel_rfl
theorem vc5 : Tryz.prog.cellsOf 5 = 1 := by kernel_rfl
theorem vc26 : Tryz.prog.cellsOf 26 = 1 := by kernel_rfl
theorem vc72 : Tryz.prog.cellsOf 72 = 3 := by kernel_rfl
theorem viewObject {xs : List AV} (h : TyR Tryz.prog 8 44 xs) : ∃ (x0 : Int) (x1 : Int) (x2 : Int) (x3 : List AV) (x4 : List (List AV)) (x5 : List (List AV)) (x6 : Int) (x7 : Int) (x8 : Int) (x9 : Int) (x10 : List (List AV)) (x11 : List (List AV)) (x12 : List (List AV)) (x13 : Int) (x14 : Int) (x15 : Int) (x16 : List (List AV)),xs = .int .u64 x0 :: (.int .i64 x1 :: (.int .i64 x2 :: (x3 ++ ([.list 1 x4, .list 1 x5, .int .i64 x6, .int .u64 x7, .int .i64 x8, .int .i64 x9, .list 1 x10, .list 1 x11, .list 1 x12, .int .i64 x13, .int .i64 x14, .int .i64 x15, .list 3 x16])))) ∧ (Lit.int .u64 x0).wf = true ∧ (Lit.int .i64 x1).wf = true ∧ (Lit.int .i64 x2).wf = true ∧ TyR Tryz.prog 8 38 x3 ∧ (∀ r ∈ x4,TyR Tryz.prog 8 2 r) ∧ (∀ r ∈ x5,TyR Tryz.prog 8 5 r) ∧ (Lit.int .i64 x6).wf = true ∧ (Lit.int .u64 x7).wf = true ∧ (Lit.int .i64 x8).wf = true ∧ (Lit.int .i64 x9).wf = true ∧ (∀ r ∈ x10,TyR Tryz.prog 8 26 r) ∧ (∀ r ∈ x11,TyR Tryz.prog 8 5 r) ∧ (∀ r ∈ x12,TyR Tryz.prog 8 5 r) ∧ (Lit.int .i64 x13).wf = true ∧ (Lit.int .i64 x14).wf = true ∧ (Lit.int .i64 x15).wf = true ∧ (∀ r ∈ x16,TyR Tryz.prog 8 72 r) := by
 simp only [TyFs,TyR_int Tryz.underlying2,TyR_int Tryz.underlying3,TyR_slice Tryz.underlying25,TyR_int Tryz.underlying26,TyR_slice Tryz.underlying27,TyR_slice Tryz.underlying39,TyR_array Tryz.underlying40,TyR_array Tryz.underlying41,TyR_slice Tryz.underlying42,TyR_struct Tryz.underlying44,vc2,vc5,vc26,vc72,List.map_cons,List.map_nil,List.replicate] at h
 obtain ⟨_,_,rfl,⟨x0,rfl,w0⟩,⟨_,_,rfl,⟨x1,rfl,w1⟩,⟨_,_,rfl,⟨x2,rfl,w2⟩,⟨x3,_,rfl,w3,⟨_,_,rfl,⟨x4,rfl,_,w4⟩,⟨_,_,rfl,⟨x5,rfl,_,w5⟩,⟨_,_,rfl,⟨x6,rfl,w6⟩,⟨_,_,rfl,⟨x7,rfl,w7⟩,⟨_,_,rfl,⟨x8,rfl,w8⟩,⟨_,_,rfl,⟨x9,rfl,w9⟩,⟨_,_,rfl,⟨x10,rfl,_,w10⟩,⟨_,_,rfl,⟨_,_,rfl,⟨x11,rfl,_,w11⟩,⟨_,_,rfl,⟨x12,rfl,_,w12⟩,rfl⟩⟩,⟨_,_,rfl,⟨_,_,rfl,⟨x13,rfl,w13⟩,⟨_,_,rfl,⟨x14,rfl,w14⟩,rfl⟩⟩,⟨_,_,rfl,⟨x15,rfl,w15⟩,⟨_,_,rfl,⟨x16,rfl,_,w16⟩,rfl⟩⟩⟩⟩⟩⟩⟩⟩⟩⟩⟩⟩⟩⟩⟩:=h
 refine ⟨x0,x1,x2,x3,x4,x5,x6,x7,x8,x9,x10,x11,x12,x13,x14,x15,x16, ?_,w0,w1,w2,TyR.monoN (by omega) w3,(fun r hr=>TyR.monoN (by omega) (w4 r hr)),(fun r hr=>TyR.monoN (by omega) (w5 r hr)),w6,w7,w8,w9,(fun r hr=>TyR.monoN (by omega) (w10 r hr)),(fun r hr=>TyR.monoN (by omega) (w11 r hr)),(fun r hr=>TyR.monoN (by omega) (w12 r hr)),w13,w14,w15,(fun r hr=>TyR.monoN (by omega) (w16 r hr))⟩
 simp only [List.cons_append,List.nil_append,List.append_nil,List.append_assoc]
theorem vc9 : Tryz.prog.cellsOf 9 = 1 := by kernel_rfl
theorem vc144 : Tryz.prog.cellsOf 144 = 4 := by kernel_rfl
theorem viewProgram {xs : List AV} (h : TyR Tryz.prog 8 31 xs) : ∃ (x0 : List (List AV)) (x1 : List (List AV)) (x2 : Int),xs = [.list 4 x0, .list 1 x1, .int .i64 x2] ∧ (∀ r ∈ x0,TyR Tryz.prog 8 144 r) ∧ (∀ r ∈ x1,TyR Tryz.prog 8 9 r) ∧ (Lit.int .i64 x2).wf = true := by
 simp only [TyFs,TyR_int Tryz.underlying3,TyR_slice Tryz.underlying28,TyR_slice Tryz.underlying29,TyR_struct Tryz.underlying31,vc9,vc144,List.map_cons,List.map_nil,List.replicate] at h
 obtain ⟨_,_,rfl,⟨x0,rfl,_,w0⟩,⟨_,_,rfl,⟨x1,rfl,_,w1⟩,⟨_,_,rfl,⟨x2,rfl,w2⟩,rfl⟩⟩⟩:=h
 refine ⟨x0,x1,x2, ?_,(fun r hr=>TyR.monoN (by omega) (w0 r hr)),(fun r hr=>TyR.monoN (by omega) (w1 r hr)),w2⟩
 simp only [List.cons_append,List.nil_append,List.append_nil,List.append_assoc]
theorem viewCPU {xs : List AV} (h : TyR Tryz.prog 8 34 xs) : ∃ (x0 : Int) (x1 : Int) (x2 : Int) (x3 : Int) (x4 : Int) (x5 : Int) (x6 : Int) (x7 : Int) (x8 : Int),xs = [.int .i64 x0, .int .i64 x1, .int .i64 x2, .int .i64 x3, .int .i64 x4, .int .i64 x5, .int .i64 x6, .int .i64 x7, .int .i64 x8] ∧ (Lit.int .i64 x0).wf = true ∧ (Lit.int .i64 x1).wf = true ∧ (Lit.int .i64 x2).wf = true ∧ (Lit.int .i64 x3).wf = true ∧ (Lit.int .i64 x4).wf = true ∧ (Lit.int .i64 x5).wf = true ∧ (Lit.int .i64 x6).wf = true ∧ (Lit.int .i64 x7).wf = true ∧ (Lit.int .i64 x8).wf = true := by
 simp only [TyFs,TyR_int Tryz.underlying2,TyR_int Tryz.underlying3,TyR_array Tryz.underlying32,TyR_struct Tryz.underlying34,List.map_cons,List.map_nil,List.replicate] at h
 obtain ⟨_,_,rfl,⟨x0,rfl,w0⟩,⟨_,_,rfl,⟨_,_,rfl,⟨x1,rfl,w1⟩,⟨_,_,rfl,⟨x2,rfl,w2⟩,⟨_,_,rfl,⟨x3,rfl,w3⟩,⟨_,_,rfl,⟨x4,rfl,w4⟩,⟨_,_,rfl,⟨x5,rfl,w5⟩,⟨_,_,rfl,⟨x6,rfl,w6⟩,⟨_,_,rfl,⟨x7,rfl,w7⟩,⟨_,_,rfl,⟨x8,rfl,w8⟩,rfl⟩⟩⟩⟩⟩⟩⟩⟩,rfl⟩⟩:=h
 refine ⟨x0,x1,x2,x3,x4,x5,x6,x7,x8, ?_,w0,w1,w2,w3,w4,w5,w6,w7,w8⟩
 simp only [List.cons_append,List.nil_append,List.append_nil,List.append_assoc]
theorem vc128 : Tryz.prog.cellsOf 128 = 2 := by kernel_rfl
theorem vc131 : Tryz.prog.cellsOf 131 = 4 := by kernel_rfl
theorem viewProcess {xs : List AV} (h : TyR Tryz.prog 8 38 xs) : ∃ (x0 : Int) (x1 : Int) (x2 : List (List AV)) (x3 : List AV) (x4 : List AV) (x5 : List (List AV)) (x6 : List (List AV)) (x7 : Int) (x8 : Int) (x9 : Int),xs = .int .i64 x0 :: (.int .u64 x1 :: (.list 1 x2 :: (x3 ++ (x4 ++ ([.list 2 x5, .list 4 x6, .int .i64 x7, .int .i64 x8, .int .i64 x9]))))) ∧ (Lit.int .i64 x0).wf = true ∧ (Lit.int .u64 x1).wf = true ∧ (∀ r ∈ x2,TyR Tryz.prog 8 26 r) ∧ TyR Tryz.prog 8 31 x3 ∧ TyR Tryz.prog 8 34 x4 ∧ (∀ r ∈ x5,TyR Tryz.prog 8 128 r) ∧ (∀ r ∈ x6,TyR Tryz.prog 8 131 r) ∧ (Lit.int .i64 x7).wf = true ∧ (Lit.int .i64 x8).wf = true ∧ (Lit.int .i64 x9).wf = true := by
 simp only [TyFs,TyR_int Tryz.underlying2,TyR_int Tryz.underlying3,TyR_int Tryz.underlying26,TyR_slice Tryz.underlying27,TyR_slice Tryz.underlying35,TyR_slice Tryz.underlying36,TyR_struct Tryz.underlying38,vc26,vc128,vc131,List.map_cons,List.map_nil,List.replicate] at h
 obtain ⟨_,_,rfl,⟨x0,rfl,w0⟩,⟨_,_,rfl,⟨x1,rfl,w1⟩,⟨_,_,rfl,⟨x2,rfl,_,w2⟩,⟨x3,_,rfl,w3,⟨x4,_,rfl,w4,⟨_,_,rfl,⟨x5,rfl,_,w5⟩,⟨_,_,rfl,⟨x6,rfl,_,w6⟩,⟨_,_,rfl,⟨x7,rfl,w7⟩,⟨_,_,rfl,⟨x8,rfl,w8⟩,⟨_,_,rfl,⟨x9,rfl,w9⟩,rfl⟩⟩⟩⟩⟩⟩⟩⟩⟩⟩:=h
 refine ⟨x0,x1,x2,x3,x4,x5,x6,x7,x8,x9, ?_,w0,w1,(fun r hr=>TyR.monoN (by omega) (w2 r hr)),TyR.monoN (by omega) w3,TyR.monoN (by omega) w4,(fun r hr=>TyR.monoN (by omega) (w5 r hr)),(fun r hr=>TyR.monoN (by omega) (w6 r hr)),w7,w8,w9⟩
 simp only [List.cons_append,List.nil_append,List.append_nil,List.append_assoc]
theorem viewName {xs : List AV} (h : TyR Tryz.prog 8 72 xs) : ∃ (x0 : ByteArray) (x1 : Int) (x2 : List (List AV)),xs = [.str x0, .int .i64 x1, .list 1 x2] ∧ (Lit.int .i64 x1).wf = true ∧ (∀ r ∈ x2,TyR Tryz.prog 8 26 r) := by
 simp only [TyFs,TyR_int Tryz.underlying3,TyR_string Tryz.underlying9,TyR_slice Tryz.underlying27,TyR_struct Tryz.underlying72,vc26,List.map_cons,List.map_nil,List.replicate] at h
 obtain ⟨_,_,rfl,⟨x0,rfl,_⟩,⟨_,_,rfl,⟨x1,rfl,w1⟩,⟨_,_,rfl,⟨x2,rfl,_,w2⟩,rfl⟩⟩⟩:=h
 refine ⟨x0,x1,x2, ?_,w1,(fun r hr=>TyR.monoN (by omega) (w2 r hr))⟩
 simp only [List.cons_append,List.nil_append,List.append_nil,List.append_assoc]
theorem viewInstr {xs : List AV} (h : TyR Tryz.prog 8 144 xs) : ∃ (x0 : Int) (x1 : Int) (x2 : Int) (x3 : Int),xs = [.int .i64 x0, .int .i64 x1, .int .i64 x2, .int .i64 x3] ∧ (Lit.int .i64 x0).wf = true ∧ (Lit.int .i64 x1).wf = true ∧ (Lit.int .i64 x2).wf = true ∧ (Lit.int .i64 x3).wf = true := by
 simp only [TyFs,TyR_int Tryz.underlying3,TyR_struct Tryz.underlying144,List.map_cons,List.map_nil,List.replicate] at h
 obtain ⟨_,_,rfl,⟨x0,rfl,w0⟩,⟨_,_,rfl,⟨x1,rfl,w1⟩,⟨_,_,rfl,⟨x2,rfl,w2⟩,⟨_,_,rfl,⟨x3,rfl,w3⟩,rfl⟩⟩⟩⟩:=h
 refine ⟨x0,x1,x2,x3, ?_,w0,w1,w2,w3⟩
 simp only [List.cons_append,List.nil_append,List.append_nil,List.append_assoc]
theorem viewSlot {xs : List AV} (h : TyR Tryz.prog 8 131 xs) : ∃ (x0 : Int) (x1 : Int) (x2 : Int) (x3 : Int),xs = [.int .i64 x0, .int .u64 x1, .int .u64 x2, .int .i64 x3] ∧ (Lit.int .i64 x0).wf = true ∧ (Lit.int .u64 x1).wf = true ∧ (Lit.int .u64 x2).wf = true ∧ (Lit.int .i64 x3).wf = true := by
 simp only [TyFs,TyR_int Tryz.underlying3,TyR_int Tryz.underlying26,TyR_struct Tryz.underlying131,List.map_cons,List.map_nil,List.replicate] at h
 obtain ⟨_,_,rfl,⟨x0,rfl,w0⟩,⟨_,_,rfl,⟨x1,rfl,w1⟩,⟨_,_,rfl,⟨x2,rfl,w2⟩,⟨_,_,rfl,⟨x3,rfl,w3⟩,rfl⟩⟩⟩⟩:=h
 refine ⟨x0,x1,x2,x3, ?_,w0,w1,w2,w3⟩
 simp only [List.cons_append,List.nil_append,List.append_nil,List.append_assoc]
theorem viewPageRef {xs : List AV} (h : TyR Tryz.prog 8 128 xs) : ∃ (x0 : Int) (x1 : Bool),xs = [.int .u64 x0, .bool x1] ∧ (Lit.int .u64 x0).wf = true := by
 simp only [TyFs,TyR_bool Tryz.underlying4,TyR_int Tryz.underlying26,TyR_struct Tryz.underlying128,List.map_cons,List.map_nil,List.replicate] at h
 obtain ⟨_,_,rfl,⟨x0,rfl,w0⟩,⟨_,_,rfl,⟨x1,rfl⟩,rfl⟩⟩:=h
 refine ⟨x0,x1, ?_,w0⟩
 simp only [List.cons_append,List.nil_append,List.append_nil,List.append_assoc]
theorem viewMessage {xs : List AV} (h : TyR Tryz.prog 8 46 xs) : ∃ (x0 : Int) (x1 : Int) (x2 : Int) (x3 : Int) (x4 : Int) (x5 : List AV) (x6 : Int) (x7 : Int) (x8 : Int) (x9 : Int),xs = .int .i64 x0 :: (.int .i64 x1 :: (.int .i64 x2 :: (.int .u64 x3 :: (.int .i64 x4 :: (x5 ++ ([.int .u64 x6, .int .i64 x7, .int .u64 x8, .int .i64 x9])))))) ∧ (Lit.int .i64 x0).wf = true ∧ (Lit.int .i64 x1).wf = true ∧ (Lit.int .i64 x2).wf = true ∧ (Lit.int .u64 x3).wf = true ∧ (Lit.int .i64 x4).wf = true ∧ TyR Tryz.prog 8 44 x5 ∧ (Lit.int .u64 x6).wf = true ∧ (Lit.int .i64 x7).wf = true ∧ (Lit.int .u64 x8).wf = true ∧ (Lit.int .i64 x9).wf = true := by
 simp only [TyFs,TyR_int Tryz.underlying2,TyR_int Tryz.underlying3,TyR_int Tryz.underlying26,TyR_struct Tryz.underlying46,List.map_cons,List.map_nil,List.replicate] at h
 obtain ⟨_,_,rfl,⟨x0,rfl,w0⟩,⟨_,_,rfl,⟨x1,rfl,w1⟩,⟨_,_,rfl,⟨x2,rfl,w2⟩,⟨_,_,rfl,⟨x3,rfl,w3⟩,⟨_,_,rfl,⟨x4,rfl,w4⟩,⟨x5,_,rfl,w5,⟨_,_,rfl,⟨x6,rfl,w6⟩,⟨_,_,rfl,⟨x7,rfl,w7⟩,⟨_,_,rfl,⟨x8,rfl,w8⟩,⟨_,_,rfl,⟨x9,rfl,w9⟩,rfl⟩⟩⟩⟩⟩⟩⟩⟩⟩⟩:=h
 refine ⟨x0,x1,x2,x3,x4,x5,x6,x7,x8,x9, ?_,w0,w1,w2,w3,w4,TyR.monoN (by omega) w5,w6,w7,w8,w9⟩
 simp only [List.cons_append,List.nil_append,List.append_nil,List.append_assoc]
end
end Go.Abs.Nx

namespace Go.Abs.Nx
open Go Go.Proofs Go.Abs
set_option maxRecDepth 100000
set_option maxHeartbeats 4000000
set_option linter.unusedSimpArgs false
set_option linter.unusedVariables false
section
theorem tm : Tryz.prog.follows .mixedOrders = true := by kernel_rfl
attribute [local simp] slice3A slice3C instA
theorem clones58_ok : FnC Tryz.prog 58 (cloneC 2 1 8) ∧ FnC Tryz.prog 59 (cloneC 5 1 1) ∧ FnC Tryz.prog 60 (cloneC 26 1 8) ∧ FnC Tryz.prog 61 (cloneC 72 3 48) ∧ FnC Tryz.prog 84 (cloneC 128 2 16) ∧ FnC Tryz.prog 85 (cloneC 131 4 32) ∧ FnC Tryz.prog 98 (cloneC 144 4 32) ∧ FnC Tryz.prog 99 (cloneC 9 1 16) := by
 refine ⟨FnC.ofV 58 (fn:=Tryz.f58) Tryz.func58 rfl (by kernel_rfl) fun args B r B' hS=>?_,FnC.ofV 59 (fn:=Tryz.f59) Tryz.func59 rfl (by kernel_rfl) fun args B r B' hS=>?_,FnC.ofV 60 (fn:=Tryz.f60) Tryz.func60 rfl (by kernel_rfl) fun args B r B' hS=>?_,FnC.ofV 61 (fn:=Tryz.f61) Tryz.func61 rfl (by kernel_rfl) fun args B r B' hS=>?_,FnC.ofV 84 (fn:=Tryz.f84) Tryz.func84 rfl (by kernel_rfl) fun args B r B' hS=>?_,FnC.ofV 85 (fn:=Tryz.f85) Tryz.func85 rfl (by kernel_rfl) fun args B r B' hS=>?_,FnC.ofV 98 (fn:=Tryz.f98) Tryz.func98 rfl (by kernel_rfl) fun args B r B' hS=>?_,FnC.ofV 99 (fn:=Tryz.f99) Tryz.func99 rfl (by kernel_rfl) fun args B r B' hS=>?_⟩
 all_goals
   unfold cloneC at hS
   split at hS
   · simp only [Option.some.injEq,Prod.mk.injEq] at hS
     obtain ⟨rfl,rfl⟩:=hS
     refine ⟨by simp, ?_⟩
     change V _ (RetM _ _ 0 _ _) _ _ ⟨8,[(0, .nils)],[]⟩
     repeat (first | refine YS ?_ | refine V.region tm no_specs rfl (by conv=>lhs; simp) fun _=>?_ | refine YL tm no_specs rfl (by conv=>lhs; simp) fun _=>?_)
     exact Ym [] []
   · rename_i s rows
     split at hS
     · rename_i hc
       obtain ⟨rfl,h1,h1',h2⟩:=hc
       simp only [Option.some.injEq,Prod.mk.injEq] at hS
       obtain ⟨rfl,rfl⟩:=hS
       refine ⟨by simp, ?_⟩
       change V _ (RetM _ _ 0 _ _) _ _ ⟨8,[(0, .list _ rows)],[]⟩
       cases rows with
       | nil =>
         refine V.nilCase (t:=0)  0 rfl rfl ?_ ?_
         · repeat (first | refine YU ?_ | refine V.region tm no_specs rfl (by conv=>lhs; simp) fun _=>?_ | refine YL tm no_specs rfl (by conv=>lhs; simp) fun _=>?_)
           refine YP (t:=2) 100 ?_
           repeat (first | refine YS ?_ | refine V.region tm no_specs rfl (by conv=>lhs; simp) fun _=>?_ | refine YL tm no_specs rfl (by conv=>lhs; simp) fun _=>?_)
           simp only [List.length_nil,rowB]
           exact Ym [100] [0]
         · repeat (first | refine YS ?_ | refine V.region tm no_specs rfl (by conv=>lhs; simp) fun _=>?_ | refine YL tm no_specs rfl (by conv=>lhs; simp) fun _=>?_)
           simp only [List.length_nil,rowB]
           exact Ym [96] [0]
       | cons x rows =>
         simp only [List.length_cons] at h1 h2 h1'
         try simp only [Nat.mul_one] at h1
         repeat (first | refine YS ?_ | refine V.region tm no_specs rfl (by conv=>lhs; simp [h1,h2,h1']) fun _=>?_ | refine YL tm no_specs rfl (by conv=>lhs; simp [h1,h2,h1']) fun _=>?_)
         simp only [List.length_cons,rowB]
         exact Ym [96] [0]
     · cases hS
   · rename_i len b
     split at hS
     · rename_i hc
       obtain ⟨hb,rfl,h1,h2⟩:=hc
       simp only [Option.some.injEq,Prod.mk.injEq] at hS
       obtain ⟨rfl,rfl⟩:=hS
       rw [okB_eq hb]
       generalize b.rows = rows at h1 h2 ⊢
       refine ⟨by simp, ?_⟩
       change V _ (RetM _ _ 1 _ _) _ _ ⟨8,[(0, .sl 0 0 0 rows.length)],[(0, { gen:=0,kind:=2,elem:=_,size:=_,inl:=true,rows })]⟩
       cases rows with
       | nil =>
         refine V.slNil (t:=0) 1 rfl rfl rfl rfl ?_ ?_
         · repeat (first | refine YU ?_ | refine V.region tm no_specs rfl (by conv=>lhs; simp) fun _=>?_ | refine YL tm no_specs rfl (by conv=>lhs; simp) fun _=>?_)
           refine YQ (t:=2) 100 ?_
           repeat (first | refine YS ?_ | refine V.region tm no_specs rfl (by conv=>lhs; simp) fun _=>?_ | refine YL tm no_specs rfl (by conv=>lhs; simp) fun _=>?_)
           simp only [List.length_nil,rowB]
           exact Ym [0,100] [0,0]
         · repeat (first | refine YS ?_ | refine V.region tm no_specs rfl (by conv=>lhs; simp) fun _=>?_ | refine YL tm no_specs rfl (by conv=>lhs; simp) fun _=>?_)
           simp only [List.length_nil,rowB]
           exact Ym [0,96] [0,0]
       | cons x rows =>
         simp only [List.length_cons] at h1 h2
         try simp only [Nat.mul_one] at h1
         repeat (first | refine YS ?_ | refine V.region tm no_specs rfl (by conv=>lhs; simp [h1,h2]) fun _=>?_ | refine YL tm no_specs rfl (by conv=>lhs; simp [h1,h2]) fun _=>?_)
         simp only [List.length_cons,rowB]
         exact Ym [0,96] [0,0]
     · cases hS
   · cases hS
theorem clone58_ok : FnC Tryz.prog 58 (cloneC 2 1 8) := clones58_ok.1
theorem clone59_ok : FnC Tryz.prog 59 (cloneC 5 1 1) := clones58_ok.2.1
theorem clone60_ok : FnC Tryz.prog 60 (cloneC 26 1 8) := clones58_ok.2.2.1
theorem clone61_ok : FnC Tryz.prog 61 (cloneC 72 3 48) := clones58_ok.2.2.2.1
theorem clone84_ok : FnC Tryz.prog 84 (cloneC 128 2 16) := clones58_ok.2.2.2.2.1
theorem clone85_ok : FnC Tryz.prog 85 (cloneC 131 4 32) := clones58_ok.2.2.2.2.2.1
theorem clone98_ok : FnC Tryz.prog 98 (cloneC 144 4 32) := clones58_ok.2.2.2.2.2.2.1
theorem clone99_ok : FnC Tryz.prog 99 (cloneC 9 1 16) := clones58_ok.2.2.2.2.2.2.2
theorem tdInj {β : Type} {t : TypeId} {f : Td Tryz.prog t → β} : ∀ x y : Td Tryz.prog t,[AV.agg x.cells] = [AV.agg y.cells] → f x = f y := fun x y h => by
 simp only [List.cons.injEq,AV.agg.injEq,and_true] at h
 rw [Td.ext h]
abbrev Prg := Td Tryz.prog 31
noncomputable def cprS : SpecFn := mkS (fun d : Prg => [.agg d.cells]) fun d => (.agg d.cells,[])
theorem cprS_eq (d : Prg) : cprS [.agg d.cells] [] = some (.agg d.cells,[]) := mkS_eq (enc := fun d : Prg => [AV.agg d.cells]) tdInj d
noncomputable def cpr_specs : NL Spec := [(98,⟨1,datS (cloneC 144 4 32)⟩),(99,⟨1,datS (cloneC 9 1 16)⟩)]
theorem cpr_specs_ok : ∀ p ∈ cpr_specs,FnC Tryz.prog p.1 p.2.fn := by
 simp only [cpr_specs,List.mem_cons,List.not_mem_nil,or_false]
 rintro p (rfl | rfl)
 · exact clone98_ok.dat
 · exact clone99_ok.dat
attribute [local simp] cpr_specs
theorem cpr_ok : FnC Tryz.prog 86 cprS := by
 refine FnC.walk 86 (fn:=Tryz.f86) Tryz.func86 rfl (by kernel_rfl) fun d=>?_
 obtain ⟨cs,ty,bd⟩:=d
 obtain ⟨x0,x1,x2,rfl, -, -, -⟩:=viewProgram ty
 simp only [bdL,bdV,Bool.and_eq_true,decide_eq_true_eq,Bool.and_true] at bd
 have c0:=datS_clone 144 4 32 x0 bd.1.1 (by decide)
 have c1:=datS_clone 9 1 16 x1 bd.2.1 (by decide)
 change W _ (Ret _ _ _ _) _ _ ⟨12,[(0, .agg [.list 4 x0, .list 1 x1, .int .i64 x2])],[]⟩
 repeat (first | refine ZS ?_ | refine ZK tm cpr_specs_ok rfl (by conv=>lhs; simp [c0,c1]) fun _=>?_ | refine ZL tm cpr_specs_ok rfl (by conv=>lhs; simp [c0,c1]) fun _=>?_)
 exact Yr
abbrev Prc := Td Tryz.prog 38
noncomputable def cpcS : SpecFn := mkS (fun d : Prc => [.agg d.cells]) fun d => (.agg d.cells,[])
theorem cpcS_eq (d : Prc) : cpcS [.agg d.cells] [] = some (.agg d.cells,[]) := mkS_eq (enc := fun d : Prc => [AV.agg d.cells]) tdInj d
noncomputable def cpc_specs : NL Spec := [(60,⟨1,datS (cloneC 26 1 8)⟩),(84,⟨1,datS (cloneC 128 2 16)⟩),(85,⟨1,datS (cloneC 131 4 32)⟩),(86,⟨1,cprS⟩)]
theorem cpc_specs_ok : ∀ p ∈ cpc_specs,FnC Tryz.prog p.1 p.2.fn := by
 simp only [cpc_specs,List.mem_cons,List.not_mem_nil,or_false]
 rintro p (rfl | rfl | rfl | rfl)
 · exact clone60_ok.dat
 · exact clone84_ok.dat
 · exact clone85_ok.dat
 · exact cpr_ok
attribute [local simp] cpc_specs
theorem cpc_ok : FnC Tryz.prog 57 cpcS := by
 refine FnC.walk 57 (fn:=Tryz.f57) Tryz.func57 rfl (by kernel_rfl) fun d=>?_
 obtain ⟨cs,ty,bd⟩:=d
 obtain ⟨x0,x1,x2,x3,x4,x5,x6,x7,x8,x9,rfl, -, -, -,h3,h4, -, -, -, -, -⟩:=viewProcess ty
 obtain ⟨y0,y1,y2,rfl, -, -, -⟩:=viewProgram h3
 obtain ⟨z0,z1,z2,z3,z4,z5,z6,z7,z8,rfl, -⟩:=viewCPU h4
 simp only [List.cons_append,List.nil_append,bdL,bdV,Bool.and_eq_true,decide_eq_true_eq,Bool.and_true,Bool.true_and,true_and] at bd
 have b3 : bdL 10000 [AV.list 4 y0,AV.list 1 y1,AV.int .i64 y2] = true:=by simp [bdL,bdV,bd]
 have cP:=cprS_eq ⟨_,h3,b3⟩
 have c2:=datS_clone 26 1 8 x2 (by simp [bd]) (by decide)
 have c5:=datS_clone 128 2 16 x5 (by simp [bd]) (by decide)
 have c6:=datS_clone 131 4 32 x6 (by simp [bd]) (by decide)
 dsimp only at cP
 change W _ (Ret _ _ (.agg [.int .i64 x0, .int .u64 x1, .list 1 x2, .list 4 y0, .list 1 y1, .int .i64 y2, .int .i64 z0, .int .i64 z1, .int .i64 z2, .int .i64 z3, .int .i64 z4, .int .i64 z5, .int .i64 z6, .int .i64 z7, .int .i64 z8, .list 2 x5, .list 4 x6, .int .i64 x7, .int .i64 x8, .int .i64 x9]) _) _ _ ⟨20,[(0, .agg [.int .i64 x0, .int .u64 x1, .list 1 x2, .list 4 y0, .list 1 y1, .int .i64 y2, .int .i64 z0, .int .i64 z1, .int .i64 z2, .int .i64 z3, .int .i64 z4, .int .i64 z5, .int .i64 z6, .int .i64 z7, .int .i64 z8, .list 2 x5, .list 4 x6, .int .i64 x7, .int .i64 x8, .int .i64 x9])],[]⟩
 repeat (first | refine ZS ?_ | refine ZK tm cpc_specs_ok rfl (by conv=>lhs; simp [cP,c2,c5,c6]) fun _=>?_ | refine ZL tm cpc_specs_ok rfl (by conv=>lhs; simp [cP,c2,c5,c6]) fun _=>?_)
 exact Yr
end
section
attribute [local simp] instA slice3A slice3C
abbrev Ob := Td Tryz.prog 44
noncomputable def cobS : SpecFn := mkS (fun d : Ob => [.agg d.cells]) fun d => (.agg d.cells,[])
theorem cobS_eq (d : Ob) : cobS [.agg d.cells] [] = some (.agg d.cells,[]) := mkS_eq (enc := fun d : Ob => [AV.agg d.cells]) tdInj d
noncomputable def cob_specs : NL Spec := [(60,⟨1,datS (cloneC 26 1 8)⟩),(58,⟨1,datS (cloneC 2 1 8)⟩),(59,⟨1,datS (cloneC 5 1 1)⟩),(61,⟨3,cloneC 72 3 48⟩),(57,⟨1,cpcS⟩)]
theorem cob_specs_ok : ∀ p ∈ cob_specs,FnC Tryz.prog p.1 p.2.fn := by
 simp only [cob_specs,List.mem_cons,List.not_mem_nil,or_false]
 rintro p (rfl | rfl | rfl | rfl | rfl)
 · exact clone60_ok.dat
 · exact clone58_ok.dat
 · exact clone59_ok.dat
 · exact clone61_ok
 · exact cpc_ok
attribute [local simp] cob_specs
theorem nameRow {r : List AV} (h : TyR Tryz.prog 8 72 r) (b : bdL 10000 r = true) : ∃ s n ids,r = [.str s, .int .i64 n, .list 1 ids] ∧ ids.length ≤ 10000 := by
 obtain ⟨s,n,ids,rfl, -, -⟩:=viewName h
 simp only [bdL,bdV,Bool.and_eq_true,decide_eq_true_eq,Bool.and_true,Bool.true_and,true_and] at b
 exact ⟨s,n,ids,rfl,b.1⟩
theorem get_lt {α : Type} {l : List α} {i : Nat} (h : i < l.length) : ∃ x,l[i]? = some x := ⟨_,List.getElem?_eq_getElem h⟩
theorem w64 {a : Int} (h1 : -9223372036854775808 ≤ a) (h2 : a ≤ 9223372036854775807) : IntKind.i64.wrap a = a := by
 simp [IntKind.wrap,IntKind.bits,IntKind.signed]; omega
theorem set_self {α : Type} {l : List α} {k : Nat} {x : α} (h : l[k]? = some x) : l.set k x = l := by
 apply List.ext_getElem?
 intro i
 rw [List.getElem?_set]
 split
 · rename_i e; subst e
   split
   · exact h.symm
   · rename_i e2; exact absurd (List.getElem?_eq_some_iff.1 h).1 e2
 · rfl
theorem capT {n : Nat} (h : n ≤ 10000) : n ≤ maxLen := by simp only [maxLen]; omega
def zO : List AV := [.int .u64 0, .int .i64 0, .int .i64 0, .int .i64 0, .int .u64 0, .nils, .nils, .nils, .int .i64 0, .int .i64 0, .int .i64 0, .int .i64 0, .int .i64 0, .int .i64 0, .int .i64 0, .int .i64 0, .int .i64 0, .int .i64 0, .nils, .nils, .int .i64 0, .int .i64 0, .int .i64 0, .nils, .nils, .int .i64 0, .int .u64 0, .int .i64 0, .int .i64 0, .nils, .nils, .nils, .int .i64 0, .int .i64 0, .int .i64 0, .nils]
def zOB : ABlk := { gen := 1,kind := 2,elem := 44,size := 36,inl := false,rows := [zO] }
def nmB (rows : List (List AV)) : ABlk := { gen := 1,kind := 2,elem := 72,size := 3,inl := true,rows }
theorem cob_ok : FnC Tryz.prog 29 cobS := by
 refine FnC.walk 29 (fn:=Tryz.f29) Tryz.func29 rfl (by kernel_rfl) fun d=>?_
 obtain ⟨cs,ty,bd⟩:=d
 obtain ⟨x0,x1,x2,xp,x4,x5,x6,x7,x8,x9,x10,x11,x12,x13,x14,x15,x16,rfl, -, -, -,hp, -, -, -, -, -, -, -, -, -, -, -, -,h16⟩:=viewObject ty
 have bp : bdL 10000 xp = true:=by simp only [bdL,bdV,bdL_append,Bool.and_eq_true,Bool.true_and,true_and] at bd; exact bd.1
 have cP:=cpcS_eq ⟨xp,hp,bp⟩
 obtain ⟨p0,p1,p2,p3,p4,p5,p6,p7,p8,p9,rfl, -, -, -,h3,h4, -, -, -, -, -⟩:=viewProcess hp
 obtain ⟨q0,q1,q2,rfl, -, -, -⟩:=viewProgram h3
 obtain ⟨z0,z1,z2,z3,z4,z5,z6,z7,z8,rfl, -⟩:=viewCPU h4
 simp only [List.cons_append,List.nil_append,bdL,bdV,Bool.and_eq_true,decide_eq_true_eq,Bool.and_true,Bool.true_and,true_and] at bd
 simp only [List.cons_append,List.nil_append] at cP
 have c4:=datS_clone 2 1 8 x4 (by simp [bd]) (by decide)
 have c5:=datS_clone 5 1 1 x5 (by simp [bd]) (by decide)
 have c10:=datS_clone 26 1 8 x10 (by simp [bd]) (by decide)
 have c11:=datS_clone 5 1 1 x11 (by simp [bd]) (by decide)
 have c12:=datS_clone 5 1 1 x12 (by simp [bd]) (by decide)
 have l16 : x16.length ≤ 10000:=by simp [bd]
 have r16 : ∀ r ∈ x16,bdL 10000 r = true:=fun r hr=>bdRows_mem (by simp [bd]) hr
 have c16 : cloneC 72 3 48 [.list 3 x16] [] = some (.sl 0 0 0 x16.length,[{ gen:=0,kind:=2,elem:=72,size:=3,inl:=true,rows:=x16 }]):=by
   have e1 : x16.length * 48 ≤ 140737488355328:=by omega
   have e2 : x16.length ≤ 9223372036854775807:=by omega
   simp [cloneC,e1,e2,capT l16,rowB]
 change W _ (Ret _ _ (.agg [.int .u64 x0, .int .i64 x1, .int .i64 x2, .int .i64 p0, .int .u64 p1, .list 1 p2, .list 4 q0, .list 1 q1, .int .i64 q2, .int .i64 z0, .int .i64 z1, .int .i64 z2, .int .i64 z3, .int .i64 z4, .int .i64 z5, .int .i64 z6, .int .i64 z7, .int .i64 z8, .list 2 p5, .list 4 p6, .int .i64 p7, .int .i64 p8, .int .i64 p9, .list 1 x4, .list 1 x5, .int .i64 x6, .int .u64 x7, .int .i64 x8, .int .i64 x9, .list 1 x10, .list 1 x11, .list 1 x12, .int .i64 x13, .int .i64 x14, .int .i64 x15, .list 3 x16]) []) _ _ ⟨57,[(0, .agg [.int .u64 x0, .int .i64 x1, .int .i64 x2, .int .i64 p0, .int .u64 p1, .list 1 p2, .list 4 q0, .list 1 q1, .int .i64 q2, .int .i64 z0, .int .i64 z1, .int .i64 z2, .int .i64 z3, .int .i64 z4, .int .i64 z5, .int .i64 z6, .int .i64 z7, .int .i64 z8, .list 2 p5, .list 4 p6, .int .i64 p7, .int .i64 p8, .int .i64 p9, .list 1 x4, .list 1 x5, .int .i64 x6, .int .u64 x7, .int .i64 x8, .int .i64 x9, .list 1 x10, .list 1 x11, .list 1 x12, .int .i64 x13, .int .i64 x14, .int .i64 x15, .list 3 x16])],[]⟩
 dsimp only
 clear bd bp hp ty
 repeat (first | refine ZS ?_ | refine ZK tm cob_specs_ok rfl (by conv=>lhs; simp [cP,c4,c5,c10]) fun _=>?_ | refine ZL tm cob_specs_ok rfl (by conv=>lhs; simp [cP,c4,c5,c10]) fun _=>?_)
 refine W.loop rfl (ι:={ q : Nat × NL ABlk // q.1 ≤ 2 ∧ lk q.2 32 = some { gen:=1,kind:=2,elem:=44,size:=36,inl:=false,rows:=[[.int .u64 x0, .int .i64 x1, .int .i64 x2, .int .i64 p0, .int .u64 p1, .list 1 p2, .list 4 q0, .list 1 q1, .int .i64 q2, .int .i64 z0, .int .i64 z1, .int .i64 z2, .int .i64 z3, .int .i64 z4, .int .i64 z5, .int .i64 z6, .int .i64 z7, .int .i64 z8, .list 2 p5, .list 4 p6, .int .i64 p7, .int .i64 p8, .int .i64 p9, .list 1 x4, .list 1 x5, .int .i64 x6, .int .u64 x7, .int .i64 x8, .int .i64 x9, .list 1 x10, .list 1 x11, .list 1 x12, .int .i64 x13, .int .i64 x14, .int .i64 x15, .list 3 x16]] } ∧ lk q.2 48 = some zOB ∧ lk q.2 608 = none })
   (fun q=>⟨57,[(1, .ptr 32 1 0 0),(2, .ptr 48 1 0 0),(24, .agg [.list 1 x11, .list 1 x12]),(25, .int .i64 (q.1.1 : Nat))],q.1.2⟩) (fun q=>2 - q.1.1)
   ⟨(0,_),by simp,by rfl,by rfl,by rfl⟩ (AS.le_of rfl ⟨rfl,rfl,rfl,rfl,trivial⟩ (fun _=>rfl)) ?_
 rintro ⟨⟨k,h⟩,hk,h1,h2,h3⟩
 dsimp only at hk h1 h2 h3 ⊢
 by_cases hk2 : k = 2
 · subst hk2
   have g1 : ((lk h 608).getD {}).gen + 1 = 1:=by rw [h3]; rfl
   repeat (first | refine ZS ?_ | refine ZK tm cob_specs_ok rfl (by conv=>lhs; simp [h1,h2,zOB,zO,c16]) fun _=>?_ | refine ZL tm cob_specs_ok rfl (by conv=>lhs; simp [h1,h2,zOB,zO,c16]) fun _=>?_)
   refine W.loop rfl (ι:={ q : Nat × NL ABlk // q.1 ≤ x16.length ∧ lk q.2 32 = some { gen:=1,kind:=2,elem:=44,size:=36,inl:=false,rows:=[[.int .u64 x0, .int .i64 x1, .int .i64 x2, .int .i64 p0, .int .u64 p1, .list 1 p2, .list 4 q0, .list 1 q1, .int .i64 q2, .int .i64 z0, .int .i64 z1, .int .i64 z2, .int .i64 z3, .int .i64 z4, .int .i64 z5, .int .i64 z6, .int .i64 z7, .int .i64 z8, .list 2 p5, .list 4 p6, .int .i64 p7, .int .i64 p8, .int .i64 p9, .list 1 x4, .list 1 x5, .int .i64 x6, .int .u64 x7, .int .i64 x8, .int .i64 x9, .list 1 x10, .list 1 x11, .list 1 x12, .int .i64 x13, .int .i64 x14, .int .i64 x15, .sl 608 1 0 x16.length]] } ∧ lk q.2 48 = some zOB ∧ lk q.2 608 = some (nmB x16) })
     (fun q=>⟨57,[(1, .ptr 32 1 0 0),(2, .ptr 48 1 0 0),(40, .sl 608 1 0 x16.length),(41, .int .i64 x16.length),(42, .int .i64 (q.1.1 : Nat))],q.1.2⟩) (fun q=>x16.length - q.1.1)
     ⟨(0,_),by simp,by simp [lk_st,h1,h3],by simp [lk_st,h2],by simp [lk_st,nmB,h3]⟩ (AS.le_of rfl ⟨rfl,rfl,by simp [lk,h3],rfl,rfl,trivial⟩ (fun _=>rfl)) ?_
   clear g1 h1 h2 h3 hk h
   rintro ⟨⟨k,h⟩,hk,h1,h2,h3⟩
   dsimp only at hk h1 h2 h3 ⊢
   by_cases hk2 : k = x16.length
   · subst hk2
     repeat (first | refine ZS ?_ | refine ZK tm cob_specs_ok rfl (by conv=>lhs; simp [h1,h2,h3,zOB,zO,nmB]) fun _=>?_ | refine ZL tm cob_specs_ok rfl (by conv=>lhs; simp [h1,h2,h3,zOB,zO,nmB]) fun _=>?_)
     exact Yr (h1:=by conv=>lhs; simp [h3,nmB]) (h2:=by conv=>lhs; simp [h3,nmB])
   · have hlt : k < x16.length:=by omega
     obtain ⟨r,hr⟩:=get_lt hlt
     have hm:=List.mem_of_getElem? hr
     obtain ⟨s,n,ids,rfl,hi⟩:=nameRow (h16 r hm) (r16 r hm)
     have cI:=datS_clone 26 1 8 ids hi (by decide)
     have q1 : (k : Int) < x16.length:=by omega
     have q2 : ¬ x16.length ≤ k:=by omega
     have hw : IntKind.i64.wrap ((k : Int) + 1) = ((k + 1 : Nat) : Int):=w64 (by omega) (by omega)
     have hs:=set_self hr
     repeat (first | refine ZS ?_ | refine ZK tm cob_specs_ok rfl (by conv=>lhs; simp [h1,h2,h3,nmB,q1,q2,hr,cI,hw,hs]) fun _=>?_ | refine ZL tm cob_specs_ok rfl (by conv=>lhs; simp [h1,h2,h3,nmB,q1,q2,hr,cI,hw,hs]) fun _=>?_)
     exact ⟨⟨(k + 1,_),hlt,by simp [lk_st,h1],by simp [lk_st,h2],by simp [lk_st,nmB,h3,hs]⟩,by dsimp only; omega,AS.le_of rfl ⟨rfl,rfl,rfl,rfl,rfl,trivial⟩ (fun _=>rfl)⟩
 · have hk3 : k = 0 ∨ k = 1:=by omega
   rcases hk3 with rfl | rfl
   · repeat (first | refine ZS ?_ | refine ZK tm cob_specs_ok rfl (by conv=>lhs; simp [h1,h2,c11]) fun _=>?_ | refine ZL tm cob_specs_ok rfl (by conv=>lhs; simp [h1,h2,c11]) fun _=>?_)
     exact ⟨⟨(1,_),by simp,by simp [lk_st,h1],by simp [lk_st,h2],by simp [lk_st,h3]⟩,by simp,AS.le_of rfl ⟨rfl,rfl,rfl,rfl,trivial⟩ (fun _=>rfl)⟩
   · repeat (first | refine ZS ?_ | refine ZK tm cob_specs_ok rfl (by conv=>lhs; simp [h1,h2,c12]) fun _=>?_ | refine ZL tm cob_specs_ok rfl (by conv=>lhs; simp [h1,h2,c12]) fun _=>?_)
     exact ⟨⟨(2,_),by simp,by simp [lk_st,h1],by simp [lk_st,h2],by simp [lk_st,h3]⟩,by simp,AS.le_of rfl ⟨rfl,rfl,rfl,rfl,trivial⟩ (fun _=>rfl)⟩
end
section
def zc : AV → Bool
 | .int _ n=>n == 0
 | .list _ r=>r.length == 0
 | _=>false
def cpuZ (a b c d e f g h i : Int) : Bool := a == 0 && (b == 0 && (c == 0 && (d == 0 && (e == 0 && (f == 0 && (g == 0 && (h == 0 && i == 0)))))))
theorem tcI : Tryz.prog.cellsOf 2 = 1 := by kernel_rfl
theorem tiI : (Tryz.prog.info? 2).isSome = true := by kernel_rfl
theorem tcJ : Tryz.prog.cellsOf 3 = 1 := by kernel_rfl
theorem tiJ : (Tryz.prog.info? 3).isSome = true := by kernel_rfl
theorem tgC : Tryz.prog.eqGuardType Tryz.prog.depth 34 = false := by kernel_rfl
theorem thC : Tryz.prog.stoodInHeld 34 = false := by kernel_rfl
theorem tgE : Tryz.prog.eqGuardType Tryz.prog.depth 41 = false := by kernel_rfl
theorem eqCpu (a b c d e f g h i a' b' c' d' e' f' g' h' i' : Int) : eqV Tryz.prog 9 34 (.agg [.int .i64 a, .int .i64 b, .int .i64 c, .int .i64 d, .int .i64 e, .int .i64 f, .int .i64 g, .int .i64 h, .int .i64 i]) (.agg [.int .i64 a', .int .i64 b', .int .i64 c', .int .i64 d', .int .i64 e', .int .i64 f', .int .i64 g', .int .i64 h', .int .i64 i']) =
   some (a == a' && (b == b' && (c == c' && (d == d' && (e == e' && (f == f' && (g == g' && (h == h' && i == i')))))))):=by
 simp [eqV,Tryz.underlying34,Tryz.underlying32,Tryz.underlying2,Tryz.underlying3,thC,eqFs,eqIs,partV,List.range,List.range.loop,tcI,tiI]
theorem eqEnds (a b a' b' : Int) : eqV Tryz.prog 9 41 (.agg [.int .i64 a, .int .i64 b]) (.agg [.int .i64 a', .int .i64 b']) = some (a == a' && b == b') := by
 simp [eqV,Tryz.underlying41,Tryz.underlying3,eqFs,eqIs,partV,List.range,List.range.loop,tcJ,tiJ]
attribute [local simp] instA eqlA tgC tgE eqCpu eqEnds
def restZ : List AV → Bool
 | [.int .i64 p0, .int .u64 p1, .list 1 p2, .list 4 q0, .list 1 q1, .int .i64 q2, .int .i64 z0, .int .i64 z1, .int .i64 z2, .int .i64 z3, .int .i64 z4, .int .i64 z5, .int .i64 z6, .int .i64 z7, .int .i64 z8, .list 2 p5, .list 4 p6, .int .i64 p7, .int .i64 p8, .int .i64 p9]=>((p2.length : Int) + q0.length + q1.length + p5.length + p6.length == 0) && ((q2 == 0) && (cpuZ z0 z1 z2 z3 z4 z5 z6 z7 z8 && ((p7 == 0) && (p8 == 0))))
 | _=>false
def noneZ : List AV → Bool
 | [.int .i64 p0, .int .u64 p1, .list 1 p2, .list 4 q0, .list 1 q1, .int .i64 q2, .int .i64 z0, .int .i64 z1, .int .i64 z2, .int .i64 z3, .int .i64 z4, .int .i64 z5, .int .i64 z6, .int .i64 z7, .int .i64 z8, .list 2 p5, .list 4 p6, .int .i64 p7, .int .i64 p8, .int .i64 p9]=>(p0 == 0) && ((p1 == 0) && ((p9 == 0) && restZ [.int .i64 p0, .int .u64 p1, .list 1 p2, .list 4 q0, .list 1 q1, .int .i64 q2, .int .i64 z0, .int .i64 z1, .int .i64 z2, .int .i64 z3, .int .i64 z4, .int .i64 z5, .int .i64 z6, .int .i64 z7, .int .i64 z8, .list 2 p5, .list 4 p6, .int .i64 p7, .int .i64 p8, .int .i64 p9]))
 | _=>false
noncomputable def nnS : SpecFn := mkS (fun d : Prc => [.agg d.cells]) fun d => (.bool (noneZ d.cells),[])
end
section
def mk (b : Bool) (f s : Int) : Int := if b = true then IntKind.i64.wrap (((s % 2 ^ IntKind.i64.bits).toNat ||| (f % 2 ^ IntKind.i64.bits).toNat : Nat) : Int) else s
attribute [local simp] instA
attribute [local simp] instA eqlA tgC tgE eqCpu eqEnds
def bareZ : List AV → Bool
 | .int .u64 x0 :: .int .i64 x1 :: .int .i64 x2 :: .int .i64 p0 :: .int .u64 p1 :: .list 1 p2 :: .list 4 q0 :: .list 1 q1 :: .int .i64 q2 :: .int .i64 z0 :: .int .i64 z1 :: .int .i64 z2 :: .int .i64 z3 :: .int .i64 z4 :: .int .i64 z5 :: .int .i64 z6 :: .int .i64 z7 :: .int .i64 z8 :: .list 2 p5 :: .list 4 p6 :: .int .i64 p7 :: .int .i64 p8 :: .int .i64 p9 :: .list 1 x4 :: .list 1 x5 :: .int .i64 x6 :: .int .u64 x7 :: .int .i64 x8 :: .int .i64 x9 :: .list 1 x10 :: .list 1 x11 :: .list 1 x12 :: .int .i64 x13 :: .int .i64 x14 :: .int .i64 x15 :: .list 3 x16 :: []=>(x2 == 0) && (((x4.length : Int) == 0) && (((x5.length : Int) == 0) && ((x6 == 0) && ((x7 == 0) && ((x8 == 0) && ((x9 == 0) && (((x10.length : Int) == 0) && (((x11.length : Int) == 0) && (((x12.length : Int) == 0) && ((x13 == 0 && x14 == 0) && ((x15 == 0) && (((x16.length : Int) == 0) && noneZ [.int .i64 p0, .int .u64 p1, .list 1 p2, .list 4 q0, .list 1 q1, .int .i64 q2, .int .i64 z0, .int .i64 z1, .int .i64 z2, .int .i64 z3, .int .i64 z4, .int .i64 z5, .int .i64 z6, .int .i64 z7, .int .i64 z8, .list 2 p5, .list 4 p6, .int .i64 p7, .int .i64 p8, .int .i64 p9]))))))))))))
 | _=>false
end
section
noncomputable def br_specs : NL Spec := [(102,⟨1,nnS⟩)]
attribute [local simp] instA eqlA tgC tgE eqCpu eqEnds br_specs
noncomputable def brS : SpecFn := mkS (fun d : Ob => [.agg d.cells]) fun d => (.bool (bareZ d.cells),[])
def zO? (d : Ob) : Bool := match d.cells with
 | .int _ i :: .int _ k :: _=>(i == 0) && ((k == 0) && bareZ d.cells)
 | _=>false
end
end Go.Abs.Nx
