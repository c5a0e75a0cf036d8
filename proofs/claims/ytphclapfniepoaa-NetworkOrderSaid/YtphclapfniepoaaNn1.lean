/- Facts about types. Conditions: none. -/
import Derived.Test.YtphclapfniepoaaAb9
import Derived.Test.YtphclapfniepoaaProg
import Derived.KernelRfl
import Derived.Test.YtphclapfniepoaaAb8
namespace Go.Abs.Nn
open Go Go.Proofs Go.Abs
set_option maxRecDepth 100000
section
@[simp] theorem sz0 : szOf Try.prog 0 = some 1 := by kernel_rfl
@[simp] theorem ag0 : aggT Try.prog 0 = some false := by kernel_rfl
@[simp] theorem sz1 : szOf Try.prog 1 = some 1 := by kernel_rfl
@[simp] theorem ag1 : aggT Try.prog 1 = some false := by kernel_rfl
@[simp] theorem zz1 : zeroA Try.prog 1 = some (.nilf) := by kernel_rfl
@[simp] theorem sz2 : szOf Try.prog 2 = some 1 := by kernel_rfl
@[simp] theorem ag2 : aggT Try.prog 2 = some false := by kernel_rfl
@[simp] theorem zz2 : zeroA Try.prog 2 = some (.int .i64 0) := by kernel_rfl
@[simp] theorem sz3 : szOf Try.prog 3 = some 1 := by kernel_rfl
@[simp] theorem ag3 : aggT Try.prog 3 = some false := by kernel_rfl
@[simp] theorem zz3 : zeroA Try.prog 3 = some (.int .i64 0) := by kernel_rfl
@[simp] theorem sz4 : szOf Try.prog 4 = some 1 := by kernel_rfl
@[simp] theorem ag4 : aggT Try.prog 4 = some false := by kernel_rfl
@[simp] theorem zz4 : zeroA Try.prog 4 = some (.bool false) := by kernel_rfl
@[simp] theorem sz5 : szOf Try.prog 5 = some 1 := by kernel_rfl
@[simp] theorem ag5 : aggT Try.prog 5 = some false := by kernel_rfl
@[simp] theorem zz5 : zeroA Try.prog 5 = some (.int .u8 0) := by kernel_rfl
@[simp] theorem sz6 : szOf Try.prog 6 = some 1 := by kernel_rfl
@[simp] theorem ag6 : aggT Try.prog 6 = some false := by kernel_rfl
@[simp] theorem zz6 : zeroA Try.prog 6 = some (.int .u8 0) := by kernel_rfl
@[simp] theorem sz7 : szOf Try.prog 7 = some 4 := by kernel_rfl
@[simp] theorem ag7 : aggT Try.prog 7 = some true := by kernel_rfl
@[simp] theorem zz7 : zeroA Try.prog 7 = some (.agg [.int .i64 0, .int .i64 0, .bool false, .int .u8 0]) := by kernel_rfl
@[simp] theorem sz8 : szOf Try.prog 8 = some 4 := by kernel_rfl
@[simp] theorem ag8 : aggT Try.prog 8 = some true := by kernel_rfl
@[simp] theorem zz8 : zeroA Try.prog 8 = some (.agg [.int .i64 0, .int .i64 0, .bool false, .int .u8 0]) := by kernel_rfl
@[simp] theorem sz9 : szOf Try.prog 9 = some 1 := by kernel_rfl
@[simp] theorem ag9 : aggT Try.prog 9 = some false := by kernel_rfl
@[simp] theorem zz9 : zeroA Try.prog 9 = some (.str ByteArray.empty) := by kernel_rfl
@[simp] theorem sz10 : szOf Try.prog 10 = some 1 := by kernel_rfl
@[simp] theorem ag10 : aggT Try.prog 10 = some false := by kernel_rfl
@[simp] theorem zz10 : zeroA Try.prog 10 = some (.str ByteArray.empty) := by kernel_rfl
@[simp] theorem sz11 : szOf Try.prog 11 = some 1 := by kernel_rfl
@[simp] theorem ag11 : aggT Try.prog 11 = some false := by kernel_rfl
@[simp] theorem zz11 : zeroA Try.prog 11 = some (.str ByteArray.empty) := by kernel_rfl
@[simp] theorem sz12 : szOf Try.prog 12 = some 1 := by kernel_rfl
@[simp] theorem ag12 : aggT Try.prog 12 = some false := by kernel_rfl
@[simp] theorem zz12 : zeroA Try.prog 12 = some (.int .u64 0) := by kernel_rfl
@[simp] theorem sz13 : szOf Try.prog 13 = some 2 := by kernel_rfl
@[simp] theorem ag13 : aggT Try.prog 13 = some true := by kernel_rfl
@[simp] theorem zz13 : zeroA Try.prog 13 = some (.agg [.str ByteArray.empty, .int .u64 0]) := by kernel_rfl
@[simp] theorem sz14 : szOf Try.prog 14 = some 2 := by kernel_rfl
@[simp] theorem ag14 : aggT Try.prog 14 = some true := by kernel_rfl
@[simp] theorem zz14 : zeroA Try.prog 14 = some (.agg [.str ByteArray.empty, .int .u64 0]) := by kernel_rfl
@[simp] theorem sz15 : szOf Try.prog 15 = some 1 := by kernel_rfl
@[simp] theorem ag15 : aggT Try.prog 15 = some false := by kernel_rfl
@[simp] theorem zz15 : zeroA Try.prog 15 = some (.nilp) := by kernel_rfl
@[simp] theorem sz16 : szOf Try.prog 16 = some 1 := by kernel_rfl
@[simp] theorem ag16 : aggT Try.prog 16 = some false := by kernel_rfl
@[simp] theorem zz16 : zeroA Try.prog 16 = some (.nilp) := by kernel_rfl
@[simp] theorem sz17 : szOf Try.prog 17 = some 1 := by kernel_rfl
@[simp] theorem ag17 : aggT Try.prog 17 = some false := by kernel_rfl
@[simp] theorem zz17 : zeroA Try.prog 17 = some (.nilp) := by kernel_rfl
@[simp] theorem sz18 : szOf Try.prog 18 = some 1 := by kernel_rfl
@[simp] theorem ag18 : aggT Try.prog 18 = some true := by kernel_rfl
@[simp] theorem zz18 : zeroA Try.prog 18 = some (.agg [.nilp]) := by kernel_rfl
@[simp] theorem sz19 : szOf Try.prog 19 = some 1 := by kernel_rfl
@[simp] theorem ag19 : aggT Try.prog 19 = some true := by kernel_rfl
@[simp] theorem zz19 : zeroA Try.prog 19 = some (.agg [.nilp]) := by kernel_rfl
@[simp] theorem sz20 : szOf Try.prog 20 = some 1 := by kernel_rfl
@[simp] theorem ag20 : aggT Try.prog 20 = some false := by kernel_rfl
@[simp] theorem sz21 : szOf Try.prog 21 = some 1 := by kernel_rfl
@[simp] theorem ag21 : aggT Try.prog 21 = some false := by kernel_rfl
@[simp] theorem zz21 : zeroA Try.prog 21 = some (.int .i32 0) := by kernel_rfl
@[simp] theorem sz22 : szOf Try.prog 22 = some 1 := by kernel_rfl
@[simp] theorem ag22 : aggT Try.prog 22 = some false := by kernel_rfl
@[simp] theorem zz22 : zeroA Try.prog 22 = some (.nils) := by kernel_rfl
@[simp] theorem sz23 : szOf Try.prog 23 = some 1 := by kernel_rfl
@[simp] theorem ag23 : aggT Try.prog 23 = some false := by kernel_rfl
@[simp] theorem zz23 : zeroA Try.prog 23 = some (.nilf) := by kernel_rfl
@[simp] theorem sz24 : szOf Try.prog 24 = some 1 := by kernel_rfl
@[simp] theorem ag24 : aggT Try.prog 24 = some false := by kernel_rfl
@[simp] theorem zz24 : zeroA Try.prog 24 = some (.nils) := by kernel_rfl
@[simp] theorem sz25 : szOf Try.prog 25 = some 1 := by kernel_rfl
@[simp] theorem ag25 : aggT Try.prog 25 = some true := by kernel_rfl
@[simp] theorem zz25 : zeroA Try.prog 25 = some (.agg [.nils]) := by kernel_rfl
@[simp] theorem sz26 : szOf Try.prog 26 = some 1 := by kernel_rfl
@[simp] theorem ag26 : aggT Try.prog 26 = some true := by kernel_rfl
@[simp] theorem zz26 : zeroA Try.prog 26 = some (.agg [.nils]) := by kernel_rfl
@[simp] theorem sz27 : szOf Try.prog 27 = some 1 := by kernel_rfl
@[simp] theorem ag27 : aggT Try.prog 27 = some false := by kernel_rfl
@[simp] theorem zz27 : zeroA Try.prog 27 = some (.nilp) := by kernel_rfl
@[simp] theorem sz28 : szOf Try.prog 28 = some 1 := by kernel_rfl
@[simp] theorem ag28 : aggT Try.prog 28 = some false := by kernel_rfl
@[simp] theorem sz29 : szOf Try.prog 29 = some 1 := by kernel_rfl
@[simp] theorem ag29 : aggT Try.prog 29 = some false := by kernel_rfl
@[simp] theorem zz29 : zeroA Try.prog 29 = some (.nilf) := by kernel_rfl
@[simp] theorem sz30 : szOf Try.prog 30 = some 1 := by kernel_rfl
@[simp] theorem ag30 : aggT Try.prog 30 = some false := by kernel_rfl
@[simp] theorem zz30 : zeroA Try.prog 30 = some (.int .u64 0) := by kernel_rfl
@[simp] theorem sz31 : szOf Try.prog 31 = some 1 := by kernel_rfl
@[simp] theorem ag31 : aggT Try.prog 31 = some false := by kernel_rfl
@[simp] theorem zz31 : zeroA Try.prog 31 = some (.nils) := by kernel_rfl
@[simp] theorem sz32 : szOf Try.prog 32 = some 1 := by kernel_rfl
@[simp] theorem ag32 : aggT Try.prog 32 = some false := by kernel_rfl
@[simp] theorem zz32 : zeroA Try.prog 32 = some (.nils) := by kernel_rfl
@[simp] theorem sz33 : szOf Try.prog 33 = some 1 := by kernel_rfl
@[simp] theorem ag33 : aggT Try.prog 33 = some false := by kernel_rfl
@[simp] theorem zz33 : zeroA Try.prog 33 = some (.nils) := by kernel_rfl
@[simp] theorem sz34 : szOf Try.prog 34 = some 3 := by kernel_rfl
@[simp] theorem ag34 : aggT Try.prog 34 = some true := by kernel_rfl
@[simp] theorem zz34 : zeroA Try.prog 34 = some (.agg [.nils, .nils, .int .i64 0]) := by kernel_rfl
@[simp] theorem sz35 : szOf Try.prog 35 = some 3 := by kernel_rfl
@[simp] theorem ag35 : aggT Try.prog 35 = some true := by kernel_rfl
@[simp] theorem zz35 : zeroA Try.prog 35 = some (.agg [.nils, .nils, .int .i64 0]) := by kernel_rfl
@[simp] theorem sz36 : szOf Try.prog 36 = some 8 := by kernel_rfl
@[simp] theorem ag36 : aggT Try.prog 36 = some true := by kernel_rfl
@[simp] theorem zz36 : zeroA Try.prog 36 = some (.agg [.int .i64 0, .int .i64 0, .int .i64 0, .int .i64 0, .int .i64 0, .int .i64 0, .int .i64 0, .int .i64 0]) := by kernel_rfl
@[simp] theorem sz37 : szOf Try.prog 37 = some 9 := by kernel_rfl
@[simp] theorem ag37 : aggT Try.prog 37 = some true := by kernel_rfl
@[simp] theorem zz37 : zeroA Try.prog 37 = some (.agg [.int .i64 0, .int .i64 0, .int .i64 0, .int .i64 0, .int .i64 0, .int .i64 0, .int .i64 0, .int .i64 0, .int .i64 0]) := by kernel_rfl
@[simp] theorem sz38 : szOf Try.prog 38 = some 9 := by kernel_rfl
@[simp] theorem ag38 : aggT Try.prog 38 = some true := by kernel_rfl
@[simp] theorem zz38 : zeroA Try.prog 38 = some (.agg [.int .i64 0, .int .i64 0, .int .i64 0, .int .i64 0, .int .i64 0, .int .i64 0, .int .i64 0, .int .i64 0, .int .i64 0]) := by kernel_rfl
@[simp] theorem sz39 : szOf Try.prog 39 = some 1 := by kernel_rfl
@[simp] theorem ag39 : aggT Try.prog 39 = some false := by kernel_rfl
@[simp] theorem zz39 : zeroA Try.prog 39 = some (.nils) := by kernel_rfl
@[simp] theorem sz40 : szOf Try.prog 40 = some 1 := by kernel_rfl
@[simp] theorem ag40 : aggT Try.prog 40 = some false := by kernel_rfl
@[simp] theorem zz40 : zeroA Try.prog 40 = some (.nils) := by kernel_rfl
@[simp] theorem sz41 : szOf Try.prog 41 = some 20 := by kernel_rfl
@[simp] theorem ag41 : aggT Try.prog 41 = some true := by kernel_rfl
@[simp] theorem zz41 : zeroA Try.prog 41 = some (.agg [.int .i64 0, .int .u64 0, .nils, .nils, .nils, .int .i64 0, .int .i64 0, .int .i64 0, .int .i64 0, .int .i64 0, .int .i64 0, .int .i64 0, .int .i64 0, .int .i64 0, .int .i64 0, .nils, .nils, .int .i64 0, .int .i64 0, .int .i64 0]) := by kernel_rfl
@[simp] theorem sz42 : szOf Try.prog 42 = some 20 := by kernel_rfl
@[simp] theorem ag42 : aggT Try.prog 42 = some true := by kernel_rfl
@[simp] theorem zz42 : zeroA Try.prog 42 = some (.agg [.int .i64 0, .int .u64 0, .nils, .nils, .nils, .int .i64 0, .int .i64 0, .int .i64 0, .int .i64 0, .int .i64 0, .int .i64 0, .int .i64 0, .int .i64 0, .int .i64 0, .int .i64 0, .nils, .nils, .int .i64 0, .int .i64 0, .int .i64 0]) := by kernel_rfl
@[simp] theorem sz43 : szOf Try.prog 43 = some 1 := by kernel_rfl
@[simp] theorem ag43 : aggT Try.prog 43 = some false := by kernel_rfl
@[simp] theorem zz43 : zeroA Try.prog 43 = some (.nils) := by kernel_rfl
@[simp] theorem sz44 : szOf Try.prog 44 = some 2 := by kernel_rfl
@[simp] theorem ag44 : aggT Try.prog 44 = some true := by kernel_rfl
@[simp] theorem zz44 : zeroA Try.prog 44 = some (.agg [.nils, .nils]) := by kernel_rfl
@[simp] theorem sz45 : szOf Try.prog 45 = some 2 := by kernel_rfl
@[simp] theorem ag45 : aggT Try.prog 45 = some true := by kernel_rfl
@[simp] theorem zz45 : zeroA Try.prog 45 = some (.agg [.int .i64 0, .int .i64 0]) := by kernel_rfl
@[simp] theorem sz46 : szOf Try.prog 46 = some 1 := by kernel_rfl
@[simp] theorem ag46 : aggT Try.prog 46 = some false := by kernel_rfl
@[simp] theorem zz46 : zeroA Try.prog 46 = some (.nils) := by kernel_rfl
@[simp] theorem sz47 : szOf Try.prog 47 = some 36 := by kernel_rfl
@[simp] theorem ag47 : aggT Try.prog 47 = some true := by kernel_rfl
@[simp] theorem zz47 : zeroA Try.prog 47 = some (.agg [.int .u64 0, .int .i64 0, .int .i64 0, .int .i64 0, .int .u64 0, .nils, .nils, .nils, .int .i64 0, .int .i64 0, .int .i64 0, .int .i64 0, .int .i64 0, .int .i64 0, .int .i64 0, .int .i64 0, .int .i64 0, .int .i64 0, .nils, .nils, .int .i64 0, .int .i64 0, .int .i64 0, .nils, .nils, .int .i64 0, .int .u64 0, .int .i64 0, .int .i64 0, .nils, .nils, .nils, .int .i64 0, .int .i64 0, .int .i64 0, .nils]) := by kernel_rfl
@[simp] theorem sz48 : szOf Try.prog 48 = some 36 := by kernel_rfl
@[simp] theorem ag48 : aggT Try.prog 48 = some true := by kernel_rfl
@[simp] theorem zz48 : zeroA Try.prog 48 = some (.agg [.int .u64 0, .int .i64 0, .int .i64 0, .int .i64 0, .int .u64 0, .nils, .nils, .nils, .int .i64 0, .int .i64 0, .int .i64 0, .int .i64 0, .int .i64 0, .int .i64 0, .int .i64 0, .int .i64 0, .int .i64 0, .int .i64 0, .nils, .nils, .int .i64 0, .int .i64 0, .int .i64 0, .nils, .nils, .int .i64 0, .int .u64 0, .int .i64 0, .int .i64 0, .nils, .nils, .nils, .int .i64 0, .int .i64 0, .int .i64 0, .nils]) := by kernel_rfl
@[simp] theorem sz49 : szOf Try.prog 49 = some 45 := by kernel_rfl
@[simp] theorem ag49 : aggT Try.prog 49 = some true := by kernel_rfl
@[simp] theorem zz49 : zeroA Try.prog 49 = some (.agg [.int .i64 0, .int .i64 0, .int .i64 0, .int .u64 0, .int .i64 0, .int .u64 0, .int .i64 0, .int .i64 0, .int .i64 0, .int .u64 0, .nils, .nils, .nils, .int .i64 0, .int .i64 0, .int .i64 0, .int .i64 0, .int .i64 0, .int .i64 0, .int .i64 0, .int .i64 0, .int .i64 0, .int .i64 0, .nils, .nils, .int .i64 0, .int .i64 0, .int .i64 0, .nils, .nils, .int .i64 0, .int .u64 0, .int .i64 0, .int .i64 0, .nils, .nils, .nils, .int .i64 0, .int .i64 0, .int .i64 0, .nils, .int .u64 0, .int .i64 0, .int .u64 0, .int .i64 0]) := by kernel_rfl
@[simp] theorem sz50 : szOf Try.prog 50 = some 45 := by kernel_rfl
@[simp] theorem ag50 : aggT Try.prog 50 = some true := by kernel_rfl
@[simp] theorem zz50 : zeroA Try.prog 50 = some (.agg [.int .i64 0, .int .i64 0, .int .i64 0, .int .u64 0, .int .i64 0, .int .u64 0, .int .i64 0, .int .i64 0, .int .i64 0, .int .u64 0, .nils, .nils, .nils, .int .i64 0, .int .i64 0, .int .i64 0, .int .i64 0, .int .i64 0, .int .i64 0, .int .i64 0, .int .i64 0, .int .i64 0, .int .i64 0, .nils, .nils, .int .i64 0, .int .i64 0, .int .i64 0, .nils, .nils, .int .i64 0, .int .u64 0, .int .i64 0, .int .i64 0, .nils, .nils, .nils, .int .i64 0, .int .i64 0, .int .i64 0, .nils, .int .u64 0, .int .i64 0, .int .u64 0, .int .i64 0]) := by kernel_rfl
@[simp] theorem sz51 : szOf Try.prog 51 = some 1 := by kernel_rfl
@[simp] theorem ag51 : aggT Try.prog 51 = some false := by kernel_rfl
@[simp] theorem zz51 : zeroA Try.prog 51 = some (.int .i64 0) := by kernel_rfl
@[simp] theorem sz52 : szOf Try.prog 52 = some 1 := by kernel_rfl
@[simp] theorem ag52 : aggT Try.prog 52 = some false := by kernel_rfl
@[simp] theorem sz53 : szOf Try.prog 53 = some 1 := by kernel_rfl
@[simp] theorem ag53 : aggT Try.prog 53 = some false := by kernel_rfl
@[simp] theorem zz53 : zeroA Try.prog 53 = some (.nilf) := by kernel_rfl
@[simp] theorem sz54 : szOf Try.prog 54 = some 1 := by kernel_rfl
@[simp] theorem ag54 : aggT Try.prog 54 = some false := by kernel_rfl
@[simp] theorem sz55 : szOf Try.prog 55 = some 1 := by kernel_rfl
@[simp] theorem ag55 : aggT Try.prog 55 = some false := by kernel_rfl
@[simp] theorem zz55 : zeroA Try.prog 55 = some (.nilf) := by kernel_rfl
@[simp] theorem sz56 : szOf Try.prog 56 = some 1 := by kernel_rfl
@[simp] theorem ag56 : aggT Try.prog 56 = some false := by kernel_rfl
@[simp] theorem zz56 : zeroA Try.prog 56 = some (.nilf) := by kernel_rfl
@[simp] theorem sz57 : szOf Try.prog 57 = some 1 := by kernel_rfl
@[simp] theorem ag57 : aggT Try.prog 57 = some false := by kernel_rfl
@[simp] theorem zz57 : zeroA Try.prog 57 = some (.nilf) := by kernel_rfl
@[simp] theorem sz58 : szOf Try.prog 58 = some 1 := by kernel_rfl
@[simp] theorem ag58 : aggT Try.prog 58 = some false := by kernel_rfl
@[simp] theorem zz58 : zeroA Try.prog 58 = some (.nilf) := by kernel_rfl
@[simp] theorem sz59 : szOf Try.prog 59 = some 1 := by kernel_rfl
@[simp] theorem ag59 : aggT Try.prog 59 = some false := by kernel_rfl
@[simp] theorem zz59 : zeroA Try.prog 59 = some (.nilm) := by kernel_rfl
@[simp] theorem sz60 : szOf Try.prog 60 = some 1 := by kernel_rfl
@[simp] theorem ag60 : aggT Try.prog 60 = some false := by kernel_rfl
@[simp] theorem zz60 : zeroA Try.prog 60 = some (.nilf) := by kernel_rfl
@[simp] theorem sz61 : szOf Try.prog 61 = some 1 := by kernel_rfl
@[simp] theorem ag61 : aggT Try.prog 61 = some false := by kernel_rfl
@[simp] theorem zz61 : zeroA Try.prog 61 = some (.nils) := by kernel_rfl
@[simp] theorem sz62 : szOf Try.prog 62 = some 1 := by kernel_rfl
@[simp] theorem ag62 : aggT Try.prog 62 = some false := by kernel_rfl
@[simp] theorem zz62 : zeroA Try.prog 62 = some (.nilf) := by kernel_rfl
@[simp] theorem sz63 : szOf Try.prog 63 = some 1 := by kernel_rfl
@[simp] theorem ag63 : aggT Try.prog 63 = some false := by kernel_rfl
@[simp] theorem zz63 : zeroA Try.prog 63 = some (.nilf) := by kernel_rfl
@[simp] theorem sz64 : szOf Try.prog 64 = some 1 := by kernel_rfl
@[simp] theorem ag64 : aggT Try.prog 64 = some false := by kernel_rfl
@[simp] theorem zz64 : zeroA Try.prog 64 = some (.nilf) := by kernel_rfl
@[simp] theorem sz65 : szOf Try.prog 65 = some 1 := by kernel_rfl
@[simp] theorem ag65 : aggT Try.prog 65 = some false := by kernel_rfl
@[simp] theorem zz65 : zeroA Try.prog 65 = some (.nilf) := by kernel_rfl
@[simp] theorem sz66 : szOf Try.prog 66 = some 1 := by kernel_rfl
@[simp] theorem ag66 : aggT Try.prog 66 = some false := by kernel_rfl
@[simp] theorem zz66 : zeroA Try.prog 66 = some (.nilf) := by kernel_rfl
@[simp] theorem sz67 : szOf Try.prog 67 = some 1 := by kernel_rfl
@[simp] theorem ag67 : aggT Try.prog 67 = some false := by kernel_rfl
@[simp] theorem zz67 : zeroA Try.prog 67 = some (.nilf) := by kernel_rfl
@[simp] theorem sz68 : szOf Try.prog 68 = some 1 := by kernel_rfl
@[simp] theorem ag68 : aggT Try.prog 68 = some false := by kernel_rfl
@[simp] theorem zz68 : zeroA Try.prog 68 = some (.nilf) := by kernel_rfl
@[simp] theorem sz69 : szOf Try.prog 69 = some 1 := by kernel_rfl
@[simp] theorem ag69 : aggT Try.prog 69 = some false := by kernel_rfl
@[simp] theorem zz69 : zeroA Try.prog 69 = some (.nilf) := by kernel_rfl
@[simp] theorem sz70 : szOf Try.prog 70 = some 1 := by kernel_rfl
@[simp] theorem ag70 : aggT Try.prog 70 = some false := by kernel_rfl
@[simp] theorem zz70 : zeroA Try.prog 70 = some (.nilf) := by kernel_rfl
@[simp] theorem sz71 : szOf Try.prog 71 = some 1 := by kernel_rfl
@[simp] theorem ag71 : aggT Try.prog 71 = some false := by kernel_rfl
@[simp] theorem zz71 : zeroA Try.prog 71 = some (.nilf) := by kernel_rfl
@[simp] theorem sz72 : szOf Try.prog 72 = some 1 := by kernel_rfl
@[simp] theorem ag72 : aggT Try.prog 72 = some false := by kernel_rfl
@[simp] theorem zz72 : zeroA Try.prog 72 = some (.nils) := by kernel_rfl
@[simp] theorem sz73 : szOf Try.prog 73 = some 4 := by kernel_rfl
@[simp] theorem ag73 : aggT Try.prog 73 = some true := by kernel_rfl
@[simp] theorem zz73 : zeroA Try.prog 73 = some (.agg [.int .i64 0, .int .i64 0, .bool false, .nils]) := by kernel_rfl
@[simp] theorem sz74 : szOf Try.prog 74 = some 4 := by kernel_rfl
@[simp] theorem ag74 : aggT Try.prog 74 = some true := by kernel_rfl
@[simp] theorem zz74 : zeroA Try.prog 74 = some (.agg [.int .i64 0, .int .i64 0, .bool false, .nils]) := by kernel_rfl
@[simp] theorem sz75 : szOf Try.prog 75 = some 1 := by kernel_rfl
@[simp] theorem ag75 : aggT Try.prog 75 = some false := by kernel_rfl
@[simp] theorem zz75 : zeroA Try.prog 75 = some (.nilf) := by kernel_rfl
@[simp] theorem sz76 : szOf Try.prog 76 = some 1 := by kernel_rfl
@[simp] theorem ag76 : aggT Try.prog 76 = some false := by kernel_rfl
@[simp] theorem zz76 : zeroA Try.prog 76 = some (.nilf) := by kernel_rfl
@[simp] theorem sz77 : szOf Try.prog 77 = some 1 := by kernel_rfl
@[simp] theorem ag77 : aggT Try.prog 77 = some false := by kernel_rfl
@[simp] theorem zz77 : zeroA Try.prog 77 = some (.nilf) := by kernel_rfl
@[simp] theorem sz78 : szOf Try.prog 78 = some 1 := by kernel_rfl
@[simp] theorem ag78 : aggT Try.prog 78 = some false := by kernel_rfl
@[simp] theorem zz78 : zeroA Try.prog 78 = some (.nilp) := by kernel_rfl
@[simp] theorem sz79 : szOf Try.prog 79 = some 1 := by kernel_rfl
@[simp] theorem ag79 : aggT Try.prog 79 = some false := by kernel_rfl
@[simp] theorem zz79 : zeroA Try.prog 79 = some (.nilf) := by kernel_rfl
@[simp] theorem sz80 : szOf Try.prog 80 = some 1 := by kernel_rfl
@[simp] theorem ag80 : aggT Try.prog 80 = some false := by kernel_rfl
@[simp] theorem zz80 : zeroA Try.prog 80 = some (.nilf) := by kernel_rfl
@[simp] theorem sz81 : szOf Try.prog 81 = some 1 := by kernel_rfl
@[simp] theorem ag81 : aggT Try.prog 81 = some false := by kernel_rfl
@[simp] theorem zz81 : zeroA Try.prog 81 = some (.nilf) := by kernel_rfl
@[simp] theorem sz82 : szOf Try.prog 82 = some 1 := by kernel_rfl
@[simp] theorem ag82 : aggT Try.prog 82 = some false := by kernel_rfl
@[simp] theorem zz82 : zeroA Try.prog 82 = some (.nilf) := by kernel_rfl
@[simp] theorem sz83 : szOf Try.prog 83 = some 1 := by kernel_rfl
@[simp] theorem ag83 : aggT Try.prog 83 = some false := by kernel_rfl
@[simp] theorem zz83 : zeroA Try.prog 83 = some (.nilf) := by kernel_rfl
@[simp] theorem sz84 : szOf Try.prog 84 = some 1 := by kernel_rfl
@[simp] theorem ag84 : aggT Try.prog 84 = some false := by kernel_rfl
@[simp] theorem zz84 : zeroA Try.prog 84 = some (.nilf) := by kernel_rfl
@[simp] theorem sz85 : szOf Try.prog 85 = some 1 := by kernel_rfl
@[simp] theorem ag85 : aggT Try.prog 85 = some true := by kernel_rfl
@[simp] theorem zz85 : zeroA Try.prog 85 = some (.agg [.nils]) := by kernel_rfl
@[simp] theorem sz86 : szOf Try.prog 86 = some 1 := by kernel_rfl
@[simp] theorem ag86 : aggT Try.prog 86 = some true := by kernel_rfl
@[simp] theorem zz86 : zeroA Try.prog 86 = some (.agg [.nils]) := by kernel_rfl
@[simp] theorem sz87 : szOf Try.prog 87 = some 1 := by kernel_rfl
@[simp] theorem ag87 : aggT Try.prog 87 = some false := by kernel_rfl
@[simp] theorem zz87 : zeroA Try.prog 87 = some (.nilf) := by kernel_rfl
@[simp] theorem sz88 : szOf Try.prog 88 = some 1 := by kernel_rfl
@[simp] theorem ag88 : aggT Try.prog 88 = some false := by kernel_rfl
@[simp] theorem sz89 : szOf Try.prog 89 = some 1 := by kernel_rfl
@[simp] theorem ag89 : aggT Try.prog 89 = some false := by kernel_rfl
@[simp] theorem zz89 : zeroA Try.prog 89 = some (.nilf) := by kernel_rfl
@[simp] theorem sz90 : szOf Try.prog 90 = some 1 := by kernel_rfl
@[simp] theorem ag90 : aggT Try.prog 90 = some false := by kernel_rfl
@[simp] theorem zz90 : zeroA Try.prog 90 = some (.nilf) := by kernel_rfl
@[simp] theorem sz91 : szOf Try.prog 91 = some 1 := by kernel_rfl
@[simp] theorem ag91 : aggT Try.prog 91 = some false := by kernel_rfl
@[simp] theorem zz91 : zeroA Try.prog 91 = some (.nilf) := by kernel_rfl
@[simp] theorem sz92 : szOf Try.prog 92 = some 1 := by kernel_rfl
@[simp] theorem ag92 : aggT Try.prog 92 = some false := by kernel_rfl
@[simp] theorem sz93 : szOf Try.prog 93 = some 1 := by kernel_rfl
@[simp] theorem ag93 : aggT Try.prog 93 = some false := by kernel_rfl
@[simp] theorem zz93 : zeroA Try.prog 93 = some (.nilf) := by kernel_rfl
@[simp] theorem sz94 : szOf Try.prog 94 = some 1 := by kernel_rfl
@[simp] theorem ag94 : aggT Try.prog 94 = some false := by kernel_rfl
@[simp] theorem sz95 : szOf Try.prog 95 = some 1 := by kernel_rfl
@[simp] theorem ag95 : aggT Try.prog 95 = some false := by kernel_rfl
@[simp] theorem zz95 : zeroA Try.prog 95 = some (.nilf) := by kernel_rfl
@[simp] theorem sz96 : szOf Try.prog 96 = some 1 := by kernel_rfl
@[simp] theorem ag96 : aggT Try.prog 96 = some false := by kernel_rfl
@[simp] theorem zz96 : zeroA Try.prog 96 = some (.nilf) := by kernel_rfl
@[simp] theorem sz97 : szOf Try.prog 97 = some 1 := by kernel_rfl
@[simp] theorem ag97 : aggT Try.prog 97 = some false := by kernel_rfl
@[simp] theorem zz97 : zeroA Try.prog 97 = some (.nilf) := by kernel_rfl
@[simp] theorem sz98 : szOf Try.prog 98 = some 1 := by kernel_rfl
@[simp] theorem ag98 : aggT Try.prog 98 = some false := by kernel_rfl
@[simp] theorem sz99 : szOf Try.prog 99 = some 1 := by kernel_rfl
@[simp] theorem ag99 : aggT Try.prog 99 = some false := by kernel_rfl
@[simp] theorem zz99 : zeroA Try.prog 99 = some (.nilf) := by kernel_rfl
@[simp] theorem sz100 : szOf Try.prog 100 = some 1 := by kernel_rfl
@[simp] theorem ag100 : aggT Try.prog 100 = some false := by kernel_rfl
@[simp] theorem zz100 : zeroA Try.prog 100 = some (.nilf) := by kernel_rfl
@[simp] theorem sz101 : szOf Try.prog 101 = some 1 := by kernel_rfl
@[simp] theorem ag101 : aggT Try.prog 101 = some false := by kernel_rfl
@[simp] theorem zz101 : zeroA Try.prog 101 = some (.nilf) := by kernel_rfl
@[simp] theorem sz102 : szOf Try.prog 102 = some 1 := by kernel_rfl
@[simp] theorem ag102 : aggT Try.prog 102 = some false := by kernel_rfl
@[simp] theorem zz102 : zeroA Try.prog 102 = some (.nilf) := by kernel_rfl
@[simp] theorem sz103 : szOf Try.prog 103 = some 1 := by kernel_rfl
@[simp] theorem ag103 : aggT Try.prog 103 = some false := by kernel_rfl
@[simp] theorem zz103 : zeroA Try.prog 103 = some (.nilf) := by kernel_rfl
@[simp] theorem sz104 : szOf Try.prog 104 = some 1 := by kernel_rfl
@[simp] theorem ag104 : aggT Try.prog 104 = some false := by kernel_rfl
@[simp] theorem zz104 : zeroA Try.prog 104 = some (.nilf) := by kernel_rfl
@[simp] theorem sz105 : szOf Try.prog 105 = some 3 := by kernel_rfl
@[simp] theorem ag105 : aggT Try.prog 105 = some true := by kernel_rfl
@[simp] theorem zz105 : zeroA Try.prog 105 = some (.agg [.str ByteArray.empty, .int .i64 0, .nils]) := by kernel_rfl
@[simp] theorem sz106 : szOf Try.prog 106 = some 3 := by kernel_rfl
@[simp] theorem ag106 : aggT Try.prog 106 = some true := by kernel_rfl
@[simp] theorem zz106 : zeroA Try.prog 106 = some (.agg [.str ByteArray.empty, .int .i64 0, .nils]) := by kernel_rfl
@[simp] theorem sz107 : szOf Try.prog 107 = some 1 := by kernel_rfl
@[simp] theorem ag107 : aggT Try.prog 107 = some false := by kernel_rfl
@[simp] theorem zz107 : zeroA Try.prog 107 = some (.nilf) := by kernel_rfl
@[simp] theorem sz108 : szOf Try.prog 108 = some 1 := by kernel_rfl
@[simp] theorem ag108 : aggT Try.prog 108 = some false := by kernel_rfl
@[simp] theorem zz108 : zeroA Try.prog 108 = some (.nilf) := by kernel_rfl
@[simp] theorem sz109 : szOf Try.prog 109 = some 1 := by kernel_rfl
@[simp] theorem ag109 : aggT Try.prog 109 = some false := by kernel_rfl
@[simp] theorem zz109 : zeroA Try.prog 109 = some (.nilf) := by kernel_rfl
@[simp] theorem sz110 : szOf Try.prog 110 = some 1 := by kernel_rfl
@[simp] theorem ag110 : aggT Try.prog 110 = some false := by kernel_rfl
@[simp] theorem zz110 : zeroA Try.prog 110 = some (.nilf) := by kernel_rfl
@[simp] theorem sz111 : szOf Try.prog 111 = some 1 := by kernel_rfl
@[simp] theorem ag111 : aggT Try.prog 111 = some false := by kernel_rfl
@[simp] theorem zz111 : zeroA Try.prog 111 = some (.nilf) := by kernel_rfl
@[simp] theorem sz112 : szOf Try.prog 112 = some 1 := by kernel_rfl
@[simp] theorem ag112 : aggT Try.prog 112 = some false := by kernel_rfl
@[simp] theorem zz112 : zeroA Try.prog 112 = some (.nilf) := by kernel_rfl
@[simp] theorem sz113 : szOf Try.prog 113 = some 1 := by kernel_rfl
@[simp] theorem ag113 : aggT Try.prog 113 = some false := by kernel_rfl
@[simp] theorem zz113 : zeroA Try.prog 113 = some (.nilf) := by kernel_rfl
@[simp] theorem sz114 : szOf Try.prog 114 = some 1 := by kernel_rfl
@[simp] theorem ag114 : aggT Try.prog 114 = some false := by kernel_rfl
@[simp] theorem zz114 : zeroA Try.prog 114 = some (.nilf) := by kernel_rfl
@[simp] theorem sz115 : szOf Try.prog 115 = some 1 := by kernel_rfl
@[simp] theorem ag115 : aggT Try.prog 115 = some false := by kernel_rfl
@[simp] theorem zz115 : zeroA Try.prog 115 = some (.nilf) := by kernel_rfl
@[simp] theorem sz116 : szOf Try.prog 116 = some 1 := by kernel_rfl
@[simp] theorem ag116 : aggT Try.prog 116 = some false := by kernel_rfl
@[simp] theorem zz116 : zeroA Try.prog 116 = some (.nilf) := by kernel_rfl
@[simp] theorem sz117 : szOf Try.prog 117 = some 1 := by kernel_rfl
@[simp] theorem ag117 : aggT Try.prog 117 = some false := by kernel_rfl
@[simp] theorem zz117 : zeroA Try.prog 117 = some (.nilf) := by kernel_rfl
@[simp] theorem sz118 : szOf Try.prog 118 = some 1 := by kernel_rfl
@[simp] theorem ag118 : aggT Try.prog 118 = some false := by kernel_rfl
@[simp] theorem zz118 : zeroA Try.prog 118 = some (.int .u64 0) := by kernel_rfl
@[simp] theorem sz119 : szOf Try.prog 119 = some 1 := by kernel_rfl
@[simp] theorem ag119 : aggT Try.prog 119 = some false := by kernel_rfl
@[simp] theorem zz119 : zeroA Try.prog 119 = some (.nilf) := by kernel_rfl
@[simp] theorem sz120 : szOf Try.prog 120 = some 1 := by kernel_rfl
@[simp] theorem ag120 : aggT Try.prog 120 = some false := by kernel_rfl
@[simp] theorem zz120 : zeroA Try.prog 120 = some (.nilf) := by kernel_rfl
@[simp] theorem sz121 : szOf Try.prog 121 = some 1 := by kernel_rfl
@[simp] theorem ag121 : aggT Try.prog 121 = some false := by kernel_rfl
@[simp] theorem zz121 : zeroA Try.prog 121 = some (.nilf) := by kernel_rfl
@[simp] theorem sz122 : szOf Try.prog 122 = some 1 := by kernel_rfl
@[simp] theorem ag122 : aggT Try.prog 122 = some false := by kernel_rfl
@[simp] theorem zz122 : zeroA Try.prog 122 = some (.nils) := by kernel_rfl
@[simp] theorem sz123 : szOf Try.prog 123 = some 1 := by kernel_rfl
@[simp] theorem ag123 : aggT Try.prog 123 = some false := by kernel_rfl
@[simp] theorem zz123 : zeroA Try.prog 123 = some (.nilf) := by kernel_rfl
@[simp] theorem sz124 : szOf Try.prog 124 = some 1 := by kernel_rfl
@[simp] theorem ag124 : aggT Try.prog 124 = some false := by kernel_rfl
@[simp] theorem zz124 : zeroA Try.prog 124 = some (.nilf) := by kernel_rfl
@[simp] theorem sz125 : szOf Try.prog 125 = some 1 := by kernel_rfl
@[simp] theorem ag125 : aggT Try.prog 125 = some false := by kernel_rfl
@[simp] theorem zz125 : zeroA Try.prog 125 = some (.nilf) := by kernel_rfl
@[simp] theorem sz126 : szOf Try.prog 126 = some 1 := by kernel_rfl
@[simp] theorem ag126 : aggT Try.prog 126 = some false := by kernel_rfl
@[simp] theorem zz126 : zeroA Try.prog 126 = some (.nilf) := by kernel_rfl
@[simp] theorem sz127 : szOf Try.prog 127 = some 2 := by kernel_rfl
@[simp] theorem ag127 : aggT Try.prog 127 = some true := by kernel_rfl
@[simp] theorem zz127 : zeroA Try.prog 127 = some (.agg [.int .u64 0, .bool false]) := by kernel_rfl
@[simp] theorem sz128 : szOf Try.prog 128 = some 2 := by kernel_rfl
@[simp] theorem ag128 : aggT Try.prog 128 = some true := by kernel_rfl
@[simp] theorem zz128 : zeroA Try.prog 128 = some (.agg [.int .u64 0, .bool false]) := by kernel_rfl
@[simp] theorem sz129 : szOf Try.prog 129 = some 1 := by kernel_rfl
@[simp] theorem ag129 : aggT Try.prog 129 = some false := by kernel_rfl
@[simp] theorem zz129 : zeroA Try.prog 129 = some (.nilf) := by kernel_rfl
@[simp] theorem sz130 : szOf Try.prog 130 = some 4 := by kernel_rfl
@[simp] theorem ag130 : aggT Try.prog 130 = some true := by kernel_rfl
@[simp] theorem zz130 : zeroA Try.prog 130 = some (.agg [.int .i64 0, .int .u64 0, .int .u64 0, .int .i64 0]) := by kernel_rfl
@[simp] theorem sz131 : szOf Try.prog 131 = some 4 := by kernel_rfl
@[simp] theorem ag131 : aggT Try.prog 131 = some true := by kernel_rfl
@[simp] theorem zz131 : zeroA Try.prog 131 = some (.agg [.int .i64 0, .int .u64 0, .int .u64 0, .int .i64 0]) := by kernel_rfl
@[simp] theorem sz132 : szOf Try.prog 132 = some 1 := by kernel_rfl
@[simp] theorem ag132 : aggT Try.prog 132 = some false := by kernel_rfl
@[simp] theorem zz132 : zeroA Try.prog 132 = some (.nilf) := by kernel_rfl
@[simp] theorem sz133 : szOf Try.prog 133 = some 1 := by kernel_rfl
@[simp] theorem ag133 : aggT Try.prog 133 = some false := by kernel_rfl
@[simp] theorem zz133 : zeroA Try.prog 133 = some (.nilf) := by kernel_rfl
@[simp] theorem sz134 : szOf Try.prog 134 = some 1 := by kernel_rfl
@[simp] theorem ag134 : aggT Try.prog 134 = some false := by kernel_rfl
@[simp] theorem zz134 : zeroA Try.prog 134 = some (.nilf) := by kernel_rfl
@[simp] theorem sz135 : szOf Try.prog 135 = some 1 := by kernel_rfl
@[simp] theorem ag135 : aggT Try.prog 135 = some false := by kernel_rfl
@[simp] theorem zz135 : zeroA Try.prog 135 = some (.nilf) := by kernel_rfl
@[simp] theorem sz136 : szOf Try.prog 136 = some 1 := by kernel_rfl
@[simp] theorem ag136 : aggT Try.prog 136 = some false := by kernel_rfl
@[simp] theorem zz136 : zeroA Try.prog 136 = some (.nilf) := by kernel_rfl
@[simp] theorem sz137 : szOf Try.prog 137 = some 1 := by kernel_rfl
@[simp] theorem ag137 : aggT Try.prog 137 = some false := by kernel_rfl
@[simp] theorem zz137 : zeroA Try.prog 137 = some (.nilf) := by kernel_rfl
@[simp] theorem sz138 : szOf Try.prog 138 = some 1 := by kernel_rfl
@[simp] theorem ag138 : aggT Try.prog 138 = some false := by kernel_rfl
@[simp] theorem zz138 : zeroA Try.prog 138 = some (.nilf) := by kernel_rfl
@[simp] theorem sz139 : szOf Try.prog 139 = some 1 := by kernel_rfl
@[simp] theorem ag139 : aggT Try.prog 139 = some false := by kernel_rfl
@[simp] theorem sz140 : szOf Try.prog 140 = some 1 := by kernel_rfl
@[simp] theorem ag140 : aggT Try.prog 140 = some false := by kernel_rfl
@[simp] theorem zz140 : zeroA Try.prog 140 = some (.nilf) := by kernel_rfl
@[simp] theorem sz141 : szOf Try.prog 141 = some 1 := by kernel_rfl
@[simp] theorem ag141 : aggT Try.prog 141 = some false := by kernel_rfl
@[simp] theorem zz141 : zeroA Try.prog 141 = some (.nilf) := by kernel_rfl
@[simp] theorem sz142 : szOf Try.prog 142 = some 1 := by kernel_rfl
@[simp] theorem ag142 : aggT Try.prog 142 = some false := by kernel_rfl
@[simp] theorem zz142 : zeroA Try.prog 142 = some (.nilf) := by kernel_rfl
@[simp] theorem sz143 : szOf Try.prog 143 = some 4 := by kernel_rfl
@[simp] theorem ag143 : aggT Try.prog 143 = some true := by kernel_rfl
@[simp] theorem zz143 : zeroA Try.prog 143 = some (.agg [.int .i64 0, .int .i64 0, .int .i64 0, .int .i64 0]) := by kernel_rfl
@[simp] theorem sz144 : szOf Try.prog 144 = some 4 := by kernel_rfl
@[simp] theorem ag144 : aggT Try.prog 144 = some true := by kernel_rfl
@[simp] theorem zz144 : zeroA Try.prog 144 = some (.agg [.int .i64 0, .int .i64 0, .int .i64 0, .int .i64 0]) := by kernel_rfl
@[simp] theorem sz145 : szOf Try.prog 145 = some 1 := by kernel_rfl
@[simp] theorem ag145 : aggT Try.prog 145 = some false := by kernel_rfl
@[simp] theorem zz145 : zeroA Try.prog 145 = some (.nilf) := by kernel_rfl
@[simp] theorem sz146 : szOf Try.prog 146 = some 1 := by kernel_rfl
@[simp] theorem ag146 : aggT Try.prog 146 = some false := by kernel_rfl
@[simp] theorem zz146 : zeroA Try.prog 146 = some (.nilf) := by kernel_rfl
@[simp] theorem sz147 : szOf Try.prog 147 = some 1 := by kernel_rfl
@[simp] theorem ag147 : aggT Try.prog 147 = some false := by kernel_rfl
@[simp] theorem zz147 : zeroA Try.prog 147 = some (.nilf) := by kernel_rfl
@[simp] theorem sz148 : szOf Try.prog 148 = some 1 := by kernel_rfl
@[simp] theorem ag148 : aggT Try.prog 148 = some false := by kernel_rfl
@[simp] theorem zz148 : zeroA Try.prog 148 = some (.nilf) := by kernel_rfl
@[simp] theorem sz149 : szOf Try.prog 149 = some 1 := by kernel_rfl
@[simp] theorem ag149 : aggT Try.prog 149 = some false := by kernel_rfl
@[simp] theorem zz149 : zeroA Try.prog 149 = some (.nilf) := by kernel_rfl
@[simp] theorem sz150 : szOf Try.prog 150 = some 1 := by kernel_rfl
@[simp] theorem ag150 : aggT Try.prog 150 = some false := by kernel_rfl
@[simp] theorem zz150 : zeroA Try.prog 150 = some (.nilf) := by kernel_rfl
@[simp] theorem sz151 : szOf Try.prog 151 = some 1 := by kernel_rfl
@[simp] theorem ag151 : aggT Try.prog 151 = some false := by kernel_rfl
@[simp] theorem zz151 : zeroA Try.prog 151 = some (.nilf) := by kernel_rfl
@[simp] theorem sz152 : szOf Try.prog 152 = some 4 := by kernel_rfl
@[simp] theorem ag152 : aggT Try.prog 152 = some true := by kernel_rfl
@[simp] theorem zz152 : zeroA Try.prog 152 = some (.agg [.nilp, .nilp, .nilp, .str ByteArray.empty]) := by kernel_rfl
@[simp] theorem sz153 : szOf Try.prog 153 = some 4 := by kernel_rfl
@[simp] theorem ag153 : aggT Try.prog 153 = some true := by kernel_rfl
@[simp] theorem zz153 : zeroA Try.prog 153 = some (.agg [.nilp, .nilp, .nilp, .str ByteArray.empty]) := by kernel_rfl
@[simp] theorem sz154 : szOf Try.prog 154 = some 0 := by kernel_rfl
@[simp] theorem ag154 : aggT Try.prog 154 = some true := by kernel_rfl
@[simp] theorem zz154 : zeroA Try.prog 154 = some (.agg []) := by kernel_rfl
@[simp] theorem sz155 : szOf Try.prog 155 = some 0 := by kernel_rfl
@[simp] theorem ag155 : aggT Try.prog 155 = some true := by kernel_rfl
@[simp] theorem zz155 : zeroA Try.prog 155 = some (.agg []) := by kernel_rfl
@[simp] theorem sz156 : szOf Try.prog 156 = some 0 := by kernel_rfl
@[simp] theorem ag156 : aggT Try.prog 156 = some true := by kernel_rfl
@[simp] theorem zz156 : zeroA Try.prog 156 = some (.agg []) := by kernel_rfl
@[simp] theorem sz157 : szOf Try.prog 157 = some 1 := by kernel_rfl
@[simp] theorem ag157 : aggT Try.prog 157 = some false := by kernel_rfl
@[simp] theorem zz157 : zeroA Try.prog 157 = some (.nilf) := by kernel_rfl
@[simp] theorem sz158 : szOf Try.prog 158 = some 1 := by kernel_rfl
@[simp] theorem ag158 : aggT Try.prog 158 = some false := by kernel_rfl
@[simp] theorem zz158 : zeroA Try.prog 158 = some (.int .u32 0) := by kernel_rfl
@[simp] theorem sz159 : szOf Try.prog 159 = some 1 := by kernel_rfl
@[simp] theorem ag159 : aggT Try.prog 159 = some false := by kernel_rfl
@[simp] theorem zz159 : zeroA Try.prog 159 = some (.int .u8 0) := by kernel_rfl
@[simp] theorem sz160 : szOf Try.prog 160 = some 1 := by kernel_rfl
@[simp] theorem ag160 : aggT Try.prog 160 = some false := by kernel_rfl
@[simp] theorem zz160 : zeroA Try.prog 160 = some (.int .u8 0) := by kernel_rfl
@[simp] theorem sz161 : szOf Try.prog 161 = some 1 := by kernel_rfl
@[simp] theorem ag161 : aggT Try.prog 161 = some false := by kernel_rfl
@[simp] theorem zz161 : zeroA Try.prog 161 = some (.nilf) := by kernel_rfl
@[simp] theorem sz162 : szOf Try.prog 162 = some 1 := by kernel_rfl
@[simp] theorem ag162 : aggT Try.prog 162 = some false := by kernel_rfl
@[simp] theorem zz162 : zeroA Try.prog 162 = some (.nilp) := by kernel_rfl
@[simp] theorem sz163 : szOf Try.prog 163 = some 1 := by kernel_rfl
@[simp] theorem ag163 : aggT Try.prog 163 = some false := by kernel_rfl
@[simp] theorem zz163 : zeroA Try.prog 163 = some (.int .i32 0) := by kernel_rfl
@[simp] theorem sz164 : szOf Try.prog 164 = some 1 := by kernel_rfl
@[simp] theorem ag164 : aggT Try.prog 164 = some false := by kernel_rfl
@[simp] theorem zz164 : zeroA Try.prog 164 = some (.int .i32 0) := by kernel_rfl
@[simp] theorem sz165 : szOf Try.prog 165 = some 11 := by kernel_rfl
@[simp] theorem ag165 : aggT Try.prog 165 = some true := by kernel_rfl
@[simp] theorem zz165 : zeroA Try.prog 165 = some (.agg [.int .u64 0, .int .u64 0, .int .u32 0, .int .u8 0, .int .u8 0, .int .u8 0, .int .u8 0, .nilf, .nilp, .int .i32 0, .int .i32 0]) := by kernel_rfl
@[simp] theorem sz166 : szOf Try.prog 166 = some 11 := by kernel_rfl
@[simp] theorem ag166 : aggT Try.prog 166 = some true := by kernel_rfl
@[simp] theorem zz166 : zeroA Try.prog 166 = some (.agg [.int .u64 0, .int .u64 0, .int .u32 0, .int .u8 0, .int .u8 0, .int .u8 0, .int .u8 0, .nilf, .nilp, .int .i32 0, .int .i32 0]) := by kernel_rfl
@[simp] theorem sz167 : szOf Try.prog 167 = some 1 := by kernel_rfl
@[simp] theorem ag167 : aggT Try.prog 167 = some false := by kernel_rfl
@[simp] theorem zz167 : zeroA Try.prog 167 = some (.nilp) := by kernel_rfl
@[simp] theorem ap22 : apT Try.prog 22 = some (5,1,1) := by kernel_rfl
@[simp] theorem ap24 : apT Try.prog 24 = some (74,4,48) := by kernel_rfl
@[simp] theorem ap31 : apT Try.prog 31 = some (30,1,8) := by kernel_rfl
@[simp] theorem ap32 : apT Try.prog 32 = some (144,4,32) := by kernel_rfl
@[simp] theorem ap33 : apT Try.prog 33 = some (9,1,16) := by kernel_rfl
@[simp] theorem ap39 : apT Try.prog 39 = some (128,2,16) := by kernel_rfl
@[simp] theorem ap40 : apT Try.prog 40 = some (131,4,32) := by kernel_rfl
@[simp] theorem ap43 : apT Try.prog 43 = some (2,1,8) := by kernel_rfl
@[simp] theorem ap46 : apT Try.prog 46 = some (106,3,48) := by kernel_rfl
@[simp] theorem ap61 : apT Try.prog 61 = some (45,2,16) := by kernel_rfl
@[simp] theorem ap72 : apT Try.prog 72 = some (50,45,536) := by kernel_rfl
@[simp] theorem ap122 : apT Try.prog 122 = some (3,1,8) := by kernel_rfl
@[simp] theorem bt4 : boolT Try.prog 4 = true := by kernel_rfl
@[simp] theorem lf7 : leafs Try.prog 7 = [2,3,4,6] := by kernel_rfl
@[simp] theorem lf8 : leafs Try.prog 8 = [2,3,4,6] := by kernel_rfl
@[simp] theorem lf13 : leafs Try.prog 13 = [9,12] := by kernel_rfl
@[simp] theorem lf14 : leafs Try.prog 14 = [9,12] := by kernel_rfl
@[simp] theorem lf18 : leafs Try.prog 18 = [17] := by kernel_rfl
@[simp] theorem lf19 : leafs Try.prog 19 = [17] := by kernel_rfl
@[simp] theorem nvn22 : nrmV Try.prog 22 .nils = .list 1 [] := by kernel_rfl
@[simp] theorem nvl22 (s : Nat) (rows : List (List AV)) : nrmV Try.prog 22 (.list s rows) = .list s (nrmRows Try.prog [5] rows) := by
 have h : Try.prog.underlying 22 = some (.slice 5):=by kernel_rfl
 have l : leafs Try.prog 5 = [5]:=by kernel_rfl
 simp only [nrmV,h,l]
@[simp] theorem lf22 : leafs Try.prog 22 = [22] := by kernel_rfl
@[simp] theorem nvn24 : nrmV Try.prog 24 .nils = .list 4 [] := by kernel_rfl
@[simp] theorem nvl24 (s : Nat) (rows : List (List AV)) : nrmV Try.prog 24 (.list s rows) = .list s (nrmRows Try.prog [3,3,4,72] rows) := by
 have h : Try.prog.underlying 24 = some (.slice 74):=by kernel_rfl
 have l : leafs Try.prog 74 = [3,3,4,72]:=by kernel_rfl
 simp only [nrmV,h,l]
@[simp] theorem lf24 : leafs Try.prog 24 = [24] := by kernel_rfl
@[simp] theorem lf25 : leafs Try.prog 25 = [24] := by kernel_rfl
@[simp] theorem lf26 : leafs Try.prog 26 = [24] := by kernel_rfl
@[simp] theorem nvn31 : nrmV Try.prog 31 .nils = .list 1 [] := by kernel_rfl
@[simp] theorem nvl31 (s : Nat) (rows : List (List AV)) : nrmV Try.prog 31 (.list s rows) = .list s (nrmRows Try.prog [30] rows) := by
 have h : Try.prog.underlying 31 = some (.slice 30):=by kernel_rfl
 have l : leafs Try.prog 30 = [30]:=by kernel_rfl
 simp only [nrmV,h,l]
@[simp] theorem lf31 : leafs Try.prog 31 = [31] := by kernel_rfl
@[simp] theorem nvn32 : nrmV Try.prog 32 .nils = .list 4 [] := by kernel_rfl
@[simp] theorem nvl32 (s : Nat) (rows : List (List AV)) : nrmV Try.prog 32 (.list s rows) = .list s (nrmRows Try.prog [3,3,3,3] rows) := by
 have h : Try.prog.underlying 32 = some (.slice 144):=by kernel_rfl
 have l : leafs Try.prog 144 = [3,3,3,3]:=by kernel_rfl
 simp only [nrmV,h,l]
@[simp] theorem lf32 : leafs Try.prog 32 = [32] := by kernel_rfl
@[simp] theorem nvn33 : nrmV Try.prog 33 .nils = .list 1 [] := by kernel_rfl
@[simp] theorem nvl33 (s : Nat) (rows : List (List AV)) : nrmV Try.prog 33 (.list s rows) = .list s (nrmRows Try.prog [9] rows) := by
 have h : Try.prog.underlying 33 = some (.slice 9):=by kernel_rfl
 have l : leafs Try.prog 9 = [9]:=by kernel_rfl
 simp only [nrmV,h,l]
@[simp] theorem lf33 : leafs Try.prog 33 = [33] := by kernel_rfl
@[simp] theorem lf34 : leafs Try.prog 34 = [32,33,3] := by kernel_rfl
@[simp] theorem lf35 : leafs Try.prog 35 = [32,33,3] := by kernel_rfl
@[simp] theorem lf36 : leafs Try.prog 36 = [2,2,2,2,2,2,2,2] := by kernel_rfl
@[simp] theorem lf37 : leafs Try.prog 37 = [3,2,2,2,2,2,2,2,2] := by kernel_rfl
@[simp] theorem lf38 : leafs Try.prog 38 = [3,2,2,2,2,2,2,2,2] := by kernel_rfl
@[simp] theorem nvn39 : nrmV Try.prog 39 .nils = .list 2 [] := by kernel_rfl
@[simp] theorem nvl39 (s : Nat) (rows : List (List AV)) : nrmV Try.prog 39 (.list s rows) = .list s (nrmRows Try.prog [30,4] rows) := by
 have h : Try.prog.underlying 39 = some (.slice 128):=by kernel_rfl
 have l : leafs Try.prog 128 = [30,4]:=by kernel_rfl
 simp only [nrmV,h,l]
@[simp] theorem lf39 : leafs Try.prog 39 = [39] := by kernel_rfl
@[simp] theorem nvn40 : nrmV Try.prog 40 .nils = .list 4 [] := by kernel_rfl
@[simp] theorem nvl40 (s : Nat) (rows : List (List AV)) : nrmV Try.prog 40 (.list s rows) = .list s (nrmRows Try.prog [3,30,30,3] rows) := by
 have h : Try.prog.underlying 40 = some (.slice 131):=by kernel_rfl
 have l : leafs Try.prog 131 = [3,30,30,3]:=by kernel_rfl
 simp only [nrmV,h,l]
@[simp] theorem lf40 : leafs Try.prog 40 = [40] := by kernel_rfl
@[simp] theorem lf41 : leafs Try.prog 41 = [3,30,31,32,33,3,3,2,2,2,2,2,2,2,2,39,40,2,2,2] := by kernel_rfl
@[simp] theorem lf42 : leafs Try.prog 42 = [3,30,31,32,33,3,3,2,2,2,2,2,2,2,2,39,40,2,2,2] := by kernel_rfl
@[simp] theorem nvn43 : nrmV Try.prog 43 .nils = .list 1 [] := by kernel_rfl
@[simp] theorem nvl43 (s : Nat) (rows : List (List AV)) : nrmV Try.prog 43 (.list s rows) = .list s (nrmRows Try.prog [2] rows) := by
 have h : Try.prog.underlying 43 = some (.slice 2):=by kernel_rfl
 have l : leafs Try.prog 2 = [2]:=by kernel_rfl
 simp only [nrmV,h,l]
@[simp] theorem lf43 : leafs Try.prog 43 = [43] := by kernel_rfl
@[simp] theorem lf44 : leafs Try.prog 44 = [22,22] := by kernel_rfl
@[simp] theorem lf45 : leafs Try.prog 45 = [3,3] := by kernel_rfl
@[simp] theorem nvn46 : nrmV Try.prog 46 .nils = .list 3 [] := by kernel_rfl
@[simp] theorem nvl46 (s : Nat) (rows : List (List AV)) : nrmV Try.prog 46 (.list s rows) = .list s (nrmRows Try.prog [9,3,31] rows) := by
 have h : Try.prog.underlying 46 = some (.slice 106):=by kernel_rfl
 have l : leafs Try.prog 106 = [9,3,31]:=by kernel_rfl
 simp only [nrmV,h,l]
@[simp] theorem lf46 : leafs Try.prog 46 = [46] := by kernel_rfl
@[simp] theorem lf47 : leafs Try.prog 47 = [30,3,3,3,30,31,32,33,3,3,2,2,2,2,2,2,2,2,39,40,2,2,2,43,22,3,30,3,3,31,22,22,3,3,2,46] := by kernel_rfl
@[simp] theorem lf48 : leafs Try.prog 48 = [30,3,3,3,30,31,32,33,3,3,2,2,2,2,2,2,2,2,39,40,2,2,2,43,22,3,30,3,3,31,22,22,3,3,2,46] := by kernel_rfl
@[simp] theorem lf49 : leafs Try.prog 49 = [3,3,3,30,3,30,3,3,3,30,31,32,33,3,3,2,2,2,2,2,2,2,2,39,40,2,2,2,43,22,3,30,3,3,31,22,22,3,3,2,46,30,2,30,3] := by kernel_rfl
@[simp] theorem lf50 : leafs Try.prog 50 = [3,3,3,30,3,30,3,3,3,30,31,32,33,3,3,2,2,2,2,2,2,2,2,39,40,2,2,2,43,22,3,30,3,3,31,22,22,3,3,2,46,30,2,30,3] := by kernel_rfl
@[simp] theorem nvn61 : nrmV Try.prog 61 .nils = .list 2 [] := by kernel_rfl
@[simp] theorem nvl61 (s : Nat) (rows : List (List AV)) : nrmV Try.prog 61 (.list s rows) = .list s (nrmRows Try.prog [3,3] rows) := by
 have h : Try.prog.underlying 61 = some (.slice 45):=by kernel_rfl
 have l : leafs Try.prog 45 = [3,3]:=by kernel_rfl
 simp only [nrmV,h,l]
@[simp] theorem lf61 : leafs Try.prog 61 = [61] := by kernel_rfl
@[simp] theorem nvn72 : nrmV Try.prog 72 .nils = .list 45 [] := by kernel_rfl
@[simp] theorem nvl72 (s : Nat) (rows : List (List AV)) : nrmV Try.prog 72 (.list s rows) = .list s (nrmRows Try.prog [3,3,3,30,3,30,3,3,3,30,31,32,33,3,3,2,2,2,2,2,2,2,2,39,40,2,2,2,43,22,3,30,3,3,31,22,22,3,3,2,46,30,2,30,3] rows) := by
 have h : Try.prog.underlying 72 = some (.slice 50):=by kernel_rfl
 have l : leafs Try.prog 50 = [3,3,3,30,3,30,3,3,3,30,31,32,33,3,3,2,2,2,2,2,2,2,2,39,40,2,2,2,43,22,3,30,3,3,31,22,22,3,3,2,46,30,2,30,3]:=by kernel_rfl
 simp only [nrmV,h,l]
@[simp] theorem lf72 : leafs Try.prog 72 = [72] := by kernel_rfl
@[simp] theorem lf73 : leafs Try.prog 73 = [3,3,4,72] := by kernel_rfl
@[simp] theorem lf74 : leafs Try.prog 74 = [3,3,4,72] := by kernel_rfl
@[simp] theorem lf85 : leafs Try.prog 85 = [22] := by kernel_rfl
@[simp] theorem lf86 : leafs Try.prog 86 = [22] := by kernel_rfl
@[simp] theorem lf105 : leafs Try.prog 105 = [9,3,31] := by kernel_rfl
@[simp] theorem lf106 : leafs Try.prog 106 = [9,3,31] := by kernel_rfl
@[simp] theorem nvn122 : nrmV Try.prog 122 .nils = .list 1 [] := by kernel_rfl
@[simp] theorem nvl122 (s : Nat) (rows : List (List AV)) : nrmV Try.prog 122 (.list s rows) = .list s (nrmRows Try.prog [3] rows) := by
 have h : Try.prog.underlying 122 = some (.slice 3):=by kernel_rfl
 have l : leafs Try.prog 3 = [3]:=by kernel_rfl
 simp only [nrmV,h,l]
@[simp] theorem lf122 : leafs Try.prog 122 = [122] := by kernel_rfl
@[simp] theorem lf127 : leafs Try.prog 127 = [30,4] := by kernel_rfl
@[simp] theorem lf128 : leafs Try.prog 128 = [30,4] := by kernel_rfl
@[simp] theorem lf130 : leafs Try.prog 130 = [3,30,30,3] := by kernel_rfl
@[simp] theorem lf131 : leafs Try.prog 131 = [3,30,30,3] := by kernel_rfl
@[simp] theorem lf143 : leafs Try.prog 143 = [3,3,3,3] := by kernel_rfl
@[simp] theorem lf144 : leafs Try.prog 144 = [3,3,3,3] := by kernel_rfl
@[simp] theorem lf152 : leafs Try.prog 152 = [17,17,17,9] := by kernel_rfl
@[simp] theorem lf153 : leafs Try.prog 153 = [17,17,17,9] := by kernel_rfl
@[simp] theorem lf154 : leafs Try.prog 154 = [] := by kernel_rfl
@[simp] theorem lf155 : leafs Try.prog 155 = [] := by kernel_rfl
@[simp] theorem lf156 : leafs Try.prog 156 = [] := by kernel_rfl
@[simp] theorem lf165 : leafs Try.prog 165 = [12,12,158,159,5,5,160,161,162,163,164] := by kernel_rfl
@[simp] theorem lf166 : leafs Try.prog 166 = [12,12,158,159,5,5,160,161,162,163,164] := by kernel_rfl
attribute [simp] runL runG stopG newF List.findIdx?_cons List.findIdx?_nil List.idxOf?_cons List.idxOf?_nil headG stepA execA_eq skipA run_ret run_fail run_get run_put run_asm num lk st lk_st putA AS.ev ofValue ofFlat mkv splice fieldAddrA buildA fillA runF gdst pickA unOpA extractA resVs resV pack frzT inlT inlV frzV frzVs frzL frz1 newId AV.cellsOf AV.flat AV.flat2 specOf loadA_runR capA copyA copyTo srcA sliceCA slice3A appendZA extA AV.place lenCA clearA clearTo expG expB3 List.zipWith renL fF handB renB AV.ren backF backL idsOf freshIds refsL refsB AV.refs List.range List.range.loop placesA sliceRows rowsOf convertA sliceArrA sliceA bndA nilCheckA arrayAtA mmA lookupA keyOf keyOK findA keyEqA foundA makeMapA mapUpdateA appendA rowsA indexA partA fieldA retE2 frqT frqV frqVs frqL frq1 reachE blkRefs outE nodupE firstE seqO expB2 expF
end
end Go.Abs.Nn
namespace Go.Abs.Nn
open Go Go.Proofs Go.Abs
set_option maxRecDepth 100000
set_option maxHeartbeats 4000000
set_option linter.unusedSimpArgs false
set_option linter.unusedVariables false
section
theorem vc2 : Try.prog.cellsOf 2 = 1 := by kernel_rfl
theorem vc5 : Try.prog.cellsOf 5 = 1 := by kernel_rfl
theorem vc30 : Try.prog.cellsOf 30 = 1 := by kernel_rfl
theorem vc106 : Try.prog.cellsOf 106 = 3 := by kernel_rfl
theorem viewObject {xs : List AV} (h : TyR Try.prog 8 48 xs) : ∃ (x0 : Int) (x1 : Int) (x2 : Int) (x3 : List AV) (x4 : List (List AV)) (x5 : List (List AV)) (x6 : Int) (x7 : Int) (x8 : Int) (x9 : Int) (x10 : List (List AV)) (x11 : List (List AV)) (x12 : List (List AV)) (x13 : Int) (x14 : Int) (x15 : Int) (x16 : List (List AV)),xs = .int .u64 x0 :: (.int .i64 x1 :: (.int .i64 x2 :: (x3 ++ ([.list 1 x4, .list 1 x5, .int .i64 x6, .int .u64 x7, .int .i64 x8, .int .i64 x9, .list 1 x10, .list 1 x11, .list 1 x12, .int .i64 x13, .int .i64 x14, .int .i64 x15, .list 3 x16])))) ∧ (Lit.int .u64 x0).wf = true ∧ (Lit.int .i64 x1).wf = true ∧ (Lit.int .i64 x2).wf = true ∧ TyR Try.prog 8 42 x3 ∧ (∀ r ∈ x4,TyR Try.prog 8 2 r) ∧ (∀ r ∈ x5,TyR Try.prog 8 5 r) ∧ (Lit.int .i64 x6).wf = true ∧ (Lit.int .u64 x7).wf = true ∧ (Lit.int .i64 x8).wf = true ∧ (Lit.int .i64 x9).wf = true ∧ (∀ r ∈ x10,TyR Try.prog 8 30 r) ∧ (∀ r ∈ x11,TyR Try.prog 8 5 r) ∧ (∀ r ∈ x12,TyR Try.prog 8 5 r) ∧ (Lit.int .i64 x13).wf = true ∧ (Lit.int .i64 x14).wf = true ∧ (Lit.int .i64 x15).wf = true ∧ (∀ r ∈ x16,TyR Try.prog 8 106 r) := by
 simp only [TyFs,TyR_int Try.underlying2,TyR_int Try.underlying3,TyR_slice Try.underlying22,TyR_int Try.underlying30,TyR_slice Try.underlying31,TyR_slice Try.underlying43,TyR_array Try.underlying44,TyR_array Try.underlying45,TyR_slice Try.underlying46,TyR_struct Try.underlying48,vc2,vc5,vc30,vc106,List.map_cons,List.map_nil,List.replicate] at h
 obtain ⟨_,_,rfl,⟨x0,rfl,w0⟩,⟨_,_,rfl,⟨x1,rfl,w1⟩,⟨_,_,rfl,⟨x2,rfl,w2⟩,⟨x3,_,rfl,w3,⟨_,_,rfl,⟨x4,rfl,_,w4⟩,⟨_,_,rfl,⟨x5,rfl,_,w5⟩,⟨_,_,rfl,⟨x6,rfl,w6⟩,⟨_,_,rfl,⟨x7,rfl,w7⟩,⟨_,_,rfl,⟨x8,rfl,w8⟩,⟨_,_,rfl,⟨x9,rfl,w9⟩,⟨_,_,rfl,⟨x10,rfl,_,w10⟩,⟨_,_,rfl,⟨_,_,rfl,⟨x11,rfl,_,w11⟩,⟨_,_,rfl,⟨x12,rfl,_,w12⟩,rfl⟩⟩,⟨_,_,rfl,⟨_,_,rfl,⟨x13,rfl,w13⟩,⟨_,_,rfl,⟨x14,rfl,w14⟩,rfl⟩⟩,⟨_,_,rfl,⟨x15,rfl,w15⟩,⟨_,_,rfl,⟨x16,rfl,_,w16⟩,rfl⟩⟩⟩⟩⟩⟩⟩⟩⟩⟩⟩⟩⟩⟩⟩:=h
 refine ⟨x0,x1,x2,x3,x4,x5,x6,x7,x8,x9,x10,x11,x12,x13,x14,x15,x16, ?_,w0,w1,w2,TyR.monoN (by omega) w3,(fun r hr=>TyR.monoN (by omega) (w4 r hr)),(fun r hr=>TyR.monoN (by omega) (w5 r hr)),w6,w7,w8,w9,(fun r hr=>TyR.monoN (by omega) (w10 r hr)),(fun r hr=>TyR.monoN (by omega) (w11 r hr)),(fun r hr=>TyR.monoN (by omega) (w12 r hr)),w13,w14,w15,(fun r hr=>TyR.monoN (by omega) (w16 r hr))⟩
 simp only [List.cons_append,List.nil_append,List.append_nil,List.append_assoc]
theorem vc9 : Try.prog.cellsOf 9 = 1 := by kernel_rfl
theorem vc144 : Try.prog.cellsOf 144 = 4 := by kernel_rfl
theorem viewProgram {xs : List AV} (h : TyR Try.prog 8 35 xs) : ∃ (x0 : List (List AV)) (x1 : List (List AV)) (x2 : Int),xs = [.list 4 x0, .list 1 x1, .int .i64 x2] ∧ (∀ r ∈ x0,TyR Try.prog 8 144 r) ∧ (∀ r ∈ x1,TyR Try.prog 8 9 r) ∧ (Lit.int .i64 x2).wf = true := by
 simp only [TyFs,TyR_int Try.underlying3,TyR_slice Try.underlying32,TyR_slice Try.underlying33,TyR_struct Try.underlying35,vc9,vc144,List.map_cons,List.map_nil,List.replicate] at h
 obtain ⟨_,_,rfl,⟨x0,rfl,_,w0⟩,⟨_,_,rfl,⟨x1,rfl,_,w1⟩,⟨_,_,rfl,⟨x2,rfl,w2⟩,rfl⟩⟩⟩:=h
 refine ⟨x0,x1,x2, ?_,(fun r hr=>TyR.monoN (by omega) (w0 r hr)),(fun r hr=>TyR.monoN (by omega) (w1 r hr)),w2⟩
 simp only [List.cons_append,List.nil_append,List.append_nil,List.append_assoc]
theorem viewCPU {xs : List AV} (h : TyR Try.prog 8 38 xs) : ∃ (x0 : Int) (x1 : Int) (x2 : Int) (x3 : Int) (x4 : Int) (x5 : Int) (x6 : Int) (x7 : Int) (x8 : Int),xs = [.int .i64 x0, .int .i64 x1, .int .i64 x2, .int .i64 x3, .int .i64 x4, .int .i64 x5, .int .i64 x6, .int .i64 x7, .int .i64 x8] ∧ (Lit.int .i64 x0).wf = true ∧ (Lit.int .i64 x1).wf = true ∧ (Lit.int .i64 x2).wf = true ∧ (Lit.int .i64 x3).wf = true ∧ (Lit.int .i64 x4).wf = true ∧ (Lit.int .i64 x5).wf = true ∧ (Lit.int .i64 x6).wf = true ∧ (Lit.int .i64 x7).wf = true ∧ (Lit.int .i64 x8).wf = true := by
 simp only [TyFs,TyR_int Try.underlying2,TyR_int Try.underlying3,TyR_array Try.underlying36,TyR_struct Try.underlying38,List.map_cons,List.map_nil,List.replicate] at h
 obtain ⟨_,_,rfl,⟨x0,rfl,w0⟩,⟨_,_,rfl,⟨_,_,rfl,⟨x1,rfl,w1⟩,⟨_,_,rfl,⟨x2,rfl,w2⟩,⟨_,_,rfl,⟨x3,rfl,w3⟩,⟨_,_,rfl,⟨x4,rfl,w4⟩,⟨_,_,rfl,⟨x5,rfl,w5⟩,⟨_,_,rfl,⟨x6,rfl,w6⟩,⟨_,_,rfl,⟨x7,rfl,w7⟩,⟨_,_,rfl,⟨x8,rfl,w8⟩,rfl⟩⟩⟩⟩⟩⟩⟩⟩,rfl⟩⟩:=h
 refine ⟨x0,x1,x2,x3,x4,x5,x6,x7,x8, ?_,w0,w1,w2,w3,w4,w5,w6,w7,w8⟩
 simp only [List.cons_append,List.nil_append,List.append_nil,List.append_assoc]
theorem vc128 : Try.prog.cellsOf 128 = 2 := by kernel_rfl
theorem vc131 : Try.prog.cellsOf 131 = 4 := by kernel_rfl
theorem viewProcess {xs : List AV} (h : TyR Try.prog 8 42 xs) : ∃ (x0 : Int) (x1 : Int) (x2 : List (List AV)) (x3 : List AV) (x4 : List AV) (x5 : List (List AV)) (x6 : List (List AV)) (x7 : Int) (x8 : Int) (x9 : Int),xs = .int .i64 x0 :: (.int .u64 x1 :: (.list 1 x2 :: (x3 ++ (x4 ++ ([.list 2 x5, .list 4 x6, .int .i64 x7, .int .i64 x8, .int .i64 x9]))))) ∧ (Lit.int .i64 x0).wf = true ∧ (Lit.int .u64 x1).wf = true ∧ (∀ r ∈ x2,TyR Try.prog 8 30 r) ∧ TyR Try.prog 8 35 x3 ∧ TyR Try.prog 8 38 x4 ∧ (∀ r ∈ x5,TyR Try.prog 8 128 r) ∧ (∀ r ∈ x6,TyR Try.prog 8 131 r) ∧ (Lit.int .i64 x7).wf = true ∧ (Lit.int .i64 x8).wf = true ∧ (Lit.int .i64 x9).wf = true := by
 simp only [TyFs,TyR_int Try.underlying2,TyR_int Try.underlying3,TyR_int Try.underlying30,TyR_slice Try.underlying31,TyR_slice Try.underlying39,TyR_slice Try.underlying40,TyR_struct Try.underlying42,vc30,vc128,vc131,List.map_cons,List.map_nil,List.replicate] at h
 obtain ⟨_,_,rfl,⟨x0,rfl,w0⟩,⟨_,_,rfl,⟨x1,rfl,w1⟩,⟨_,_,rfl,⟨x2,rfl,_,w2⟩,⟨x3,_,rfl,w3,⟨x4,_,rfl,w4,⟨_,_,rfl,⟨x5,rfl,_,w5⟩,⟨_,_,rfl,⟨x6,rfl,_,w6⟩,⟨_,_,rfl,⟨x7,rfl,w7⟩,⟨_,_,rfl,⟨x8,rfl,w8⟩,⟨_,_,rfl,⟨x9,rfl,w9⟩,rfl⟩⟩⟩⟩⟩⟩⟩⟩⟩⟩:=h
 refine ⟨x0,x1,x2,x3,x4,x5,x6,x7,x8,x9, ?_,w0,w1,(fun r hr=>TyR.monoN (by omega) (w2 r hr)),TyR.monoN (by omega) w3,TyR.monoN (by omega) w4,(fun r hr=>TyR.monoN (by omega) (w5 r hr)),(fun r hr=>TyR.monoN (by omega) (w6 r hr)),w7,w8,w9⟩
 simp only [List.cons_append,List.nil_append,List.append_nil,List.append_assoc]
theorem viewName {xs : List AV} (h : TyR Try.prog 8 106 xs) : ∃ (x0 : ByteArray) (x1 : Int) (x2 : List (List AV)),xs = [.str x0, .int .i64 x1, .list 1 x2] ∧ (Lit.int .i64 x1).wf = true ∧ (∀ r ∈ x2,TyR Try.prog 8 30 r) := by
 simp only [TyFs,TyR_int Try.underlying3,TyR_string Try.underlying9,TyR_slice Try.underlying31,TyR_struct Try.underlying106,vc30,List.map_cons,List.map_nil,List.replicate] at h
 obtain ⟨_,_,rfl,⟨x0,rfl,_⟩,⟨_,_,rfl,⟨x1,rfl,w1⟩,⟨_,_,rfl,⟨x2,rfl,_,w2⟩,rfl⟩⟩⟩:=h
 refine ⟨x0,x1,x2, ?_,w1,(fun r hr=>TyR.monoN (by omega) (w2 r hr))⟩
 simp only [List.cons_append,List.nil_append,List.append_nil,List.append_assoc]
end
end Go.Abs.Nn

namespace Go.Abs.Nn
open Go Go.Proofs Go.Abs
set_option maxRecDepth 100000
set_option maxHeartbeats 4000000
set_option linter.unusedSimpArgs false
set_option linter.unusedVariables false
section
theorem tm : Try.prog.follows .mixedOrders = true := by kernel_rfl
attribute [local simp] slice3A slice3C instA
theorem clones54_ok : FnC Try.prog 54 (cloneC 2 1 8) ∧ FnC Try.prog 55 (cloneC 5 1 1) ∧ FnC Try.prog 56 (cloneC 30 1 8) ∧ FnC Try.prog 57 (cloneC 106 3 48) ∧ FnC Try.prog 81 (cloneC 128 2 16) ∧ FnC Try.prog 82 (cloneC 131 4 32) ∧ FnC Try.prog 95 (cloneC 144 4 32) ∧ FnC Try.prog 96 (cloneC 9 1 16) := by
 refine ⟨FnC.ofV 54 (fn:=Try.f54) Try.func54 rfl (by kernel_rfl) fun args B r B' hS=>?_,FnC.ofV 55 (fn:=Try.f55) Try.func55 rfl (by kernel_rfl) fun args B r B' hS=>?_,FnC.ofV 56 (fn:=Try.f56) Try.func56 rfl (by kernel_rfl) fun args B r B' hS=>?_,FnC.ofV 57 (fn:=Try.f57) Try.func57 rfl (by kernel_rfl) fun args B r B' hS=>?_,FnC.ofV 81 (fn:=Try.f81) Try.func81 rfl (by kernel_rfl) fun args B r B' hS=>?_,FnC.ofV 82 (fn:=Try.f82) Try.func82 rfl (by kernel_rfl) fun args B r B' hS=>?_,FnC.ofV 95 (fn:=Try.f95) Try.func95 rfl (by kernel_rfl) fun args B r B' hS=>?_,FnC.ofV 96 (fn:=Try.f96) Try.func96 rfl (by kernel_rfl) fun args B r B' hS=>?_⟩
 all_goals
   unfold cloneC at hS
   split at hS
   · simp only [Option.some.injEq,Prod.mk.injEq] at hS
     obtain ⟨rfl,rfl⟩:=hS
     refine ⟨by simp, ?_⟩
     change V _ (RetM _ _ 0 _ _) _ _ ⟨8,[(0, .nils)],[]⟩
     repeat (first | refine YS ?_ | refine V.region tm no_specs rfl (by conv=>lhs; simp) fun _=>?_ | refine YL tm no_specs rfl (by conv=>lhs; simp) fun _=>?_)
     exact Ym [] []
   · rename_i s rows
     split at hS
     · rename_i hc
       obtain ⟨rfl,h1,h1',h2⟩:=hc
       simp only [Option.some.injEq,Prod.mk.injEq] at hS
       obtain ⟨rfl,rfl⟩:=hS
       refine ⟨by simp, ?_⟩
       change V _ (RetM _ _ 0 _ _) _ _ ⟨8,[(0, .list _ rows)],[]⟩
       cases rows with
       | nil =>
         refine V.nilCase (t:=0)  0 rfl rfl ?_ ?_
         · repeat (first | refine YU ?_ | refine V.region tm no_specs rfl (by conv=>lhs; simp) fun _=>?_ | refine YL tm no_specs rfl (by conv=>lhs; simp) fun _=>?_)
           refine YP (t:=2) 100 ?_
           repeat (first | refine YS ?_ | refine V.region tm no_specs rfl (by conv=>lhs; simp) fun _=>?_ | refine YL tm no_specs rfl (by conv=>lhs; simp) fun _=>?_)
           simp only [List.length_nil,rowB]
           exact Ym [100] [0]
         · repeat (first | refine YS ?_ | refine V.region tm no_specs rfl (by conv=>lhs; simp) fun _=>?_ | refine YL tm no_specs rfl (by conv=>lhs; simp) fun _=>?_)
           simp only [List.length_nil,rowB]
           exact Ym [96] [0]
       | cons x rows =>
         simp only [List.length_cons] at h1 h2 h1'
         try simp only [Nat.mul_one] at h1
         repeat (first | refine YS ?_ | refine V.region tm no_specs rfl (by conv=>lhs; simp [h1,h2,h1']) fun _=>?_ | refine YL tm no_specs rfl (by conv=>lhs; simp [h1,h2,h1']) fun _=>?_)
         simp only [List.length_cons,rowB]
         exact Ym [96] [0]
     · cases hS
   · rename_i len b
     split at hS
     · rename_i hc
       obtain ⟨hb,rfl,h1,h2⟩:=hc
       simp only [Option.some.injEq,Prod.mk.injEq] at hS
       obtain ⟨rfl,rfl⟩:=hS
       rw [okB_eq hb]
       generalize b.rows = rows at h1 h2 ⊢
       refine ⟨by simp, ?_⟩
       change V _ (RetM _ _ 1 _ _) _ _ ⟨8,[(0, .sl 0 0 0 rows.length)],[(0, { gen:=0,kind:=2,elem:=_,size:=_,inl:=true,rows })]⟩
       cases rows with
       | nil =>
         refine V.slNil (t:=0) 1 rfl rfl rfl rfl ?_ ?_
         · repeat (first | refine YU ?_ | refine V.region tm no_specs rfl (by conv=>lhs; simp) fun _=>?_ | refine YL tm no_specs rfl (by conv=>lhs; simp) fun _=>?_)
           refine YQ (t:=2) 100 ?_
           repeat (first | refine YS ?_ | refine V.region tm no_specs rfl (by conv=>lhs; simp) fun _=>?_ | refine YL tm no_specs rfl (by conv=>lhs; simp) fun _=>?_)
           simp only [List.length_nil,rowB]
           exact Ym [0,100] [0,0]
         · repeat (first | refine YS ?_ | refine V.region tm no_specs rfl (by conv=>lhs; simp) fun _=>?_ | refine YL tm no_specs rfl (by conv=>lhs; simp) fun _=>?_)
           simp only [List.length_nil,rowB]
           exact Ym [0,96] [0,0]
       | cons x rows =>
         simp only [List.length_cons] at h1 h2
         try simp only [Nat.mul_one] at h1
         repeat (first | refine YS ?_ | refine V.region tm no_specs rfl (by conv=>lhs; simp [h1,h2]) fun _=>?_ | refine YL tm no_specs rfl (by conv=>lhs; simp [h1,h2]) fun _=>?_)
         simp only [List.length_cons,rowB]
         exact Ym [0,96] [0,0]
     · cases hS
   · cases hS
theorem clone54_ok : FnC Try.prog 54 (cloneC 2 1 8) := clones54_ok.1
theorem clone55_ok : FnC Try.prog 55 (cloneC 5 1 1) := clones54_ok.2.1
theorem clone56_ok : FnC Try.prog 56 (cloneC 30 1 8) := clones54_ok.2.2.1
theorem clone57_ok : FnC Try.prog 57 (cloneC 106 3 48) := clones54_ok.2.2.2.1
theorem clone81_ok : FnC Try.prog 81 (cloneC 128 2 16) := clones54_ok.2.2.2.2.1
theorem clone82_ok : FnC Try.prog 82 (cloneC 131 4 32) := clones54_ok.2.2.2.2.2.1
theorem clone95_ok : FnC Try.prog 95 (cloneC 144 4 32) := clones54_ok.2.2.2.2.2.2.1
theorem clone96_ok : FnC Try.prog 96 (cloneC 9 1 16) := clones54_ok.2.2.2.2.2.2.2
theorem tdInj {β : Type} {t : TypeId} {f : Td Try.prog t → β} : ∀ x y : Td Try.prog t,[AV.agg x.cells] = [AV.agg y.cells] → f x = f y := fun x y h => by
 simp only [List.cons.injEq,AV.agg.injEq,and_true] at h
 rw [Td.ext h]
abbrev Prg := Td Try.prog 35
noncomputable def cprS : SpecFn := mkS (fun d : Prg => [.agg d.cells]) fun d => (.agg d.cells,[])
theorem cprS_eq (d : Prg) : cprS [.agg d.cells] [] = some (.agg d.cells,[]) := mkS_eq (enc := fun d : Prg => [AV.agg d.cells]) tdInj d
noncomputable def cpr_specs : NL Spec := [(95,⟨1,datS (cloneC 144 4 32)⟩),(96,⟨1,datS (cloneC 9 1 16)⟩)]
theorem cpr_specs_ok : ∀ p ∈ cpr_specs,FnC Try.prog p.1 p.2.fn := by
 simp only [cpr_specs,List.mem_cons,List.not_mem_nil,or_false]
 rintro p (rfl | rfl)
 · exact clone95_ok.dat
 · exact clone96_ok.dat
attribute [local simp] cpr_specs
theorem cpr_ok : FnC Try.prog 83 cprS := by
 refine FnC.walk 83 (fn:=Try.f83) Try.func83 rfl (by kernel_rfl) fun d=>?_
 obtain ⟨cs,ty,bd⟩:=d
 obtain ⟨x0,x1,x2,rfl, -, -, -⟩:=viewProgram ty
 simp only [bdL,bdV,Bool.and_eq_true,decide_eq_true_eq,Bool.and_true] at bd
 have c0:=datS_clone 144 4 32 x0 bd.1.1 (by decide)
 have c1:=datS_clone 9 1 16 x1 bd.2.1 (by decide)
 change W _ (Ret _ _ _ _) _ _ ⟨12,[(0, .agg [.list 4 x0, .list 1 x1, .int .i64 x2])],[]⟩
 repeat (first | refine ZS ?_ | refine ZK tm cpr_specs_ok rfl (by conv=>lhs; simp [c0,c1]) fun _=>?_ | refine ZL tm cpr_specs_ok rfl (by conv=>lhs; simp [c0,c1]) fun _=>?_)
 exact Yr
abbrev Prc := Td Try.prog 42
noncomputable def cpcS : SpecFn := mkS (fun d : Prc => [.agg d.cells]) fun d => (.agg d.cells,[])
theorem cpcS_eq (d : Prc) : cpcS [.agg d.cells] [] = some (.agg d.cells,[]) := mkS_eq (enc := fun d : Prc => [AV.agg d.cells]) tdInj d
noncomputable def cpc_specs : NL Spec := [(56,⟨1,datS (cloneC 30 1 8)⟩),(81,⟨1,datS (cloneC 128 2 16)⟩),(82,⟨1,datS (cloneC 131 4 32)⟩),(83,⟨1,cprS⟩)]
theorem cpc_specs_ok : ∀ p ∈ cpc_specs,FnC Try.prog p.1 p.2.fn := by
 simp only [cpc_specs,List.mem_cons,List.not_mem_nil,or_false]
 rintro p (rfl | rfl | rfl | rfl)
 · exact clone56_ok.dat
 · exact clone81_ok.dat
 · exact clone82_ok.dat
 · exact cpr_ok
attribute [local simp] cpc_specs
theorem cpc_ok : FnC Try.prog 53 cpcS := by
 refine FnC.walk 53 (fn:=Try.f53) Try.func53 rfl (by kernel_rfl) fun d=>?_
 obtain ⟨cs,ty,bd⟩:=d
 obtain ⟨x0,x1,x2,x3,x4,x5,x6,x7,x8,x9,rfl, -, -, -,h3,h4, -, -, -, -, -⟩:=viewProcess ty
 obtain ⟨y0,y1,y2,rfl, -, -, -⟩:=viewProgram h3
 obtain ⟨z0,z1,z2,z3,z4,z5,z6,z7,z8,rfl, -⟩:=viewCPU h4
 simp only [List.cons_append,List.nil_append,bdL,bdV,Bool.and_eq_true,decide_eq_true_eq,Bool.and_true,Bool.true_and,true_and] at bd
 have b3 : bdL 10000 [AV.list 4 y0,AV.list 1 y1,AV.int .i64 y2] = true:=by simp [bdL,bdV,bd]
 have cP:=cprS_eq ⟨_,h3,b3⟩
 have c2:=datS_clone 30 1 8 x2 (by simp [bd]) (by decide)
 have c5:=datS_clone 128 2 16 x5 (by simp [bd]) (by decide)
 have c6:=datS_clone 131 4 32 x6 (by simp [bd]) (by decide)
 dsimp only at cP
 change W _ (Ret _ _ (.agg [.int .i64 x0, .int .u64 x1, .list 1 x2, .list 4 y0, .list 1 y1, .int .i64 y2, .int .i64 z0, .int .i64 z1, .int .i64 z2, .int .i64 z3, .int .i64 z4, .int .i64 z5, .int .i64 z6, .int .i64 z7, .int .i64 z8, .list 2 x5, .list 4 x6, .int .i64 x7, .int .i64 x8, .int .i64 x9]) _) _ _ ⟨20,[(0, .agg [.int .i64 x0, .int .u64 x1, .list 1 x2, .list 4 y0, .list 1 y1, .int .i64 y2, .int .i64 z0, .int .i64 z1, .int .i64 z2, .int .i64 z3, .int .i64 z4, .int .i64 z5, .int .i64 z6, .int .i64 z7, .int .i64 z8, .list 2 x5, .list 4 x6, .int .i64 x7, .int .i64 x8, .int .i64 x9])],[]⟩
 repeat (first | refine ZS ?_ | refine ZK tm cpc_specs_ok rfl (by conv=>lhs; simp [cP,c2,c5,c6]) fun _=>?_ | refine ZL tm cpc_specs_ok rfl (by conv=>lhs; simp [cP,c2,c5,c6]) fun _=>?_)
 exact Yr
end
section
attribute [local simp] instA slice3A slice3C
abbrev Ob := Td Try.prog 48
noncomputable def cobS : SpecFn := mkS (fun d : Ob => [.agg d.cells]) fun d => (.agg d.cells,[])
theorem cobS_eq (d : Ob) : cobS [.agg d.cells] [] = some (.agg d.cells,[]) := mkS_eq (enc := fun d : Ob => [AV.agg d.cells]) tdInj d
noncomputable def cob_specs : NL Spec := [(56,⟨1,datS (cloneC 30 1 8)⟩),(54,⟨1,datS (cloneC 2 1 8)⟩),(55,⟨1,datS (cloneC 5 1 1)⟩),(57,⟨3,cloneC 106 3 48⟩),(53,⟨1,cpcS⟩)]
theorem cob_specs_ok : ∀ p ∈ cob_specs,FnC Try.prog p.1 p.2.fn := by
 simp only [cob_specs,List.mem_cons,List.not_mem_nil,or_false]
 rintro p (rfl | rfl | rfl | rfl | rfl)
 · exact clone56_ok.dat
 · exact clone54_ok.dat
 · exact clone55_ok.dat
 · exact clone57_ok
 · exact cpc_ok
attribute [local simp] cob_specs
theorem nameRow {r : List AV} (h : TyR Try.prog 8 106 r) (b : bdL 10000 r = true) : ∃ s n ids,r = [.str s, .int .i64 n, .list 1 ids] ∧ ids.length ≤ 10000 := by
 obtain ⟨s,n,ids,rfl, -, -⟩:=viewName h
 simp only [bdL,bdV,Bool.and_eq_true,decide_eq_true_eq,Bool.and_true,Bool.true_and,true_and] at b
 exact ⟨s,n,ids,rfl,b.1⟩
theorem get_lt {α : Type} {l : List α} {i : Nat} (h : i < l.length) : ∃ x,l[i]? = some x := ⟨_,List.getElem?_eq_getElem h⟩
theorem w64 {a : Int} (h1 : -9223372036854775808 ≤ a) (h2 : a ≤ 9223372036854775807) : IntKind.i64.wrap a = a := by
 simp [IntKind.wrap,IntKind.bits,IntKind.signed]; omega
theorem set_self {α : Type} {l : List α} {k : Nat} {x : α} (h : l[k]? = some x) : l.set k x = l := by
 apply List.ext_getElem?
 intro i
 rw [List.getElem?_set]
 split
 · rename_i e; subst e
   split
   · exact h.symm
   · rename_i e2; exact absurd (List.getElem?_eq_some_iff.1 h).1 e2
 · rfl
theorem capT {n : Nat} (h : n ≤ 10000) : n ≤ maxLen := by simp only [maxLen]; omega
def zO : List AV := [.int .u64 0, .int .i64 0, .int .i64 0, .int .i64 0, .int .u64 0, .nils, .nils, .nils, .int .i64 0, .int .i64 0, .int .i64 0, .int .i64 0, .int .i64 0, .int .i64 0, .int .i64 0, .int .i64 0, .int .i64 0, .int .i64 0, .nils, .nils, .int .i64 0, .int .i64 0, .int .i64 0, .nils, .nils, .int .i64 0, .int .u64 0, .int .i64 0, .int .i64 0, .nils, .nils, .nils, .int .i64 0, .int .i64 0, .int .i64 0, .nils]
def zOB : ABlk := { gen := 1,kind := 2,elem := 48,size := 36,inl := false,rows := [zO] }
def nmB (rows : List (List AV)) : ABlk := { gen := 1,kind := 2,elem := 106,size := 3,inl := true,rows }
theorem cob_ok : FnC Try.prog 25 cobS := by
 refine FnC.walk 25 (fn:=Try.f25) Try.func25 rfl (by kernel_rfl) fun d=>?_
 obtain ⟨cs,ty,bd⟩:=d
 obtain ⟨x0,x1,x2,xp,x4,x5,x6,x7,x8,x9,x10,x11,x12,x13,x14,x15,x16,rfl, -, -, -,hp, -, -, -, -, -, -, -, -, -, -, -, -,h16⟩:=viewObject ty
 have bp : bdL 10000 xp = true:=by simp only [bdL,bdV,bdL_append,Bool.and_eq_true,Bool.true_and,true_and] at bd; exact bd.1
 have cP:=cpcS_eq ⟨xp,hp,bp⟩
 obtain ⟨p0,p1,p2,p3,p4,p5,p6,p7,p8,p9,rfl, -, -, -,h3,h4, -, -, -, -, -⟩:=viewProcess hp
 obtain ⟨q0,q1,q2,rfl, -, -, -⟩:=viewProgram h3
 obtain ⟨z0,z1,z2,z3,z4,z5,z6,z7,z8,rfl, -⟩:=viewCPU h4
 simp only [List.cons_append,List.nil_append,bdL,bdV,Bool.and_eq_true,decide_eq_true_eq,Bool.and_true,Bool.true_and,true_and] at bd
 simp only [List.cons_append,List.nil_append] at cP
 have c4:=datS_clone 2 1 8 x4 (by simp [bd]) (by decide)
 have c5:=datS_clone 5 1 1 x5 (by simp [bd]) (by decide)
 have c10:=datS_clone 30 1 8 x10 (by simp [bd]) (by decide)
 have c11:=datS_clone 5 1 1 x11 (by simp [bd]) (by decide)
 have c12:=datS_clone 5 1 1 x12 (by simp [bd]) (by decide)
 have l16 : x16.length ≤ 10000:=by simp [bd]
 have r16 : ∀ r ∈ x16,bdL 10000 r = true:=fun r hr=>bdRows_mem (by simp [bd]) hr
 have c16 : cloneC 106 3 48 [.list 3 x16] [] = some (.sl 0 0 0 x16.length,[{ gen:=0,kind:=2,elem:=106,size:=3,inl:=true,rows:=x16 }]):=by
   have e1 : x16.length * 48 ≤ 140737488355328:=by omega
   have e2 : x16.length ≤ 9223372036854775807:=by omega
   simp [cloneC,e1,e2,capT l16,rowB]
 change W _ (Ret _ _ (.agg [.int .u64 x0, .int .i64 x1, .int .i64 x2, .int .i64 p0, .int .u64 p1, .list 1 p2, .list 4 q0, .list 1 q1, .int .i64 q2, .int .i64 z0, .int .i64 z1, .int .i64 z2, .int .i64 z3, .int .i64 z4, .int .i64 z5, .int .i64 z6, .int .i64 z7, .int .i64 z8, .list 2 p5, .list 4 p6, .int .i64 p7, .int .i64 p8, .int .i64 p9, .list 1 x4, .list 1 x5, .int .i64 x6, .int .u64 x7, .int .i64 x8, .int .i64 x9, .list 1 x10, .list 1 x11, .list 1 x12, .int .i64 x13, .int .i64 x14, .int .i64 x15, .list 3 x16]) []) _ _ ⟨57,[(0, .agg [.int .u64 x0, .int .i64 x1, .int .i64 x2, .int .i64 p0, .int .u64 p1, .list 1 p2, .list 4 q0, .list 1 q1, .int .i64 q2, .int .i64 z0, .int .i64 z1, .int .i64 z2, .int .i64 z3, .int .i64 z4, .int .i64 z5, .int .i64 z6, .int .i64 z7, .int .i64 z8, .list 2 p5, .list 4 p6, .int .i64 p7, .int .i64 p8, .int .i64 p9, .list 1 x4, .list 1 x5, .int .i64 x6, .int .u64 x7, .int .i64 x8, .int .i64 x9, .list 1 x10, .list 1 x11, .list 1 x12, .int .i64 x13, .int .i64 x14, .int .i64 x15, .list 3 x16])],[]⟩
 dsimp only
 clear bd bp hp ty
 repeat (first | refine ZS ?_ | refine ZK tm cob_specs_ok rfl (by conv=>lhs; simp [cP,c4,c5,c10]) fun _=>?_ | refine ZL tm cob_specs_ok rfl (by conv=>lhs; simp [cP,c4,c5,c10]) fun _=>?_)
 refine W.loop rfl (ι:={ q : Nat × NL ABlk // q.1 ≤ 2 ∧ lk q.2 32 = some { gen:=1,kind:=2,elem:=48,size:=36,inl:=false,rows:=[[.int .u64 x0, .int .i64 x1, .int .i64 x2, .int .i64 p0, .int .u64 p1, .list 1 p2, .list 4 q0, .list 1 q1, .int .i64 q2, .int .i64 z0, .int .i64 z1, .int .i64 z2, .int .i64 z3, .int .i64 z4, .int .i64 z5, .int .i64 z6, .int .i64 z7, .int .i64 z8, .list 2 p5, .list 4 p6, .int .i64 p7, .int .i64 p8, .int .i64 p9, .list 1 x4, .list 1 x5, .int .i64 x6, .int .u64 x7, .int .i64 x8, .int .i64 x9, .list 1 x10, .list 1 x11, .list 1 x12, .int .i64 x13, .int .i64 x14, .int .i64 x15, .list 3 x16]] } ∧ lk q.2 48 = some zOB ∧ lk q.2 608 = none })
   (fun q=>⟨57,[(1, .ptr 32 1 0 0),(2, .ptr 48 1 0 0),(24, .agg [.list 1 x11, .list 1 x12]),(25, .int .i64 (q.1.1 : Nat))],q.1.2⟩) (fun q=>2 - q.1.1)
   ⟨(0,_),by simp,by rfl,by rfl,by rfl⟩ (AS.le_of rfl ⟨rfl,rfl,rfl,rfl,trivial⟩ (fun _=>rfl)) ?_
 rintro ⟨⟨k,h⟩,hk,h1,h2,h3⟩
 dsimp only at hk h1 h2 h3 ⊢
 by_cases hk2 : k = 2
 · subst hk2
   have g1 : ((lk h 608).getD {}).gen + 1 = 1:=by rw [h3]; rfl
   repeat (first | refine ZS ?_ | refine ZK tm cob_specs_ok rfl (by conv=>lhs; simp [h1,h2,zOB,zO,c16]) fun _=>?_ | refine ZL tm cob_specs_ok rfl (by conv=>lhs; simp [h1,h2,zOB,zO,c16]) fun _=>?_)
   refine W.loop rfl (ι:={ q : Nat × NL ABlk // q.1 ≤ x16.length ∧ lk q.2 32 = some { gen:=1,kind:=2,elem:=48,size:=36,inl:=false,rows:=[[.int .u64 x0, .int .i64 x1, .int .i64 x2, .int .i64 p0, .int .u64 p1, .list 1 p2, .list 4 q0, .list 1 q1, .int .i64 q2, .int .i64 z0, .int .i64 z1, .int .i64 z2, .int .i64 z3, .int .i64 z4, .int .i64 z5, .int .i64 z6, .int .i64 z7, .int .i64 z8, .list 2 p5, .list 4 p6, .int .i64 p7, .int .i64 p8, .int .i64 p9, .list 1 x4, .list 1 x5, .int .i64 x6, .int .u64 x7, .int .i64 x8, .int .i64 x9, .list 1 x10, .list 1 x11, .list 1 x12, .int .i64 x13, .int .i64 x14, .int .i64 x15, .sl 608 1 0 x16.length]] } ∧ lk q.2 48 = some zOB ∧ lk q.2 608 = some (nmB x16) })
     (fun q=>⟨57,[(1, .ptr 32 1 0 0),(2, .ptr 48 1 0 0),(40, .sl 608 1 0 x16.length),(41, .int .i64 x16.length),(42, .int .i64 (q.1.1 : Nat))],q.1.2⟩) (fun q=>x16.length - q.1.1)
     ⟨(0,_),by simp,by simp [lk_st,h1,h3],by simp [lk_st,h2],by simp [lk_st,nmB,h3]⟩ (AS.le_of rfl ⟨rfl,rfl,by simp [lk,h3],rfl,rfl,trivial⟩ (fun _=>rfl)) ?_
   clear g1 h1 h2 h3 hk h
   rintro ⟨⟨k,h⟩,hk,h1,h2,h3⟩
   dsimp only at hk h1 h2 h3 ⊢
   by_cases hk2 : k = x16.length
   · subst hk2
     repeat (first | refine ZS ?_ | refine ZK tm cob_specs_ok rfl (by conv=>lhs; simp [h1,h2,h3,zOB,zO,nmB]) fun _=>?_ | refine ZL tm cob_specs_ok rfl (by conv=>lhs; simp [h1,h2,h3,zOB,zO,nmB]) fun _=>?_)
     exact Yr (h1:=by conv=>lhs; simp [h3,nmB]) (h2:=by conv=>lhs; simp [h3,nmB])
   · have hlt : k < x16.length:=by omega
     obtain ⟨r,hr⟩:=get_lt hlt
     have hm:=List.mem_of_getElem? hr
     obtain ⟨s,n,ids,rfl,hi⟩:=nameRow (h16 r hm) (r16 r hm)
     have cI:=datS_clone 30 1 8 ids hi (by decide)
     have q1 : (k : Int) < x16.length:=by omega
     have q2 : ¬ x16.length ≤ k:=by omega
     have hw : IntKind.i64.wrap ((k : Int) + 1) = ((k + 1 : Nat) : Int):=w64 (by omega) (by omega)
     have hs:=set_self hr
     repeat (first | refine ZS ?_ | refine ZK tm cob_specs_ok rfl (by conv=>lhs; simp [h1,h2,h3,nmB,q1,q2,hr,cI,hw,hs]) fun _=>?_ | refine ZL tm cob_specs_ok rfl (by conv=>lhs; simp [h1,h2,h3,nmB,q1,q2,hr,cI,hw,hs]) fun _=>?_)
     exact ⟨⟨(k + 1,_),hlt,by simp [lk_st,h1],by simp [lk_st,h2],by simp [lk_st,nmB,h3,hs]⟩,by dsimp only; omega,AS.le_of rfl ⟨rfl,rfl,rfl,rfl,rfl,trivial⟩ (fun _=>rfl)⟩
 · have hk3 : k = 0 ∨ k = 1:=by omega
   rcases hk3 with rfl | rfl
   · repeat (first | refine ZS ?_ | refine ZK tm cob_specs_ok rfl (by conv=>lhs; simp [h1,h2,c11]) fun _=>?_ | refine ZL tm cob_specs_ok rfl (by conv=>lhs; simp [h1,h2,c11]) fun _=>?_)
     exact ⟨⟨(1,_),by simp,by simp [lk_st,h1],by simp [lk_st,h2],by simp [lk_st,h3]⟩,by simp,AS.le_of rfl ⟨rfl,rfl,rfl,rfl,trivial⟩ (fun _=>rfl)⟩
   · repeat (first | refine ZS ?_ | refine ZK tm cob_specs_ok rfl (by conv=>lhs; simp [h1,h2,c12]) fun _=>?_ | refine ZL tm cob_specs_ok rfl (by conv=>lhs; simp [h1,h2,c12]) fun _=>?_)
     exact ⟨⟨(2,_),by simp,by simp [lk_st,h1],by simp [lk_st,h2],by simp [lk_st,h3]⟩,by simp,AS.le_of rfl ⟨rfl,rfl,rfl,rfl,trivial⟩ (fun _=>rfl)⟩
end
section
def zc : AV → Bool
 | .int _ n=>n == 0
 | .list _ r=>r.length == 0
 | _=>false
def cpuZ (a b c d e f g h i : Int) : Bool := a == 0 && (b == 0 && (c == 0 && (d == 0 && (e == 0 && (f == 0 && (g == 0 && (h == 0 && i == 0)))))))
theorem tcI : Try.prog.cellsOf 2 = 1 := by kernel_rfl
theorem tiI : (Try.prog.info? 2).isSome = true := by kernel_rfl
theorem tcJ : Try.prog.cellsOf 3 = 1 := by kernel_rfl
theorem tiJ : (Try.prog.info? 3).isSome = true := by kernel_rfl
theorem tgC : Try.prog.eqGuardType Try.prog.depth 38 = false := by kernel_rfl
theorem thC : Try.prog.stoodInHeld 38 = false := by kernel_rfl
theorem tgE : Try.prog.eqGuardType Try.prog.depth 45 = false := by kernel_rfl
theorem eqCpu (a b c d e f g h i a' b' c' d' e' f' g' h' i' : Int) : eqV Try.prog 9 38 (.agg [.int .i64 a, .int .i64 b, .int .i64 c, .int .i64 d, .int .i64 e, .int .i64 f, .int .i64 g, .int .i64 h, .int .i64 i]) (.agg [.int .i64 a', .int .i64 b', .int .i64 c', .int .i64 d', .int .i64 e', .int .i64 f', .int .i64 g', .int .i64 h', .int .i64 i']) =
   some (a == a' && (b == b' && (c == c' && (d == d' && (e == e' && (f == f' && (g == g' && (h == h' && i == i')))))))):=by
 simp [eqV,Try.underlying38,Try.underlying36,Try.underlying2,Try.underlying3,thC,eqFs,eqIs,partV,List.range,List.range.loop,tcI,tiI]
theorem eqEnds (a b a' b' : Int) : eqV Try.prog 9 45 (.agg [.int .i64 a, .int .i64 b]) (.agg [.int .i64 a', .int .i64 b']) = some (a == a' && b == b') := by
 simp [eqV,Try.underlying45,Try.underlying3,eqFs,eqIs,partV,List.range,List.range.loop,tcJ,tiJ]
attribute [local simp] instA eqlA tgC tgE eqCpu eqEnds
def restZ : List AV → Bool
 | [.int .i64 p0, .int .u64 p1, .list 1 p2, .list 4 q0, .list 1 q1, .int .i64 q2, .int .i64 z0, .int .i64 z1, .int .i64 z2, .int .i64 z3, .int .i64 z4, .int .i64 z5, .int .i64 z6, .int .i64 z7, .int .i64 z8, .list 2 p5, .list 4 p6, .int .i64 p7, .int .i64 p8, .int .i64 p9]=>((p2.length : Int) + q0.length + q1.length + p5.length + p6.length == 0) && ((q2 == 0) && (cpuZ z0 z1 z2 z3 z4 z5 z6 z7 z8 && ((p7 == 0) && (p8 == 0))))
 | _=>false
def noneZ : List AV → Bool
 | [.int .i64 p0, .int .u64 p1, .list 1 p2, .list 4 q0, .list 1 q1, .int .i64 q2, .int .i64 z0, .int .i64 z1, .int .i64 z2, .int .i64 z3, .int .i64 z4, .int .i64 z5, .int .i64 z6, .int .i64 z7, .int .i64 z8, .list 2 p5, .list 4 p6, .int .i64 p7, .int .i64 p8, .int .i64 p9]=>(p0 == 0) && ((p1 == 0) && ((p9 == 0) && restZ [.int .i64 p0, .int .u64 p1, .list 1 p2, .list 4 q0, .list 1 q1, .int .i64 q2, .int .i64 z0, .int .i64 z1, .int .i64 z2, .int .i64 z3, .int .i64 z4, .int .i64 z5, .int .i64 z6, .int .i64 z7, .int .i64 z8, .list 2 p5, .list 4 p6, .int .i64 p7, .int .i64 p8, .int .i64 p9]))
 | _=>false
noncomputable def nnS : SpecFn := mkS (fun d : Prc => [.agg d.cells]) fun d => (.bool (noneZ d.cells),[])
end
section
def mk (b : Bool) (f s : Int) : Int := if b = true then IntKind.i64.wrap (((s % 2 ^ IntKind.i64.bits).toNat ||| (f % 2 ^ IntKind.i64.bits).toNat : Nat) : Int) else s
attribute [local simp] instA
attribute [local simp] instA eqlA tgC tgE eqCpu eqEnds
def bareZ : List AV → Bool
 | .int .u64 x0 :: .int .i64 x1 :: .int .i64 x2 :: .int .i64 p0 :: .int .u64 p1 :: .list 1 p2 :: .list 4 q0 :: .list 1 q1 :: .int .i64 q2 :: .int .i64 z0 :: .int .i64 z1 :: .int .i64 z2 :: .int .i64 z3 :: .int .i64 z4 :: .int .i64 z5 :: .int .i64 z6 :: .int .i64 z7 :: .int .i64 z8 :: .list 2 p5 :: .list 4 p6 :: .int .i64 p7 :: .int .i64 p8 :: .int .i64 p9 :: .list 1 x4 :: .list 1 x5 :: .int .i64 x6 :: .int .u64 x7 :: .int .i64 x8 :: .int .i64 x9 :: .list 1 x10 :: .list 1 x11 :: .list 1 x12 :: .int .i64 x13 :: .int .i64 x14 :: .int .i64 x15 :: .list 3 x16 :: []=>(x2 == 0) && (((x4.length : Int) == 0) && (((x5.length : Int) == 0) && ((x6 == 0) && ((x7 == 0) && ((x8 == 0) && ((x9 == 0) && (((x10.length : Int) == 0) && (((x11.length : Int) == 0) && (((x12.length : Int) == 0) && ((x13 == 0 && x14 == 0) && ((x15 == 0) && (((x16.length : Int) == 0) && noneZ [.int .i64 p0, .int .u64 p1, .list 1 p2, .list 4 q0, .list 1 q1, .int .i64 q2, .int .i64 z0, .int .i64 z1, .int .i64 z2, .int .i64 z3, .int .i64 z4, .int .i64 z5, .int .i64 z6, .int .i64 z7, .int .i64 z8, .list 2 p5, .list 4 p6, .int .i64 p7, .int .i64 p8, .int .i64 p9]))))))))))))
 | _=>false
end
section
noncomputable def br_specs : NL Spec := [(99,⟨1,nnS⟩)]
attribute [local simp] instA eqlA tgC tgE eqCpu eqEnds br_specs
noncomputable def brS : SpecFn := mkS (fun d : Ob => [.agg d.cells]) fun d => (.bool (bareZ d.cells),[])
def zO? (d : Ob) : Bool := match d.cells with
 | .int _ i :: .int _ k :: _=>(i == 0) && ((k == 0) && bareZ d.cells)
 | _=>false
end
section
theorem tgP : Try.prog.eqGuardType Try.prog.depth 128 = false := by kernel_rfl
theorem tgS : Try.prog.eqGuardType Try.prog.depth 131 = false := by kernel_rfl
theorem tgI : Try.prog.eqGuardType Try.prog.depth 144 = false := by kernel_rfl
theorem thP : Try.prog.stoodInHeld 128 = false := by kernel_rfl
theorem thS : Try.prog.stoodInHeld 131 = false := by kernel_rfl
theorem thI : Try.prog.stoodInHeld 144 = false := by kernel_rfl
theorem eqPg (a : Int) (b : Bool) : eqV Try.prog 9 128 (.agg [.int .u64 a, .bool b]) (.agg [.int .u64 a, .bool b]) = some true := by
 simp [eqV,Try.underlying128,Try.underlying30,Try.underlying4,thP,eqFs,partV]
theorem eqSl (a b c d : Int) : eqV Try.prog 9 131 (.agg [.int .i64 a, .int .u64 b, .int .u64 c, .int .i64 d]) (.agg [.int .i64 a, .int .u64 b, .int .u64 c, .int .i64 d]) = some true := by
 simp [eqV,Try.underlying131,Try.underlying30,Try.underlying3,thS,eqFs,partV]
theorem eqIn (a b c d : Int) : eqV Try.prog 9 144 (.agg [.int .i64 a, .int .i64 b, .int .i64 c, .int .i64 d]) (.agg [.int .i64 a, .int .i64 b, .int .i64 c, .int .i64 d]) = some true := by
 simp [eqV,Try.underlying144,Try.underlying3,Try.underlying2,thI,eqFs,partV]
attribute [local simp] instA binOpA eqlA tgP tgS tgI eqPg eqSl eqIn
structure Rw (P : Program) (t : TypeId) where
 rows : List (List AV)
 ty : ∀ r ∈ rows,TyR P 8 t r
 bd : rows.length ≤ 10000
theorem Rw.ext {P : Program} {t : TypeId} {a b : Rw P t} (h : a.rows = b.rows) : a = b := by
 cases a; cases b; simp only at h; subst h; rfl
noncomputable def smS (t : TypeId) (sz : Nat) : SpecFn := mkS (fun d : Rw Try.prog t => [.list sz d.rows, .list sz d.rows]) fun _ => (.bool true,[])
structure Nms (P : Program) (t : TypeId) where
 rows : List (List AV)
 ty : ∀ r ∈ rows,TyR P 8 t r
 bd : rows.length ≤ 10000
 bs : ∀ r ∈ rows,bdL 10000 r = true
noncomputable def snS : SpecFn := mkS (fun d : Nms Try.prog 106 => [.list 3 d.rows, .list 3 d.rows]) fun _ => (.bool true,[])
noncomputable def spr_specs : NL Spec := [(98,⟨1,smS 9 1⟩)]
attribute [local simp] spr_specs
noncomputable def sprS : SpecFn := mkS (fun d : Prg => [.agg d.cells, .agg d.cells]) fun _ => (.bool true,[])
end
section
theorem eqCpuS (a b c d e f g h i : Int) : eqV Try.prog 9 38 (.agg [.int .i64 a, .int .i64 b, .int .i64 c, .int .i64 d, .int .i64 e, .int .i64 f, .int .i64 g, .int .i64 h, .int .i64 i]) (.agg [.int .i64 a, .int .i64 b, .int .i64 c, .int .i64 d, .int .i64 e, .int .i64 f, .int .i64 g, .int .i64 h, .int .i64 i]) = some true := by
 simp [eqCpu]
theorem eqEndsS (a b : Int) : eqV Try.prog 9 45 (.agg [.int .i64 a, .int .i64 b]) (.agg [.int .i64 a, .int .i64 b]) = some true := by
 simp [eqEnds]
attribute [local simp] instA binOpA eqlA tgC tgE eqCpuS eqEndsS
noncomputable def smp_specs : NL Spec := [(62,⟨1,smS 30 1⟩),(86,⟨1,sprS⟩),(87,⟨1,smS 128 2⟩),(88,⟨1,smS 131 4⟩)]
attribute [local simp] smp_specs
noncomputable def spcS : SpecFn := mkS (fun d : Prc => [.agg d.cells, .agg d.cells]) fun _ => (.bool true,[])
noncomputable def sob_specs : NL Spec := [(62,⟨1,smS 30 1⟩),(60,⟨1,spcS⟩),(61,⟨1,smS 2 1⟩),(63,⟨1,snS⟩)]
attribute [local simp] sob_specs
noncomputable def sobS : SpecFn := mkS (fun d : Ob => [.agg d.cells, .agg d.cells]) fun _ => (.bool true,[])
end
section
theorem obLeafs : (leafs Try.prog 48).length = 36 := by kernel_rfl
@[simp] theorem ob_len (o : Ob) : o.cells.length = 36 := o.len'.trans obLeafs
@[simp] theorem ob_drop (o : Ob) (l : List AV) (n : Nat) (h : 36 ≤ n) : (o.cells ++ l).drop n = l.drop (n - 36) := by
 rw [List.drop_append,ob_len,List.drop_eq_nil_of_le (by rw [ob_len]; omega),List.nil_append]
@[simp] theorem ob_take (o : Ob) (l : List AV) (n : Nat) (h : 36 ≤ n) : (o.cells ++ l).take n = o.cells ++ l.take (n - 36) := by
 rw [List.take_append,ob_len,List.take_of_length_le (by rw [ob_len]; omega)]
@[simp] theorem ob_take0 (o : Ob) : o.cells.take 36 = o.cells := List.take_of_length_le (by rw [ob_len]; omega)
@[simp] theorem ob_get (o : Ob) (l : List AV) (n : Nat) (h : 36 ≤ n) : (o.cells ++ l)[n]? = l[n - 36]? := by
 rw [List.getElem?_append_right (by rw [ob_len]; omega),ob_len]
structure Tok where
 id : Int
 mode : Int
 obj : Ob
 want : Int
 pin : Bool
 due : Bool
@[simp] def Tok.c (t : Tok) : List AV := .int .u64 t.id :: .int .i64 t.mode :: (t.obj.cells ++ [.int .i64 t.want, .bool t.pin, .bool t.due])
theorem Tok.c_inj {s t : Tok} (h : s.c = t.c) : s = t := by
 obtain ⟨a,b,o,c,d,e⟩:=s
 obtain ⟨a',b',o',c',d',e'⟩:=t
 simp only [Tok.c,List.cons.injEq,AV.int.injEq,true_and] at h
 obtain ⟨rfl,rfl,h⟩:=h
 obtain ⟨h1,h2⟩:=List.append_inj h (by simp)
 simp only [List.cons.injEq,AV.int.injEq,AV.bool.injEq,true_and,and_true] at h2
 obtain ⟨rfl,rfl,rfl⟩:=h2
 rw [Td.ext h1]
theorem rows_inj {s t : List Tok} (h : s.map Tok.c = t.map Tok.c) : s = t := by
 induction s generalizing t with
 | nil=>cases t with
   | nil=>rfl
   | cons=>simp at h
 | cons x r ih =>
   cases t with
   | nil=>simp at h
   | cons y q =>
     simp only [List.map_cons,List.cons.injEq] at h
     rw [Tok.c_inj h.1,ih h.2]
structure Tks where
 node : Int
 toks : List Tok
 bd : toks.length ≤ 9000
def Tks.v (d : Tks) : AV := .agg [.int .i64 d.node, .list 41 (d.toks.map Tok.c)]
theorem Tks.v_inj {s t : Tks} (h : s.v = t.v) : s = t := by
 obtain ⟨a,l,b⟩:=s
 obtain ⟨a',l',b'⟩:=t
 simp only [Tks.v,AV.agg.injEq,List.cons.injEq,AV.int.injEq,AV.list.injEq,true_and,and_true] at h
 obtain ⟨rfl,h⟩:=h
 cases rows_inj h
 rfl
def tyFsP (q : TypeId → List AV → Option (List AV)) : List TypeId → List AV → Option (List AV)
 | [],xs=>some xs
 | t :: r,xs=>(q t xs).bind (tyFsP q r)
def tyB : List AV → Option (List AV)
 | .bool _ :: r=>some r
 | _=>none
def tyI (k : IntKind) : List AV → Option (List AV)
 | .int k' m :: r=>if k = k' ∧ (Lit.int k m).wf = true then some r else none
 | _=>none
def tyS (n : Nat) : List AV → Option (List AV)
 | .list sz [] :: r=>if sz = n then some r else none
 | _=>none
def tyP (P : Program) : Nat → TypeId → List AV → Option (List AV)
 | 0,_,_=>none
 | n + 1,t,xs=>match P.underlying t with
   | some .bool=>tyB xs
   | some (.int k)=>tyI k xs
   | some (.slice e)=>tyS (P.cellsOf e) xs
   | some (.struct fs)=>tyFsP (tyP P n) (fs.toList.map (·.type)) xs
   | some (.array m e)=>tyFsP (tyP P n) (List.replicate m e) xs
   | _=>none
theorem tyFsP_ok {q : TypeId → List AV → Option (List AV)} {Q : TypeId → List AV → Prop} (h : ∀ t xs r,q t xs = some r → ∃ a,xs = a ++ r ∧ Q t a) : ∀ (ts : List TypeId) (xs r : List AV),tyFsP q ts xs = some r → ∃ a,xs = a ++ r ∧ TyFs Q ts a
 | [],xs,r,e=>by
   simp only [tyFsP,Option.some.injEq] at e
   subst e
   exact ⟨[],rfl,rfl⟩
 | t :: ts,xs,r,e=>by
   simp only [tyFsP] at e
   obtain ⟨m,e1,e2⟩:=Option.bind_eq_some_iff.1 e
   obtain ⟨a,rfl,ha⟩:=h _ _ _ e1
   obtain ⟨b,rfl,hb⟩:=tyFsP_ok h ts m r e2
   exact ⟨a ++ b,by rw [List.append_assoc],a,b,rfl,ha,hb⟩
theorem tyP_ok {P : Program} : ∀ (n : Nat) (t : TypeId) (xs r : List AV),tyP P n t xs = some r → ∃ a,xs = a ++ r ∧ TyR P n t a
 | 0,t,xs,r,h=>by simp [tyP] at h
 | n + 1,t,xs,r,h=>by
   rw [tyP] at h
   split at h
   · rename_i hu
     unfold tyB at h
     split at h
     · rename_i b r'
       cases h
       exact ⟨[.bool b],rfl,by simp only [TyR,hu]; exact ⟨b,rfl⟩⟩
     · cases h
   · rename_i k hu
     unfold tyI at h
     split at h
     · rename_i k' m r'
       split at h
       · rename_i hk
         obtain ⟨rfl,hw⟩:=hk
         cases h
         exact ⟨[.int k m],rfl,by simp only [TyR,hu]; exact ⟨m,rfl,hw⟩⟩
       · cases h
     · cases h
   · rename_i e hu
     unfold tyS at h
     split at h
     · rename_i sz r'
       split at h
       · rename_i hk
         subst hk
         cases h
         refine ⟨[.list _ []],rfl, ?_⟩
         simp only [TyR,hu]
         exact ⟨[],rfl,by simp [maxLen],by simp⟩
       · cases h
     · cases h
   · rename_i fs hu
     obtain ⟨a,e1,e2⟩:=tyFsP_ok (Q:=TyR P n) (fun t xs r h=>tyP_ok n t xs r h) _ _ _ h
     refine ⟨a,e1, ?_⟩
     simp only [TyR,hu]
     exact e2
   · rename_i m e hu
     obtain ⟨a,e1,e2⟩:=tyFsP_ok (Q:=TyR P n) (fun t xs r h=>tyP_ok n t xs r h) _ _ _ h
     refine ⟨a,e1, ?_⟩
     simp only [TyR,hu]
     exact e2
   · cases h
def zN : List AV := [.int .u64 0, .int .i64 0, .int .i64 0, .int .i64 0, .int .u64 0, .list 1 [], .list 4 [], .list 1 [], .int .i64 0, .int .i64 0, .int .i64 0, .int .i64 0, .int .i64 0, .int .i64 0, .int .i64 0, .int .i64 0, .int .i64 0, .int .i64 0, .list 2 [], .list 4 [], .int .i64 0, .int .i64 0, .int .i64 0, .list 1 [], .list 1 [], .int .i64 0, .int .u64 0, .int .i64 0, .int .i64 0, .list 1 [], .list 1 [], .list 1 [], .int .i64 0, .int .i64 0, .int .i64 0, .list 3 []]
theorem zN_eq : nrmL Try.prog (leafs Try.prog 48) zO = zN := by kernel_rfl
theorem zN_p : tyP Try.prog 8 48 zN = some [] := by kernel_rfl
theorem zObTy : TyR Try.prog 8 48 zN := by
 obtain ⟨a,h1,h2⟩:=tyP_ok 8 _ _ _ zN_p
 rw [List.append_nil] at h1
 rw [h1]
 exact h2
theorem zN_b : bdL 10000 zN = true := by kernel_rfl
def zOb : Ob := ⟨zN,zObTy,zN_b⟩
def fnd (id : Int) : List Tok → Option Tok
 | []=>none
 | t :: r=>if t.id = id then some t else fnd id r
attribute [local simp] instA
end
section
def putL (t : Tok) : Bool → List Tok → List Tok
 | done,[]=>if done = true then [] else [t]
 | done,r :: rs=>(if done = false ∧ t.id ≤ r.id then [t] else []) ++ ((if r.id = t.id then [] else [r]) ++ putL t (done || decide (t.id ≤ r.id)) rs)
def Tok.gone (t : Tok) : Bool := t.mode == 0 && t.want == 0
def put (t : Tok) (l : List Tok) : List Tok := putL t t.gone l
attribute [local simp] instA
theorem m1 : (1 : Nat) ≤ maxLen := by decide
theorem m2 : (2 : Nat) ≤ maxLen := by decide
theorem first_all {n : Nat} {l : List (List AV)} (h : l.length = n) : firstRows n l = l := by
 subst h
 simp [firstRows]
end
section
def okM (m : Int) : Bool := m == 1 || m == 2
def okN (m : Int) : Bool := decide (0 ≤ m) && decide (m ≤ 127)
noncomputable def boS (f : Int → Bool) : SpecFn := mkS (fun d : Int => [.int .i64 d]) fun d => (.bool (f d),[])
theorem boS_eq (f : Int → Bool) (d : Int) : boS f [.int .i64 d] [] = some (.bool (f d),[]) :=
 mkS_eq (enc:=fun d : Int=>[AV.int .i64 d]) (fun x y h=>by
   simp only [List.cons.injEq,AV.int.injEq,true_and,and_true] at h
   rw [h]) d
attribute [local simp] instA
theorem ob_view (o : Ob) : ∃ i r,o.cells = .int .u64 i :: r := by
 obtain ⟨x0,x1,x2,xp,x4,x5,x6,x7,x8,x9,x10,x11,x12,x13,x14,x15,x16,h, -⟩:=viewObject o.ty
 exact ⟨x0,_,h⟩
noncomputable def oid (o : Ob) : Int := (ob_view o).choose
theorem oid_eq (o : Ob) : ∃ r,o.cells = .int .u64 (oid o) :: r := (ob_view o).choose_spec
def hdA : List AV → AP AV
 | x :: _ => .ret x
 | [] => .fail
theorem mkv_hd (P : Program) (t : TypeId) (cells : List AV) : mkv P t cells = match aggT P t with
 | some true=>match szOf P t with
   | some s=>if s ≤ cells.length then .ret (.agg (cells.take s)) else .fail
   | none => .fail
 | some false=>hdA cells
 | none => .fail:=by
 unfold mkv hdA
 rfl
@[local simp] theorem hdA_cons (x : AV) (r : List AV) : hdA (x :: r) = .ret x := rfl
@[local simp] theorem hdA_ob (o : Ob) (l : List AV) : hdA (o.cells ++ l) = .ret (.int .u64 (oid o)) := by
 obtain ⟨r,h⟩:=oid_eq o
 rw [h]
 rfl
@[local simp] theorem hdA_ob' (o : Ob) : hdA o.cells = .ret (.int .u64 (oid o)) := by
 obtain ⟨r,h⟩:=oid_eq o
 rw [h]
 rfl
attribute [-simp] mkv
attribute [local simp] mkv_hd
noncomputable def fineR (t : Tok) : Bool := t.id != 0 && ((t.mode == 0 || okM t.mode) && ((t.want == 0 || (okM t.want && decide (t.mode < t.want))) && ((zO? t.obj || (oid t.obj == t.id && t.mode != 0)) && ((!t.pin || t.mode != 0) && ((!t.due || t.pin) && (t.mode != 0 || t.want != 0))))))
end
section
attribute [local simp] instA
attribute [-simp] mkv
attribute [local simp] mkv_hd hdA_cons hdA_ob hdA_ob'
end
section
attribute [local simp] instA
noncomputable def good (l : List Tok) (j : Nat) : Bool := match l[j]? with
 | none=>true
 | some t=>fineR t && match j with
   | 0=>true
   | i + 1=>match l[i]? with
     | some s=>decide (s.id < t.id)
     | none=>true
noncomputable def valid (nd : Int) (l : List Tok) : Bool := (List.range l.length).all (good l) && okN nd
end
section
attribute [local simp] instA
attribute [-simp] mkv
attribute [local simp] mkv_hd hdA_cons hdA_ob hdA_ob'
end
section
attribute [local simp] instA binOpA
attribute [-simp] mkv
attribute [local simp] mkv_hd hdA_cons hdA_ob hdA_ob'
end
end Go.Abs.Nn
