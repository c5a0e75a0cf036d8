/- Facts about types. Conditions: none. -/
import Derived.Test.YtbndcamifghfaaaAb8
import Derived.Test.YtbndcamifghfaaaProg
import Derived.KernelRfl
namespace Go.Abs.Na
open Go Go.Proofs Go.Abs
set_option maxRecDepth 100000
@[simp] theorem sz0 : szOf Try.prog 0 = some 1 := by kernel_rfl
@[simp] theorem ag0 : aggT Try.prog 0 = some false := by kernel_rfl
@[simp] theorem sz1 : szOf Try.prog 1 = some 1 := by kernel_rfl
@[simp] theorem ag1 : aggT Try.prog 1 = some false := by kernel_rfl
@[simp] theorem zz1 : zeroA Try.prog 1 = some (.nilf) := by kernel_rfl
@[simp] theorem sz2 : szOf Try.prog 2 = some 1 := by kernel_rfl
@[simp] theorem ag2 : aggT Try.prog 2 = some false := by kernel_rfl
@[simp] theorem zz2 : zeroA Try.prog 2 = some (.int .i64 0) := by kernel_rfl
@[simp] theorem sz3 : szOf Try.prog 3 = some 1 := by kernel_rfl
@[simp] theorem ag3 : aggT Try.prog 3 = some false := by kernel_rfl
@[simp] theorem zz3 : zeroA Try.prog 3 = some (.int .i64 0) := by kernel_rfl
@[simp] theorem sz4 : szOf Try.prog 4 = some 1 := by kernel_rfl
@[simp] theorem ag4 : aggT Try.prog 4 = some false := by kernel_rfl
@[simp] theorem zz4 : zeroA Try.prog 4 = some (.bool false) := by kernel_rfl
@[simp] theorem sz5 : szOf Try.prog 5 = some 1 := by kernel_rfl
@[simp] theorem ag5 : aggT Try.prog 5 = some false := by kernel_rfl
@[simp] theorem zz5 : zeroA Try.prog 5 = some (.int .u8 0) := by kernel_rfl
@[simp] theorem sz6 : szOf Try.prog 6 = some 1 := by kernel_rfl
@[simp] theorem ag6 : aggT Try.prog 6 = some false := by kernel_rfl
@[simp] theorem zz6 : zeroA Try.prog 6 = some (.int .u8 0) := by kernel_rfl
@[simp] theorem sz7 : szOf Try.prog 7 = some 4 := by kernel_rfl
@[simp] theorem ag7 : aggT Try.prog 7 = some true := by kernel_rfl
@[simp] theorem zz7 : zeroA Try.prog 7 = some (.agg [.int .i64 0, .int .i64 0, .bool false, .int .u8 0]) := by kernel_rfl
@[simp] theorem sz8 : szOf Try.prog 8 = some 4 := by kernel_rfl
@[simp] theorem ag8 : aggT Try.prog 8 = some true := by kernel_rfl
@[simp] theorem zz8 : zeroA Try.prog 8 = some (.agg [.int .i64 0, .int .i64 0, .bool false, .int .u8 0]) := by kernel_rfl
@[simp] theorem sz9 : szOf Try.prog 9 = some 1 := by kernel_rfl
@[simp] theorem ag9 : aggT Try.prog 9 = some false := by kernel_rfl
@[simp] theorem zz9 : zeroA Try.prog 9 = some (.str ByteArray.empty) := by kernel_rfl
@[simp] theorem sz10 : szOf Try.prog 10 = some 1 := by kernel_rfl
@[simp] theorem ag10 : aggT Try.prog 10 = some false := by kernel_rfl
@[simp] theorem zz10 : zeroA Try.prog 10 = some (.str ByteArray.empty) := by kernel_rfl
@[simp] theorem sz11 : szOf Try.prog 11 = some 1 := by kernel_rfl
@[simp] theorem ag11 : aggT Try.prog 11 = some false := by kernel_rfl
@[simp] theorem zz11 : zeroA Try.prog 11 = some (.str ByteArray.empty) := by kernel_rfl
@[simp] theorem sz12 : szOf Try.prog 12 = some 1 := by kernel_rfl
@[simp] theorem ag12 : aggT Try.prog 12 = some false := by kernel_rfl
@[simp] theorem zz12 : zeroA Try.prog 12 = some (.int .u64 0) := by kernel_rfl
@[simp] theorem sz13 : szOf Try.prog 13 = some 2 := by kernel_rfl
@[simp] theorem ag13 : aggT Try.prog 13 = some true := by kernel_rfl
@[simp] theorem zz13 : zeroA Try.prog 13 = some (.agg [.str ByteArray.empty, .int .u64 0]) := by kernel_rfl
@[simp] theorem sz14 : szOf Try.prog 14 = some 2 := by kernel_rfl
@[simp] theorem ag14 : aggT Try.prog 14 = some true := by kernel_rfl
@[simp] theorem zz14 : zeroA Try.prog 14 = some (.agg [.str ByteArray.empty, .int .u64 0]) := by kernel_rfl
@[simp] theorem sz15 : szOf Try.prog 15 = some 1 := by kernel_rfl
@[simp] theorem ag15 : aggT Try.prog 15 = some false := by kernel_rfl
@[simp] theorem zz15 : zeroA Try.prog 15 = some (.nilp) := by kernel_rfl
@[simp] theorem sz16 : szOf Try.prog 16 = some 1 := by kernel_rfl
@[simp] theorem ag16 : aggT Try.prog 16 = some false := by kernel_rfl
@[simp] theorem zz16 : zeroA Try.prog 16 = some (.nilp) := by kernel_rfl
@[simp] theorem sz17 : szOf Try.prog 17 = some 1 := by kernel_rfl
@[simp] theorem ag17 : aggT Try.prog 17 = some false := by kernel_rfl
@[simp] theorem zz17 : zeroA Try.prog 17 = some (.nilp) := by kernel_rfl
@[simp] theorem sz18 : szOf Try.prog 18 = some 1 := by kernel_rfl
@[simp] theorem ag18 : aggT Try.prog 18 = some true := by kernel_rfl
@[simp] theorem zz18 : zeroA Try.prog 18 = some (.agg [.nilp]) := by kernel_rfl
@[simp] theorem sz19 : szOf Try.prog 19 = some 1 := by kernel_rfl
@[simp] theorem ag19 : aggT Try.prog 19 = some true := by kernel_rfl
@[simp] theorem zz19 : zeroA Try.prog 19 = some (.agg [.nilp]) := by kernel_rfl
@[simp] theorem sz20 : szOf Try.prog 20 = some 1 := by kernel_rfl
@[simp] theorem ag20 : aggT Try.prog 20 = some false := by kernel_rfl
@[simp] theorem sz21 : szOf Try.prog 21 = some 1 := by kernel_rfl
@[simp] theorem ag21 : aggT Try.prog 21 = some false := by kernel_rfl
@[simp] theorem zz21 : zeroA Try.prog 21 = some (.int .i32 0) := by kernel_rfl
@[simp] theorem sz22 : szOf Try.prog 22 = some 1 := by kernel_rfl
@[simp] theorem ag22 : aggT Try.prog 22 = some false := by kernel_rfl
@[simp] theorem zz22 : zeroA Try.prog 22 = some (.nils) := by kernel_rfl
@[simp] theorem sz23 : szOf Try.prog 23 = some 1 := by kernel_rfl
@[simp] theorem ag23 : aggT Try.prog 23 = some false := by kernel_rfl
@[simp] theorem zz23 : zeroA Try.prog 23 = some (.nilf) := by kernel_rfl
@[simp] theorem sz24 : szOf Try.prog 24 = some 1 := by kernel_rfl
@[simp] theorem ag24 : aggT Try.prog 24 = some false := by kernel_rfl
@[simp] theorem zz24 : zeroA Try.prog 24 = some (.nils) := by kernel_rfl
@[simp] theorem sz25 : szOf Try.prog 25 = some 1 := by kernel_rfl
@[simp] theorem ag25 : aggT Try.prog 25 = some true := by kernel_rfl
@[simp] theorem zz25 : zeroA Try.prog 25 = some (.agg [.nils]) := by kernel_rfl
@[simp] theorem sz26 : szOf Try.prog 26 = some 1 := by kernel_rfl
@[simp] theorem ag26 : aggT Try.prog 26 = some true := by kernel_rfl
@[simp] theorem zz26 : zeroA Try.prog 26 = some (.agg [.nils]) := by kernel_rfl
@[simp] theorem sz27 : szOf Try.prog 27 = some 1 := by kernel_rfl
@[simp] theorem ag27 : aggT Try.prog 27 = some false := by kernel_rfl
@[simp] theorem zz27 : zeroA Try.prog 27 = some (.nilp) := by kernel_rfl
@[simp] theorem sz28 : szOf Try.prog 28 = some 1 := by kernel_rfl
@[simp] theorem ag28 : aggT Try.prog 28 = some false := by kernel_rfl
@[simp] theorem sz29 : szOf Try.prog 29 = some 1 := by kernel_rfl
@[simp] theorem ag29 : aggT Try.prog 29 = some false := by kernel_rfl
@[simp] theorem zz29 : zeroA Try.prog 29 = some (.nilf) := by kernel_rfl
@[simp] theorem sz30 : szOf Try.prog 30 = some 1 := by kernel_rfl
@[simp] theorem ag30 : aggT Try.prog 30 = some false := by kernel_rfl
@[simp] theorem zz30 : zeroA Try.prog 30 = some (.int .u64 0) := by kernel_rfl
@[simp] theorem sz31 : szOf Try.prog 31 = some 1 := by kernel_rfl
@[simp] theorem ag31 : aggT Try.prog 31 = some false := by kernel_rfl
@[simp] theorem zz31 : zeroA Try.prog 31 = some (.nils) := by kernel_rfl
@[simp] theorem sz32 : szOf Try.prog 32 = some 1 := by kernel_rfl
@[simp] theorem ag32 : aggT Try.prog 32 = some false := by kernel_rfl
@[simp] theorem zz32 : zeroA Try.prog 32 = some (.nils) := by kernel_rfl
@[simp] theorem sz33 : szOf Try.prog 33 = some 1 := by kernel_rfl
@[simp] theorem ag33 : aggT Try.prog 33 = some false := by kernel_rfl
@[simp] theorem zz33 : zeroA Try.prog 33 = some (.nils) := by kernel_rfl
@[simp] theorem sz34 : szOf Try.prog 34 = some 3 := by kernel_rfl
@[simp] theorem ag34 : aggT Try.prog 34 = some true := by kernel_rfl
@[simp] theorem zz34 : zeroA Try.prog 34 = some (.agg [.nils, .nils, .int .i64 0]) := by kernel_rfl
@[simp] theorem sz35 : szOf Try.prog 35 = some 3 := by kernel_rfl
@[simp] theorem ag35 : aggT Try.prog 35 = some true := by kernel_rfl
@[simp] theorem zz35 : zeroA Try.prog 35 = some (.agg [.nils, .nils, .int .i64 0]) := by kernel_rfl
@[simp] theorem sz36 : szOf Try.prog 36 = some 8 := by kernel_rfl
@[simp] theorem ag36 : aggT Try.prog 36 = some true := by kernel_rfl
@[simp] theorem zz36 : zeroA Try.prog 36 = some (.agg [.int .i64 0, .int .i64 0, .int .i64 0, .int .i64 0, .int .i64 0, .int .i64 0, .int .i64 0, .int .i64 0]) := by kernel_rfl
@[simp] theorem sz37 : szOf Try.prog 37 = some 9 := by kernel_rfl
@[simp] theorem ag37 : aggT Try.prog 37 = some true := by kernel_rfl
@[simp] theorem zz37 : zeroA Try.prog 37 = some (.agg [.int .i64 0, .int .i64 0, .int .i64 0, .int .i64 0, .int .i64 0, .int .i64 0, .int .i64 0, .int .i64 0, .int .i64 0]) := by kernel_rfl
@[simp] theorem sz38 : szOf Try.prog 38 = some 9 := by kernel_rfl
@[simp] theorem ag38 : aggT Try.prog 38 = some true := by kernel_rfl
@[simp] theorem zz38 : zeroA Try.prog 38 = some (.agg [.int .i64 0, .int .i64 0, .int .i64 0, .int .i64 0, .int .i64 0, .int .i64 0, .int .i64 0, .int .i64 0, .int .i64 0]) := by kernel_rfl
@[simp] theorem sz39 : szOf Try.prog 39 = some 1 := by kernel_rfl
@[simp] theorem ag39 : aggT Try.prog 39 = some false := by kernel_rfl
@[simp] theorem zz39 : zeroA Try.prog 39 = some (.nils) := by kernel_rfl
@[simp] theorem sz40 : szOf Try.prog 40 = some 1 := by kernel_rfl
@[simp] theorem ag40 : aggT Try.prog 40 = some false := by kernel_rfl
@[simp] theorem zz40 : zeroA Try.prog 40 = some (.nils) := by kernel_rfl
@[simp] theorem sz41 : szOf Try.prog 41 = some 20 := by kernel_rfl
@[simp] theorem ag41 : aggT Try.prog 41 = some true := by kernel_rfl
@[simp] theorem zz41 : zeroA Try.prog 41 = some (.agg [.int .i64 0, .int .u64 0, .nils, .nils, .nils, .int .i64 0, .int .i64 0, .int .i64 0, .int .i64 0, .int .i64 0, .int .i64 0, .int .i64 0, .int .i64 0, .int .i64 0, .int .i64 0, .nils, .nils, .int .i64 0, .int .i64 0, .int .i64 0]) := by kernel_rfl
@[simp] theorem sz42 : szOf Try.prog 42 = some 20 := by kernel_rfl
@[simp] theorem ag42 : aggT Try.prog 42 = some true := by kernel_rfl
@[simp] theorem zz42 : zeroA Try.prog 42 = some (.agg [.int .i64 0, .int .u64 0, .nils, .nils, .nils, .int .i64 0, .int .i64 0, .int .i64 0, .int .i64 0, .int .i64 0, .int .i64 0, .int .i64 0, .int .i64 0, .int .i64 0, .int .i64 0, .nils, .nils, .int .i64 0, .int .i64 0, .int .i64 0]) := by kernel_rfl
@[simp] theorem sz43 : szOf Try.prog 43 = some 1 := by kernel_rfl
@[simp] theorem ag43 : aggT Try.prog 43 = some false := by kernel_rfl
@[simp] theorem zz43 : zeroA Try.prog 43 = some (.nils) := by kernel_rfl
@[simp] theorem sz44 : szOf Try.prog 44 = some 2 := by kernel_rfl
@[simp] theorem ag44 : aggT Try.prog 44 = some true := by kernel_rfl
@[simp] theorem zz44 : zeroA Try.prog 44 = some (.agg [.nils, .nils]) := by kernel_rfl
@[simp] theorem sz45 : szOf Try.prog 45 = some 2 := by kernel_rfl
@[simp] theorem ag45 : aggT Try.prog 45 = some true := by kernel_rfl
@[simp] theorem zz45 : zeroA Try.prog 45 = some (.agg [.int .i64 0, .int .i64 0]) := by kernel_rfl
@[simp] theorem sz46 : szOf Try.prog 46 = some 1 := by kernel_rfl
@[simp] theorem ag46 : aggT Try.prog 46 = some false := by kernel_rfl
@[simp] theorem zz46 : zeroA Try.prog 46 = some (.nils) := by kernel_rfl
@[simp] theorem sz47 : szOf Try.prog 47 = some 36 := by kernel_rfl
@[simp] theorem ag47 : aggT Try.prog 47 = some true := by kernel_rfl
@[simp] theorem zz47 : zeroA Try.prog 47 = some (.agg [.int .u64 0, .int .i64 0, .int .i64 0, .int .i64 0, .int .u64 0, .nils, .nils, .nils, .int .i64 0, .int .i64 0, .int .i64 0, .int .i64 0, .int .i64 0, .int .i64 0, .int .i64 0, .int .i64 0, .int .i64 0, .int .i64 0, .nils, .nils, .int .i64 0, .int .i64 0, .int .i64 0, .nils, .nils, .int .i64 0, .int .u64 0, .int .i64 0, .int .i64 0, .nils, .nils, .nils, .int .i64 0, .int .i64 0, .int .i64 0, .nils]) := by kernel_rfl
@[simp] theorem sz48 : szOf Try.prog 48 = some 36 := by kernel_rfl
@[simp] theorem ag48 : aggT Try.prog 48 = some true := by kernel_rfl
@[simp] theorem zz48 : zeroA Try.prog 48 = some (.agg [.int .u64 0, .int .i64 0, .int .i64 0, .int .i64 0, .int .u64 0, .nils, .nils, .nils, .int .i64 0, .int .i64 0, .int .i64 0, .int .i64 0, .int .i64 0, .int .i64 0, .int .i64 0, .int .i64 0, .int .i64 0, .int .i64 0, .nils, .nils, .int .i64 0, .int .i64 0, .int .i64 0, .nils, .nils, .int .i64 0, .int .u64 0, .int .i64 0, .int .i64 0, .nils, .nils, .nils, .int .i64 0, .int .i64 0, .int .i64 0, .nils]) := by kernel_rfl
@[simp] theorem sz49 : szOf Try.prog 49 = some 45 := by kernel_rfl
@[simp] theorem ag49 : aggT Try.prog 49 = some true := by kernel_rfl
@[simp] theorem zz49 : zeroA Try.prog 49 = some (.agg [.int .i64 0, .int .i64 0, .int .i64 0, .int .u64 0, .int .i64 0, .int .u64 0, .int .i64 0, .int .i64 0, .int .i64 0, .int .u64 0, .nils, .nils, .nils, .int .i64 0, .int .i64 0, .int .i64 0, .int .i64 0, .int .i64 0, .int .i64 0, .int .i64 0, .int .i64 0, .int .i64 0, .int .i64 0, .nils, .nils, .int .i64 0, .int .i64 0, .int .i64 0, .nils, .nils, .int .i64 0, .int .u64 0, .int .i64 0, .int .i64 0, .nils, .nils, .nils, .int .i64 0, .int .i64 0, .int .i64 0, .nils, .int .u64 0, .int .i64 0, .int .u64 0, .int .i64 0]) := by kernel_rfl
@[simp] theorem sz50 : szOf Try.prog 50 = some 45 := by kernel_rfl
@[simp] theorem ag50 : aggT Try.prog 50 = some true := by kernel_rfl
@[simp] theorem zz50 : zeroA Try.prog 50 = some (.agg [.int .i64 0, .int .i64 0, .int .i64 0, .int .u64 0, .int .i64 0, .int .u64 0, .int .i64 0, .int .i64 0, .int .i64 0, .int .u64 0, .nils, .nils, .nils, .int .i64 0, .int .i64 0, .int .i64 0, .int .i64 0, .int .i64 0, .int .i64 0, .int .i64 0, .int .i64 0, .int .i64 0, .int .i64 0, .nils, .nils, .int .i64 0, .int .i64 0, .int .i64 0, .nils, .nils, .int .i64 0, .int .u64 0, .int .i64 0, .int .i64 0, .nils, .nils, .nils, .int .i64 0, .int .i64 0, .int .i64 0, .nils, .int .u64 0, .int .i64 0, .int .u64 0, .int .i64 0]) := by kernel_rfl
@[simp] theorem sz51 : szOf Try.prog 51 = some 1 := by kernel_rfl
@[simp] theorem ag51 : aggT Try.prog 51 = some false := by kernel_rfl
@[simp] theorem zz51 : zeroA Try.prog 51 = some (.int .i64 0) := by kernel_rfl
@[simp] theorem sz52 : szOf Try.prog 52 = some 1 := by kernel_rfl
@[simp] theorem ag52 : aggT Try.prog 52 = some false := by kernel_rfl
@[simp] theorem sz53 : szOf Try.prog 53 = some 1 := by kernel_rfl
@[simp] theorem ag53 : aggT Try.prog 53 = some false := by kernel_rfl
@[simp] theorem zz53 : zeroA Try.prog 53 = some (.nilf) := by kernel_rfl
@[simp] theorem sz54 : szOf Try.prog 54 = some 1 := by kernel_rfl
@[simp] theorem ag54 : aggT Try.prog 54 = some false := by kernel_rfl
@[simp] theorem sz55 : szOf Try.prog 55 = some 1 := by kernel_rfl
@[simp] theorem ag55 : aggT Try.prog 55 = some false := by kernel_rfl
@[simp] theorem zz55 : zeroA Try.prog 55 = some (.nilf) := by kernel_rfl
@[simp] theorem sz56 : szOf Try.prog 56 = some 1 := by kernel_rfl
@[simp] theorem ag56 : aggT Try.prog 56 = some false := by kernel_rfl
@[simp] theorem zz56 : zeroA Try.prog 56 = some (.nilf) := by kernel_rfl
@[simp] theorem sz57 : szOf Try.prog 57 = some 1 := by kernel_rfl
@[simp] theorem ag57 : aggT Try.prog 57 = some false := by kernel_rfl
@[simp] theorem zz57 : zeroA Try.prog 57 = some (.nilf) := by kernel_rfl
@[simp] theorem sz58 : szOf Try.prog 58 = some 1 := by kernel_rfl
@[simp] theorem ag58 : aggT Try.prog 58 = some false := by kernel_rfl
@[simp] theorem zz58 : zeroA Try.prog 58 = some (.nilf) := by kernel_rfl
@[simp] theorem sz59 : szOf Try.prog 59 = some 1 := by kernel_rfl
@[simp] theorem ag59 : aggT Try.prog 59 = some false := by kernel_rfl
@[simp] theorem zz59 : zeroA Try.prog 59 = some (.nilm) := by kernel_rfl
@[simp] theorem sz60 : szOf Try.prog 60 = some 1 := by kernel_rfl
@[simp] theorem ag60 : aggT Try.prog 60 = some false := by kernel_rfl
@[simp] theorem zz60 : zeroA Try.prog 60 = some (.nilf) := by kernel_rfl
@[simp] theorem sz61 : szOf Try.prog 61 = some 1 := by kernel_rfl
@[simp] theorem ag61 : aggT Try.prog 61 = some false := by kernel_rfl
@[simp] theorem zz61 : zeroA Try.prog 61 = some (.nils) := by kernel_rfl
@[simp] theorem sz62 : szOf Try.prog 62 = some 1 := by kernel_rfl
@[simp] theorem ag62 : aggT Try.prog 62 = some false := by kernel_rfl
@[simp] theorem zz62 : zeroA Try.prog 62 = some (.nilf) := by kernel_rfl
@[simp] theorem sz63 : szOf Try.prog 63 = some 1 := by kernel_rfl
@[simp] theorem ag63 : aggT Try.prog 63 = some false := by kernel_rfl
@[simp] theorem zz63 : zeroA Try.prog 63 = some (.nilf) := by kernel_rfl
@[simp] theorem sz64 : szOf Try.prog 64 = some 1 := by kernel_rfl
@[simp] theorem ag64 : aggT Try.prog 64 = some false := by kernel_rfl
@[simp] theorem zz64 : zeroA Try.prog 64 = some (.nilf) := by kernel_rfl
@[simp] theorem sz65 : szOf Try.prog 65 = some 1 := by kernel_rfl
@[simp] theorem ag65 : aggT Try.prog 65 = some false := by kernel_rfl
@[simp] theorem zz65 : zeroA Try.prog 65 = some (.nilf) := by kernel_rfl
@[simp] theorem sz66 : szOf Try.prog 66 = some 1 := by kernel_rfl
@[simp] theorem ag66 : aggT Try.prog 66 = some false := by kernel_rfl
@[simp] theorem zz66 : zeroA Try.prog 66 = some (.nilf) := by kernel_rfl
@[simp] theorem sz67 : szOf Try.prog 67 = some 1 := by kernel_rfl
@[simp] theorem ag67 : aggT Try.prog 67 = some false := by kernel_rfl
@[simp] theorem zz67 : zeroA Try.prog 67 = some (.nils) := by kernel_rfl
@[simp] theorem sz68 : szOf Try.prog 68 = some 2 := by kernel_rfl
@[simp] theorem ag68 : aggT Try.prog 68 = some true := by kernel_rfl
@[simp] theorem zz68 : zeroA Try.prog 68 = some (.agg [.int .i64 0, .nils]) := by kernel_rfl
@[simp] theorem sz69 : szOf Try.prog 69 = some 2 := by kernel_rfl
@[simp] theorem ag69 : aggT Try.prog 69 = some true := by kernel_rfl
@[simp] theorem zz69 : zeroA Try.prog 69 = some (.agg [.int .i64 0, .nils]) := by kernel_rfl
@[simp] theorem sz70 : szOf Try.prog 70 = some 1 := by kernel_rfl
@[simp] theorem ag70 : aggT Try.prog 70 = some false := by kernel_rfl
@[simp] theorem zz70 : zeroA Try.prog 70 = some (.nils) := by kernel_rfl
@[simp] theorem sz71 : szOf Try.prog 71 = some 1 := by kernel_rfl
@[simp] theorem ag71 : aggT Try.prog 71 = some false := by kernel_rfl
@[simp] theorem zz71 : zeroA Try.prog 71 = some (.nilf) := by kernel_rfl
@[simp] theorem sz72 : szOf Try.prog 72 = some 1 := by kernel_rfl
@[simp] theorem ag72 : aggT Try.prog 72 = some false := by kernel_rfl
@[simp] theorem zz72 : zeroA Try.prog 72 = some (.nilf) := by kernel_rfl
@[simp] theorem sz73 : szOf Try.prog 73 = some 1 := by kernel_rfl
@[simp] theorem ag73 : aggT Try.prog 73 = some false := by kernel_rfl
@[simp] theorem zz73 : zeroA Try.prog 73 = some (.nilf) := by kernel_rfl
@[simp] theorem sz74 : szOf Try.prog 74 = some 1 := by kernel_rfl
@[simp] theorem ag74 : aggT Try.prog 74 = some false := by kernel_rfl
@[simp] theorem zz74 : zeroA Try.prog 74 = some (.nilf) := by kernel_rfl
@[simp] theorem sz75 : szOf Try.prog 75 = some 1 := by kernel_rfl
@[simp] theorem ag75 : aggT Try.prog 75 = some false := by kernel_rfl
@[simp] theorem zz75 : zeroA Try.prog 75 = some (.nilf) := by kernel_rfl
@[simp] theorem sz76 : szOf Try.prog 76 = some 41 := by kernel_rfl
@[simp] theorem ag76 : aggT Try.prog 76 = some true := by kernel_rfl
@[simp] theorem zz76 : zeroA Try.prog 76 = some (.agg [.int .u64 0, .int .i64 0, .int .u64 0, .int .i64 0, .int .i64 0, .int .i64 0, .int .u64 0, .nils, .nils, .nils, .int .i64 0, .int .i64 0, .int .i64 0, .int .i64 0, .int .i64 0, .int .i64 0, .int .i64 0, .int .i64 0, .int .i64 0, .int .i64 0, .nils, .nils, .int .i64 0, .int .i64 0, .int .i64 0, .nils, .nils, .int .i64 0, .int .u64 0, .int .i64 0, .int .i64 0, .nils, .nils, .nils, .int .i64 0, .int .i64 0, .int .i64 0, .nils, .int .i64 0, .bool false, .bool false]) := by kernel_rfl
@[simp] theorem sz77 : szOf Try.prog 77 = some 41 := by kernel_rfl
@[simp] theorem ag77 : aggT Try.prog 77 = some true := by kernel_rfl
@[simp] theorem zz77 : zeroA Try.prog 77 = some (.agg [.int .u64 0, .int .i64 0, .int .u64 0, .int .i64 0, .int .i64 0, .int .i64 0, .int .u64 0, .nils, .nils, .nils, .int .i64 0, .int .i64 0, .int .i64 0, .int .i64 0, .int .i64 0, .int .i64 0, .int .i64 0, .int .i64 0, .int .i64 0, .int .i64 0, .nils, .nils, .int .i64 0, .int .i64 0, .int .i64 0, .nils, .nils, .int .i64 0, .int .u64 0, .int .i64 0, .int .i64 0, .nils, .nils, .nils, .int .i64 0, .int .i64 0, .int .i64 0, .nils, .int .i64 0, .bool false, .bool false]) := by kernel_rfl
@[simp] theorem sz78 : szOf Try.prog 78 = some 1 := by kernel_rfl
@[simp] theorem ag78 : aggT Try.prog 78 = some false := by kernel_rfl
@[simp] theorem zz78 : zeroA Try.prog 78 = some (.nilf) := by kernel_rfl
@[simp] theorem sz79 : szOf Try.prog 79 = some 1 := by kernel_rfl
@[simp] theorem ag79 : aggT Try.prog 79 = some false := by kernel_rfl
@[simp] theorem zz79 : zeroA Try.prog 79 = some (.nils) := by kernel_rfl
@[simp] theorem sz80 : szOf Try.prog 80 = some 1 := by kernel_rfl
@[simp] theorem ag80 : aggT Try.prog 80 = some false := by kernel_rfl
@[simp] theorem sz81 : szOf Try.prog 81 = some 1 := by kernel_rfl
@[simp] theorem ag81 : aggT Try.prog 81 = some false := by kernel_rfl
@[simp] theorem zz81 : zeroA Try.prog 81 = some (.nilf) := by kernel_rfl
@[simp] theorem sz82 : szOf Try.prog 82 = some 1 := by kernel_rfl
@[simp] theorem ag82 : aggT Try.prog 82 = some false := by kernel_rfl
@[simp] theorem zz82 : zeroA Try.prog 82 = some (.nilf) := by kernel_rfl
@[simp] theorem sz83 : szOf Try.prog 83 = some 1 := by kernel_rfl
@[simp] theorem ag83 : aggT Try.prog 83 = some false := by kernel_rfl
@[simp] theorem zz83 : zeroA Try.prog 83 = some (.nils) := by kernel_rfl
@[simp] theorem sz84 : szOf Try.prog 84 = some 1 := by kernel_rfl
@[simp] theorem ag84 : aggT Try.prog 84 = some false := by kernel_rfl
@[simp] theorem zz84 : zeroA Try.prog 84 = some (.nilf) := by kernel_rfl
@[simp] theorem sz85 : szOf Try.prog 85 = some 1 := by kernel_rfl
@[simp] theorem ag85 : aggT Try.prog 85 = some false := by kernel_rfl
@[simp] theorem zz85 : zeroA Try.prog 85 = some (.nilf) := by kernel_rfl
@[simp] theorem sz86 : szOf Try.prog 86 = some 1 := by kernel_rfl
@[simp] theorem ag86 : aggT Try.prog 86 = some false := by kernel_rfl
@[simp] theorem zz86 : zeroA Try.prog 86 = some (.nils) := by kernel_rfl
@[simp] theorem sz87 : szOf Try.prog 87 = some 1 := by kernel_rfl
@[simp] theorem ag87 : aggT Try.prog 87 = some false := by kernel_rfl
@[simp] theorem zz87 : zeroA Try.prog 87 = some (.nils) := by kernel_rfl
@[simp] theorem sz88 : szOf Try.prog 88 = some 1 := by kernel_rfl
@[simp] theorem ag88 : aggT Try.prog 88 = some false := by kernel_rfl
@[simp] theorem sz89 : szOf Try.prog 89 = some 1 := by kernel_rfl
@[simp] theorem ag89 : aggT Try.prog 89 = some false := by kernel_rfl
@[simp] theorem zz89 : zeroA Try.prog 89 = some (.nilf) := by kernel_rfl
@[simp] theorem sz90 : szOf Try.prog 90 = some 1 := by kernel_rfl
@[simp] theorem ag90 : aggT Try.prog 90 = some false := by kernel_rfl
@[simp] theorem zz90 : zeroA Try.prog 90 = some (.nilf) := by kernel_rfl
@[simp] theorem sz91 : szOf Try.prog 91 = some 1 := by kernel_rfl
@[simp] theorem ag91 : aggT Try.prog 91 = some false := by kernel_rfl
@[simp] theorem zz91 : zeroA Try.prog 91 = some (.nilf) := by kernel_rfl
@[simp] theorem sz92 : szOf Try.prog 92 = some 1 := by kernel_rfl
@[simp] theorem ag92 : aggT Try.prog 92 = some false := by kernel_rfl
@[simp] theorem zz92 : zeroA Try.prog 92 = some (.nilp) := by kernel_rfl
@[simp] theorem sz93 : szOf Try.prog 93 = some 1 := by kernel_rfl
@[simp] theorem ag93 : aggT Try.prog 93 = some false := by kernel_rfl
@[simp] theorem zz93 : zeroA Try.prog 93 = some (.nils) := by kernel_rfl
@[simp] theorem sz94 : szOf Try.prog 94 = some 2 := by kernel_rfl
@[simp] theorem ag94 : aggT Try.prog 94 = some true := by kernel_rfl
@[simp] theorem zz94 : zeroA Try.prog 94 = some (.agg [.int .i64 0, .nils]) := by kernel_rfl
@[simp] theorem sz95 : szOf Try.prog 95 = some 2 := by kernel_rfl
@[simp] theorem ag95 : aggT Try.prog 95 = some true := by kernel_rfl
@[simp] theorem zz95 : zeroA Try.prog 95 = some (.agg [.int .i64 0, .nils]) := by kernel_rfl
@[simp] theorem sz96 : szOf Try.prog 96 = some 6 := by kernel_rfl
@[simp] theorem ag96 : aggT Try.prog 96 = some true := by kernel_rfl
@[simp] theorem zz96 : zeroA Try.prog 96 = some (.agg [.int .i64 0, .nils, .int .i64 0, .nils, .int .i64 0, .nils]) := by kernel_rfl
@[simp] theorem sz97 : szOf Try.prog 97 = some 2 := by kernel_rfl
@[simp] theorem ag97 : aggT Try.prog 97 = some true := by kernel_rfl
@[simp] theorem zz97 : zeroA Try.prog 97 = some (.agg [.int .i64 0, .int .i64 0]) := by kernel_rfl
@[simp] theorem sz98 : szOf Try.prog 98 = some 11 := by kernel_rfl
@[simp] theorem ag98 : aggT Try.prog 98 = some true := by kernel_rfl
@[simp] theorem zz98 : zeroA Try.prog 98 = some (.agg [.int .i64 0, .nils, .int .i64 0, .nils, .int .i64 0, .nils, .int .i64 0, .nils, .nils, .int .i64 0, .int .i64 0]) := by kernel_rfl
@[simp] theorem sz99 : szOf Try.prog 99 = some 11 := by kernel_rfl
@[simp] theorem ag99 : aggT Try.prog 99 = some true := by kernel_rfl
@[simp] theorem zz99 : zeroA Try.prog 99 = some (.agg [.int .i64 0, .nils, .int .i64 0, .nils, .int .i64 0, .nils, .int .i64 0, .nils, .nils, .int .i64 0, .int .i64 0]) := by kernel_rfl
@[simp] theorem sz100 : szOf Try.prog 100 = some 1 := by kernel_rfl
@[simp] theorem ag100 : aggT Try.prog 100 = some false := by kernel_rfl
@[simp] theorem zz100 : zeroA Try.prog 100 = some (.nilf) := by kernel_rfl
@[simp] theorem sz101 : szOf Try.prog 101 = some 1 := by kernel_rfl
@[simp] theorem ag101 : aggT Try.prog 101 = some false := by kernel_rfl
@[simp] theorem zz101 : zeroA Try.prog 101 = some (.nilf) := by kernel_rfl
@[simp] theorem sz102 : szOf Try.prog 102 = some 1 := by kernel_rfl
@[simp] theorem ag102 : aggT Try.prog 102 = some false := by kernel_rfl
@[simp] theorem zz102 : zeroA Try.prog 102 = some (.nilf) := by kernel_rfl
@[simp] theorem sz103 : szOf Try.prog 103 = some 1 := by kernel_rfl
@[simp] theorem ag103 : aggT Try.prog 103 = some false := by kernel_rfl
@[simp] theorem zz103 : zeroA Try.prog 103 = some (.nilf) := by kernel_rfl
@[simp] theorem sz104 : szOf Try.prog 104 = some 1 := by kernel_rfl
@[simp] theorem ag104 : aggT Try.prog 104 = some false := by kernel_rfl
@[simp] theorem zz104 : zeroA Try.prog 104 = some (.nilf) := by kernel_rfl
@[simp] theorem sz105 : szOf Try.prog 105 = some 1 := by kernel_rfl
@[simp] theorem ag105 : aggT Try.prog 105 = some false := by kernel_rfl
@[simp] theorem zz105 : zeroA Try.prog 105 = some (.nilf) := by kernel_rfl
@[simp] theorem sz106 : szOf Try.prog 106 = some 1 := by kernel_rfl
@[simp] theorem ag106 : aggT Try.prog 106 = some false := by kernel_rfl
@[simp] theorem zz106 : zeroA Try.prog 106 = some (.nilp) := by kernel_rfl
@[simp] theorem sz107 : szOf Try.prog 107 = some 4 := by kernel_rfl
@[simp] theorem ag107 : aggT Try.prog 107 = some true := by kernel_rfl
@[simp] theorem zz107 : zeroA Try.prog 107 = some (.agg [.int .i64 0, .int .i64 0, .int .i64 0, .int .i64 0]) := by kernel_rfl
@[simp] theorem sz108 : szOf Try.prog 108 = some 4 := by kernel_rfl
@[simp] theorem ag108 : aggT Try.prog 108 = some true := by kernel_rfl
@[simp] theorem zz108 : zeroA Try.prog 108 = some (.agg [.bool false, .bool false, .bool false, .bool false]) := by kernel_rfl
@[simp] theorem sz109 : szOf Try.prog 109 = some 12 := by kernel_rfl
@[simp] theorem ag109 : aggT Try.prog 109 = some true := by kernel_rfl
@[simp] theorem zz109 : zeroA Try.prog 109 = some (.agg [.int .i64 0, .int .i64 0, .int .i64 0, .int .i64 0, .bool false, .bool false, .bool false, .bool false, .int .i64 0, .int .i64 0, .int .i64 0, .int .i64 0]) := by kernel_rfl
@[simp] theorem sz110 : szOf Try.prog 110 = some 12 := by kernel_rfl
@[simp] theorem ag110 : aggT Try.prog 110 = some true := by kernel_rfl
@[simp] theorem zz110 : zeroA Try.prog 110 = some (.agg [.int .i64 0, .int .i64 0, .int .i64 0, .int .i64 0, .bool false, .bool false, .bool false, .bool false, .int .i64 0, .int .i64 0, .int .i64 0, .int .i64 0]) := by kernel_rfl
@[simp] theorem sz111 : szOf Try.prog 111 = some 1 := by kernel_rfl
@[simp] theorem ag111 : aggT Try.prog 111 = some false := by kernel_rfl
@[simp] theorem sz112 : szOf Try.prog 112 = some 1 := by kernel_rfl
@[simp] theorem ag112 : aggT Try.prog 112 = some false := by kernel_rfl
@[simp] theorem zz112 : zeroA Try.prog 112 = some (.nilf) := by kernel_rfl
@[simp] theorem sz113 : szOf Try.prog 113 = some 1 := by kernel_rfl
@[simp] theorem ag113 : aggT Try.prog 113 = some false := by kernel_rfl
@[simp] theorem zz113 : zeroA Try.prog 113 = some (.nilf) := by kernel_rfl
@[simp] theorem sz114 : szOf Try.prog 114 = some 1 := by kernel_rfl
@[simp] theorem ag114 : aggT Try.prog 114 = some false := by kernel_rfl
@[simp] theorem zz114 : zeroA Try.prog 114 = some (.nilf) := by kernel_rfl
@[simp] theorem sz115 : szOf Try.prog 115 = some 1 := by kernel_rfl
@[simp] theorem ag115 : aggT Try.prog 115 = some false := by kernel_rfl
@[simp] theorem zz115 : zeroA Try.prog 115 = some (.nils) := by kernel_rfl
@[simp] theorem sz116 : szOf Try.prog 116 = some 41 := by kernel_rfl
@[simp] theorem ag116 : aggT Try.prog 116 = some true := by kernel_rfl
@[simp] theorem zz116 : zeroA Try.prog 116 = some (.agg [.int .u64 0, .int .i64 0, .nils, .int .u64 0, .int .i64 0, .int .i64 0, .int .i64 0, .int .u64 0, .nils, .nils, .nils, .int .i64 0, .int .i64 0, .int .i64 0, .int .i64 0, .int .i64 0, .int .i64 0, .int .i64 0, .int .i64 0, .int .i64 0, .int .i64 0, .nils, .nils, .int .i64 0, .int .i64 0, .int .i64 0, .nils, .nils, .int .i64 0, .int .u64 0, .int .i64 0, .int .i64 0, .nils, .nils, .nils, .int .i64 0, .int .i64 0, .int .i64 0, .nils, .nils, .nils]) := by kernel_rfl
@[simp] theorem sz117 : szOf Try.prog 117 = some 41 := by kernel_rfl
@[simp] theorem ag117 : aggT Try.prog 117 = some true := by kernel_rfl
@[simp] theorem zz117 : zeroA Try.prog 117 = some (.agg [.int .u64 0, .int .i64 0, .nils, .int .u64 0, .int .i64 0, .int .i64 0, .int .i64 0, .int .u64 0, .nils, .nils, .nils, .int .i64 0, .int .i64 0, .int .i64 0, .int .i64 0, .int .i64 0, .int .i64 0, .int .i64 0, .int .i64 0, .int .i64 0, .int .i64 0, .nils, .nils, .int .i64 0, .int .i64 0, .int .i64 0, .nils, .nils, .int .i64 0, .int .u64 0, .int .i64 0, .int .i64 0, .nils, .nils, .nils, .int .i64 0, .int .i64 0, .int .i64 0, .nils, .nils, .nils]) := by kernel_rfl
@[simp] theorem sz118 : szOf Try.prog 118 = some 1 := by kernel_rfl
@[simp] theorem ag118 : aggT Try.prog 118 = some false := by kernel_rfl
@[simp] theorem zz118 : zeroA Try.prog 118 = some (.nilf) := by kernel_rfl
@[simp] theorem sz119 : szOf Try.prog 119 = some 2 := by kernel_rfl
@[simp] theorem ag119 : aggT Try.prog 119 = some true := by kernel_rfl
@[simp] theorem zz119 : zeroA Try.prog 119 = some (.agg [.int .i64 0, .int .i64 0]) := by kernel_rfl
@[simp] theorem sz120 : szOf Try.prog 120 = some 2 := by kernel_rfl
@[simp] theorem ag120 : aggT Try.prog 120 = some true := by kernel_rfl
@[simp] theorem zz120 : zeroA Try.prog 120 = some (.agg [.int .i64 0, .int .i64 0]) := by kernel_rfl
@[simp] theorem sz121 : szOf Try.prog 121 = some 1 := by kernel_rfl
@[simp] theorem ag121 : aggT Try.prog 121 = some false := by kernel_rfl
@[simp] theorem zz121 : zeroA Try.prog 121 = some (.nilf) := by kernel_rfl
@[simp] theorem sz122 : szOf Try.prog 122 = some 4 := by kernel_rfl
@[simp] theorem ag122 : aggT Try.prog 122 = some true := by kernel_rfl
@[simp] theorem zz122 : zeroA Try.prog 122 = some (.agg [.int .i64 0, .int .i64 0, .bool false, .nils]) := by kernel_rfl
@[simp] theorem sz123 : szOf Try.prog 123 = some 4 := by kernel_rfl
@[simp] theorem ag123 : aggT Try.prog 123 = some true := by kernel_rfl
@[simp] theorem zz123 : zeroA Try.prog 123 = some (.agg [.int .i64 0, .int .i64 0, .bool false, .nils]) := by kernel_rfl
@[simp] theorem sz124 : szOf Try.prog 124 = some 1 := by kernel_rfl
@[simp] theorem ag124 : aggT Try.prog 124 = some false := by kernel_rfl
@[simp] theorem zz124 : zeroA Try.prog 124 = some (.nilf) := by kernel_rfl
@[simp] theorem sz125 : szOf Try.prog 125 = some 1 := by kernel_rfl
@[simp] theorem ag125 : aggT Try.prog 125 = some false := by kernel_rfl
@[simp] theorem zz125 : zeroA Try.prog 125 = some (.nilf) := by kernel_rfl
@[simp] theorem sz126 : szOf Try.prog 126 = some 1 := by kernel_rfl
@[simp] theorem ag126 : aggT Try.prog 126 = some false := by kernel_rfl
@[simp] theorem zz126 : zeroA Try.prog 126 = some (.nilf) := by kernel_rfl
@[simp] theorem sz127 : szOf Try.prog 127 = some 1 := by kernel_rfl
@[simp] theorem ag127 : aggT Try.prog 127 = some false := by kernel_rfl
@[simp] theorem zz127 : zeroA Try.prog 127 = some (.nilp) := by kernel_rfl
@[simp] theorem sz128 : szOf Try.prog 128 = some 1 := by kernel_rfl
@[simp] theorem ag128 : aggT Try.prog 128 = some false := by kernel_rfl
@[simp] theorem zz128 : zeroA Try.prog 128 = some (.nilf) := by kernel_rfl
@[simp] theorem sz129 : szOf Try.prog 129 = some 1 := by kernel_rfl
@[simp] theorem ag129 : aggT Try.prog 129 = some false := by kernel_rfl
@[simp] theorem zz129 : zeroA Try.prog 129 = some (.nilf) := by kernel_rfl
@[simp] theorem sz130 : szOf Try.prog 130 = some 1 := by kernel_rfl
@[simp] theorem ag130 : aggT Try.prog 130 = some false := by kernel_rfl
@[simp] theorem zz130 : zeroA Try.prog 130 = some (.nilf) := by kernel_rfl
@[simp] theorem sz131 : szOf Try.prog 131 = some 1 := by kernel_rfl
@[simp] theorem ag131 : aggT Try.prog 131 = some false := by kernel_rfl
@[simp] theorem zz131 : zeroA Try.prog 131 = some (.nilf) := by kernel_rfl
@[simp] theorem sz132 : szOf Try.prog 132 = some 1 := by kernel_rfl
@[simp] theorem ag132 : aggT Try.prog 132 = some false := by kernel_rfl
@[simp] theorem zz132 : zeroA Try.prog 132 = some (.nilf) := by kernel_rfl
@[simp] theorem sz133 : szOf Try.prog 133 = some 1 := by kernel_rfl
@[simp] theorem ag133 : aggT Try.prog 133 = some false := by kernel_rfl
@[simp] theorem zz133 : zeroA Try.prog 133 = some (.nilf) := by kernel_rfl
@[simp] theorem sz134 : szOf Try.prog 134 = some 1 := by kernel_rfl
@[simp] theorem ag134 : aggT Try.prog 134 = some false := by kernel_rfl
@[simp] theorem zz134 : zeroA Try.prog 134 = some (.nilf) := by kernel_rfl
@[simp] theorem sz135 : szOf Try.prog 135 = some 1 := by kernel_rfl
@[simp] theorem ag135 : aggT Try.prog 135 = some false := by kernel_rfl
@[simp] theorem zz135 : zeroA Try.prog 135 = some (.nilf) := by kernel_rfl
@[simp] theorem sz136 : szOf Try.prog 136 = some 3 := by kernel_rfl
@[simp] theorem ag136 : aggT Try.prog 136 = some true := by kernel_rfl
@[simp] theorem zz136 : zeroA Try.prog 136 = some (.agg [.str ByteArray.empty, .int .i64 0, .nils]) := by kernel_rfl
@[simp] theorem sz137 : szOf Try.prog 137 = some 3 := by kernel_rfl
@[simp] theorem ag137 : aggT Try.prog 137 = some true := by kernel_rfl
@[simp] theorem zz137 : zeroA Try.prog 137 = some (.agg [.str ByteArray.empty, .int .i64 0, .nils]) := by kernel_rfl
@[simp] theorem sz138 : szOf Try.prog 138 = some 1 := by kernel_rfl
@[simp] theorem ag138 : aggT Try.prog 138 = some false := by kernel_rfl
@[simp] theorem zz138 : zeroA Try.prog 138 = some (.nilf) := by kernel_rfl
@[simp] theorem sz139 : szOf Try.prog 139 = some 1 := by kernel_rfl
@[simp] theorem ag139 : aggT Try.prog 139 = some true := by kernel_rfl
@[simp] theorem zz139 : zeroA Try.prog 139 = some (.agg [.nils]) := by kernel_rfl
@[simp] theorem sz140 : szOf Try.prog 140 = some 1 := by kernel_rfl
@[simp] theorem ag140 : aggT Try.prog 140 = some true := by kernel_rfl
@[simp] theorem zz140 : zeroA Try.prog 140 = some (.agg [.nils]) := by kernel_rfl
@[simp] theorem sz141 : szOf Try.prog 141 = some 1 := by kernel_rfl
@[simp] theorem ag141 : aggT Try.prog 141 = some false := by kernel_rfl
@[simp] theorem sz142 : szOf Try.prog 142 = some 1 := by kernel_rfl
@[simp] theorem ag142 : aggT Try.prog 142 = some false := by kernel_rfl
@[simp] theorem zz142 : zeroA Try.prog 142 = some (.nilf) := by kernel_rfl
@[simp] theorem sz143 : szOf Try.prog 143 = some 1 := by kernel_rfl
@[simp] theorem ag143 : aggT Try.prog 143 = some false := by kernel_rfl
@[simp] theorem zz143 : zeroA Try.prog 143 = some (.nilf) := by kernel_rfl
@[simp] theorem sz144 : szOf Try.prog 144 = some 1 := by kernel_rfl
@[simp] theorem ag144 : aggT Try.prog 144 = some false := by kernel_rfl
@[simp] theorem zz144 : zeroA Try.prog 144 = some (.nilf) := by kernel_rfl
@[simp] theorem sz145 : szOf Try.prog 145 = some 1 := by kernel_rfl
@[simp] theorem ag145 : aggT Try.prog 145 = some false := by kernel_rfl
@[simp] theorem zz145 : zeroA Try.prog 145 = some (.nilf) := by kernel_rfl
@[simp] theorem sz146 : szOf Try.prog 146 = some 1 := by kernel_rfl
@[simp] theorem ag146 : aggT Try.prog 146 = some false := by kernel_rfl
@[simp] theorem zz146 : zeroA Try.prog 146 = some (.nilf) := by kernel_rfl
@[simp] theorem sz147 : szOf Try.prog 147 = some 1 := by kernel_rfl
@[simp] theorem ag147 : aggT Try.prog 147 = some false := by kernel_rfl
@[simp] theorem zz147 : zeroA Try.prog 147 = some (.nilf) := by kernel_rfl
@[simp] theorem sz148 : szOf Try.prog 148 = some 1 := by kernel_rfl
@[simp] theorem ag148 : aggT Try.prog 148 = some false := by kernel_rfl
@[simp] theorem sz149 : szOf Try.prog 149 = some 1 := by kernel_rfl
@[simp] theorem ag149 : aggT Try.prog 149 = some false := by kernel_rfl
@[simp] theorem zz149 : zeroA Try.prog 149 = some (.nilf) := by kernel_rfl
@[simp] theorem sz150 : szOf Try.prog 150 = some 1 := by kernel_rfl
@[simp] theorem ag150 : aggT Try.prog 150 = some false := by kernel_rfl
@[simp] theorem zz150 : zeroA Try.prog 150 = some (.nilf) := by kernel_rfl
@[simp] theorem sz151 : szOf Try.prog 151 = some 1 := by kernel_rfl
@[simp] theorem ag151 : aggT Try.prog 151 = some false := by kernel_rfl
@[simp] theorem zz151 : zeroA Try.prog 151 = some (.nilf) := by kernel_rfl
@[simp] theorem sz152 : szOf Try.prog 152 = some 1 := by kernel_rfl
@[simp] theorem ag152 : aggT Try.prog 152 = some false := by kernel_rfl
@[simp] theorem zz152 : zeroA Try.prog 152 = some (.nilf) := by kernel_rfl
@[simp] theorem sz153 : szOf Try.prog 153 = some 1 := by kernel_rfl
@[simp] theorem ag153 : aggT Try.prog 153 = some false := by kernel_rfl
@[simp] theorem zz153 : zeroA Try.prog 153 = some (.nilf) := by kernel_rfl
@[simp] theorem sz154 : szOf Try.prog 154 = some 1 := by kernel_rfl
@[simp] theorem ag154 : aggT Try.prog 154 = some false := by kernel_rfl
@[simp] theorem sz155 : szOf Try.prog 155 = some 1 := by kernel_rfl
@[simp] theorem ag155 : aggT Try.prog 155 = some false := by kernel_rfl
@[simp] theorem zz155 : zeroA Try.prog 155 = some (.nilf) := by kernel_rfl
@[simp] theorem sz156 : szOf Try.prog 156 = some 1 := by kernel_rfl
@[simp] theorem ag156 : aggT Try.prog 156 = some false := by kernel_rfl
@[simp] theorem zz156 : zeroA Try.prog 156 = some (.nilf) := by kernel_rfl
@[simp] theorem sz157 : szOf Try.prog 157 = some 1 := by kernel_rfl
@[simp] theorem ag157 : aggT Try.prog 157 = some false := by kernel_rfl
@[simp] theorem sz158 : szOf Try.prog 158 = some 1 := by kernel_rfl
@[simp] theorem ag158 : aggT Try.prog 158 = some false := by kernel_rfl
@[simp] theorem zz158 : zeroA Try.prog 158 = some (.nilf) := by kernel_rfl
@[simp] theorem sz159 : szOf Try.prog 159 = some 1 := by kernel_rfl
@[simp] theorem ag159 : aggT Try.prog 159 = some false := by kernel_rfl
@[simp] theorem zz159 : zeroA Try.prog 159 = some (.nilf) := by kernel_rfl
@[simp] theorem sz160 : szOf Try.prog 160 = some 1 := by kernel_rfl
@[simp] theorem ag160 : aggT Try.prog 160 = some false := by kernel_rfl
@[simp] theorem zz160 : zeroA Try.prog 160 = some (.nilp) := by kernel_rfl
@[simp] theorem sz161 : szOf Try.prog 161 = some 43 := by kernel_rfl
@[simp] theorem ag161 : aggT Try.prog 161 = some true := by kernel_rfl
@[simp] theorem zz161 : zeroA Try.prog 161 = some (.agg [.int .u64 0, .int .i64 0, .nils, .int .u64 0, .int .i64 0, .int .i64 0, .int .i64 0, .int .u64 0, .nils, .nils, .nils, .int .i64 0, .int .i64 0, .int .i64 0, .int .i64 0, .int .i64 0, .int .i64 0, .int .i64 0, .int .i64 0, .int .i64 0, .int .i64 0, .nils, .nils, .int .i64 0, .int .i64 0, .int .i64 0, .nils, .nils, .int .i64 0, .int .u64 0, .int .i64 0, .int .i64 0, .nils, .nils, .nils, .int .i64 0, .int .i64 0, .int .i64 0, .nils, .nils, .nils, .int .i64 0, .nils]) := by kernel_rfl
@[simp] theorem sz162 : szOf Try.prog 162 = some 43 := by kernel_rfl
@[simp] theorem ag162 : aggT Try.prog 162 = some true := by kernel_rfl
@[simp] theorem zz162 : zeroA Try.prog 162 = some (.agg [.int .u64 0, .int .i64 0, .nils, .int .u64 0, .int .i64 0, .int .i64 0, .int .i64 0, .int .u64 0, .nils, .nils, .nils, .int .i64 0, .int .i64 0, .int .i64 0, .int .i64 0, .int .i64 0, .int .i64 0, .int .i64 0, .int .i64 0, .int .i64 0, .int .i64 0, .nils, .nils, .int .i64 0, .int .i64 0, .int .i64 0, .nils, .nils, .int .i64 0, .int .u64 0, .int .i64 0, .int .i64 0, .nils, .nils, .nils, .int .i64 0, .int .i64 0, .int .i64 0, .nils, .nils, .nils, .int .i64 0, .nils]) := by kernel_rfl
@[simp] theorem sz163 : szOf Try.prog 163 = some 1 := by kernel_rfl
@[simp] theorem ag163 : aggT Try.prog 163 = some false := by kernel_rfl
@[simp] theorem zz163 : zeroA Try.prog 163 = some (.nilf) := by kernel_rfl
@[simp] theorem sz164 : szOf Try.prog 164 = some 1 := by kernel_rfl
@[simp] theorem ag164 : aggT Try.prog 164 = some false := by kernel_rfl
@[simp] theorem zz164 : zeroA Try.prog 164 = some (.nilf) := by kernel_rfl
@[simp] theorem sz165 : szOf Try.prog 165 = some 1 := by kernel_rfl
@[simp] theorem ag165 : aggT Try.prog 165 = some false := by kernel_rfl
@[simp] theorem zz165 : zeroA Try.prog 165 = some (.nilf) := by kernel_rfl
@[simp] theorem sz166 : szOf Try.prog 166 = some 1 := by kernel_rfl
@[simp] theorem ag166 : aggT Try.prog 166 = some false := by kernel_rfl
@[simp] theorem zz166 : zeroA Try.prog 166 = some (.nilf) := by kernel_rfl
@[simp] theorem sz167 : szOf Try.prog 167 = some 1 := by kernel_rfl
@[simp] theorem ag167 : aggT Try.prog 167 = some false := by kernel_rfl
@[simp] theorem zz167 : zeroA Try.prog 167 = some (.nilf) := by kernel_rfl
@[simp] theorem sz168 : szOf Try.prog 168 = some 1 := by kernel_rfl
@[simp] theorem ag168 : aggT Try.prog 168 = some false := by kernel_rfl
@[simp] theorem zz168 : zeroA Try.prog 168 = some (.nilf) := by kernel_rfl
@[simp] theorem sz169 : szOf Try.prog 169 = some 1 := by kernel_rfl
@[simp] theorem ag169 : aggT Try.prog 169 = some false := by kernel_rfl
@[simp] theorem zz169 : zeroA Try.prog 169 = some (.nilf) := by kernel_rfl
@[simp] theorem sz170 : szOf Try.prog 170 = some 1 := by kernel_rfl
@[simp] theorem ag170 : aggT Try.prog 170 = some false := by kernel_rfl
@[simp] theorem zz170 : zeroA Try.prog 170 = some (.nilf) := by kernel_rfl
@[simp] theorem sz171 : szOf Try.prog 171 = some 1 := by kernel_rfl
@[simp] theorem ag171 : aggT Try.prog 171 = some false := by kernel_rfl
@[simp] theorem zz171 : zeroA Try.prog 171 = some (.nilf) := by kernel_rfl
@[simp] theorem sz172 : szOf Try.prog 172 = some 1 := by kernel_rfl
@[simp] theorem ag172 : aggT Try.prog 172 = some false := by kernel_rfl
@[simp] theorem zz172 : zeroA Try.prog 172 = some (.nilf) := by kernel_rfl
@[simp] theorem sz173 : szOf Try.prog 173 = some 1 := by kernel_rfl
@[simp] theorem ag173 : aggT Try.prog 173 = some false := by kernel_rfl
@[simp] theorem zz173 : zeroA Try.prog 173 = some (.nilf) := by kernel_rfl
@[simp] theorem sz174 : szOf Try.prog 174 = some 1 := by kernel_rfl
@[simp] theorem ag174 : aggT Try.prog 174 = some false := by kernel_rfl
@[simp] theorem zz174 : zeroA Try.prog 174 = some (.nilf) := by kernel_rfl
@[simp] theorem sz175 : szOf Try.prog 175 = some 1 := by kernel_rfl
@[simp] theorem ag175 : aggT Try.prog 175 = some false := by kernel_rfl
@[simp] theorem sz176 : szOf Try.prog 176 = some 1 := by kernel_rfl
@[simp] theorem ag176 : aggT Try.prog 176 = some false := by kernel_rfl
@[simp] theorem zz176 : zeroA Try.prog 176 = some (.nilf) := by kernel_rfl
@[simp] theorem sz177 : szOf Try.prog 177 = some 1 := by kernel_rfl
@[simp] theorem ag177 : aggT Try.prog 177 = some false := by kernel_rfl
@[simp] theorem zz177 : zeroA Try.prog 177 = some (.nilf) := by kernel_rfl
@[simp] theorem sz178 : szOf Try.prog 178 = some 1 := by kernel_rfl
@[simp] theorem ag178 : aggT Try.prog 178 = some false := by kernel_rfl
@[simp] theorem zz178 : zeroA Try.prog 178 = some (.nilf) := by kernel_rfl
@[simp] theorem sz179 : szOf Try.prog 179 = some 1 := by kernel_rfl
@[simp] theorem ag179 : aggT Try.prog 179 = some false := by kernel_rfl
@[simp] theorem sz180 : szOf Try.prog 180 = some 1 := by kernel_rfl
@[simp] theorem ag180 : aggT Try.prog 180 = some false := by kernel_rfl
@[simp] theorem zz180 : zeroA Try.prog 180 = some (.nilf) := by kernel_rfl
@[simp] theorem sz181 : szOf Try.prog 181 = some 1 := by kernel_rfl
@[simp] theorem ag181 : aggT Try.prog 181 = some false := by kernel_rfl
@[simp] theorem zz181 : zeroA Try.prog 181 = some (.nilf) := by kernel_rfl
@[simp] theorem sz182 : szOf Try.prog 182 = some 1 := by kernel_rfl
@[simp] theorem ag182 : aggT Try.prog 182 = some false := by kernel_rfl
@[simp] theorem zz182 : zeroA Try.prog 182 = some (.nilf) := by kernel_rfl
@[simp] theorem sz183 : szOf Try.prog 183 = some 1 := by kernel_rfl
@[simp] theorem ag183 : aggT Try.prog 183 = some false := by kernel_rfl
@[simp] theorem zz183 : zeroA Try.prog 183 = some (.nilf) := by kernel_rfl
@[simp] theorem sz184 : szOf Try.prog 184 = some 1 := by kernel_rfl
@[simp] theorem ag184 : aggT Try.prog 184 = some false := by kernel_rfl
@[simp] theorem zz184 : zeroA Try.prog 184 = some (.nilf) := by kernel_rfl
@[simp] theorem sz185 : szOf Try.prog 185 = some 1 := by kernel_rfl
@[simp] theorem ag185 : aggT Try.prog 185 = some false := by kernel_rfl
@[simp] theorem zz185 : zeroA Try.prog 185 = some (.nilf) := by kernel_rfl
@[simp] theorem sz186 : szOf Try.prog 186 = some 1 := by kernel_rfl
@[simp] theorem ag186 : aggT Try.prog 186 = some false := by kernel_rfl
@[simp] theorem zz186 : zeroA Try.prog 186 = some (.nilf) := by kernel_rfl
@[simp] theorem sz187 : szOf Try.prog 187 = some 1 := by kernel_rfl
@[simp] theorem ag187 : aggT Try.prog 187 = some false := by kernel_rfl
@[simp] theorem zz187 : zeroA Try.prog 187 = some (.nilf) := by kernel_rfl
@[simp] theorem sz188 : szOf Try.prog 188 = some 1 := by kernel_rfl
@[simp] theorem ag188 : aggT Try.prog 188 = some false := by kernel_rfl
@[simp] theorem zz188 : zeroA Try.prog 188 = some (.nilf) := by kernel_rfl
@[simp] theorem sz189 : szOf Try.prog 189 = some 1 := by kernel_rfl
@[simp] theorem ag189 : aggT Try.prog 189 = some false := by kernel_rfl
@[simp] theorem zz189 : zeroA Try.prog 189 = some (.nilf) := by kernel_rfl
@[simp] theorem sz190 : szOf Try.prog 190 = some 1 := by kernel_rfl
@[simp] theorem ag190 : aggT Try.prog 190 = some false := by kernel_rfl
@[simp] theorem zz190 : zeroA Try.prog 190 = some (.nilf) := by kernel_rfl
@[simp] theorem sz191 : szOf Try.prog 191 = some 1 := by kernel_rfl
@[simp] theorem ag191 : aggT Try.prog 191 = some false := by kernel_rfl
@[simp] theorem zz191 : zeroA Try.prog 191 = some (.nilf) := by kernel_rfl
@[simp] theorem sz192 : szOf Try.prog 192 = some 1 := by kernel_rfl
@[simp] theorem ag192 : aggT Try.prog 192 = some false := by kernel_rfl
@[simp] theorem zz192 : zeroA Try.prog 192 = some (.nilf) := by kernel_rfl
@[simp] theorem sz193 : szOf Try.prog 193 = some 1 := by kernel_rfl
@[simp] theorem ag193 : aggT Try.prog 193 = some false := by kernel_rfl
@[simp] theorem zz193 : zeroA Try.prog 193 = some (.nilf) := by kernel_rfl
@[simp] theorem sz194 : szOf Try.prog 194 = some 1 := by kernel_rfl
@[simp] theorem ag194 : aggT Try.prog 194 = some false := by kernel_rfl
@[simp] theorem zz194 : zeroA Try.prog 194 = some (.nilf) := by kernel_rfl
@[simp] theorem sz195 : szOf Try.prog 195 = some 1 := by kernel_rfl
@[simp] theorem ag195 : aggT Try.prog 195 = some false := by kernel_rfl
@[simp] theorem zz195 : zeroA Try.prog 195 = some (.nilf) := by kernel_rfl
@[simp] theorem sz196 : szOf Try.prog 196 = some 1 := by kernel_rfl
@[simp] theorem ag196 : aggT Try.prog 196 = some false := by kernel_rfl
@[simp] theorem zz196 : zeroA Try.prog 196 = some (.int .u64 0) := by kernel_rfl
@[simp] theorem sz197 : szOf Try.prog 197 = some 1 := by kernel_rfl
@[simp] theorem ag197 : aggT Try.prog 197 = some false := by kernel_rfl
@[simp] theorem zz197 : zeroA Try.prog 197 = some (.nilf) := by kernel_rfl
@[simp] theorem sz198 : szOf Try.prog 198 = some 1 := by kernel_rfl
@[simp] theorem ag198 : aggT Try.prog 198 = some false := by kernel_rfl
@[simp] theorem zz198 : zeroA Try.prog 198 = some (.nilf) := by kernel_rfl
@[simp] theorem sz199 : szOf Try.prog 199 = some 1 := by kernel_rfl
@[simp] theorem ag199 : aggT Try.prog 199 = some false := by kernel_rfl
@[simp] theorem zz199 : zeroA Try.prog 199 = some (.nilf) := by kernel_rfl
@[simp] theorem sz200 : szOf Try.prog 200 = some 1 := by kernel_rfl
@[simp] theorem ag200 : aggT Try.prog 200 = some false := by kernel_rfl
@[simp] theorem zz200 : zeroA Try.prog 200 = some (.nilf) := by kernel_rfl
@[simp] theorem sz201 : szOf Try.prog 201 = some 1 := by kernel_rfl
@[simp] theorem ag201 : aggT Try.prog 201 = some false := by kernel_rfl
@[simp] theorem zz201 : zeroA Try.prog 201 = some (.nilf) := by kernel_rfl
@[simp] theorem sz202 : szOf Try.prog 202 = some 1 := by kernel_rfl
@[simp] theorem ag202 : aggT Try.prog 202 = some false := by kernel_rfl
@[simp] theorem zz202 : zeroA Try.prog 202 = some (.nilf) := by kernel_rfl
@[simp] theorem sz203 : szOf Try.prog 203 = some 1 := by kernel_rfl
@[simp] theorem ag203 : aggT Try.prog 203 = some false := by kernel_rfl
@[simp] theorem zz203 : zeroA Try.prog 203 = some (.nilf) := by kernel_rfl
@[simp] theorem sz204 : szOf Try.prog 204 = some 1 := by kernel_rfl
@[simp] theorem ag204 : aggT Try.prog 204 = some false := by kernel_rfl
@[simp] theorem zz204 : zeroA Try.prog 204 = some (.nilf) := by kernel_rfl
@[simp] theorem sz205 : szOf Try.prog 205 = some 1 := by kernel_rfl
@[simp] theorem ag205 : aggT Try.prog 205 = some false := by kernel_rfl
@[simp] theorem zz205 : zeroA Try.prog 205 = some (.nilp) := by kernel_rfl
@[simp] theorem sz206 : szOf Try.prog 206 = some 1 := by kernel_rfl
@[simp] theorem ag206 : aggT Try.prog 206 = some false := by kernel_rfl
@[simp] theorem sz207 : szOf Try.prog 207 = some 1 := by kernel_rfl
@[simp] theorem ag207 : aggT Try.prog 207 = some false := by kernel_rfl
@[simp] theorem zz207 : zeroA Try.prog 207 = some (.nilf) := by kernel_rfl
@[simp] theorem sz208 : szOf Try.prog 208 = some 1 := by kernel_rfl
@[simp] theorem ag208 : aggT Try.prog 208 = some false := by kernel_rfl
@[simp] theorem zz208 : zeroA Try.prog 208 = some (.nilf) := by kernel_rfl
@[simp] theorem sz209 : szOf Try.prog 209 = some 1 := by kernel_rfl
@[simp] theorem ag209 : aggT Try.prog 209 = some false := by kernel_rfl
@[simp] theorem zz209 : zeroA Try.prog 209 = some (.nilf) := by kernel_rfl
@[simp] theorem sz210 : szOf Try.prog 210 = some 1 := by kernel_rfl
@[simp] theorem ag210 : aggT Try.prog 210 = some false := by kernel_rfl
@[simp] theorem zz210 : zeroA Try.prog 210 = some (.nilf) := by kernel_rfl
@[simp] theorem sz211 : szOf Try.prog 211 = some 1 := by kernel_rfl
@[simp] theorem ag211 : aggT Try.prog 211 = some false := by kernel_rfl
@[simp] theorem zz211 : zeroA Try.prog 211 = some (.nilf) := by kernel_rfl
@[simp] theorem sz212 : szOf Try.prog 212 = some 1 := by kernel_rfl
@[simp] theorem ag212 : aggT Try.prog 212 = some false := by kernel_rfl
@[simp] theorem zz212 : zeroA Try.prog 212 = some (.nilf) := by kernel_rfl
@[simp] theorem sz213 : szOf Try.prog 213 = some 1 := by kernel_rfl
@[simp] theorem ag213 : aggT Try.prog 213 = some false := by kernel_rfl
@[simp] theorem zz213 : zeroA Try.prog 213 = some (.nilf) := by kernel_rfl
@[simp] theorem sz214 : szOf Try.prog 214 = some 1 := by kernel_rfl
@[simp] theorem ag214 : aggT Try.prog 214 = some false := by kernel_rfl
@[simp] theorem zz214 : zeroA Try.prog 214 = some (.nilf) := by kernel_rfl
@[simp] theorem sz215 : szOf Try.prog 215 = some 1 := by kernel_rfl
@[simp] theorem ag215 : aggT Try.prog 215 = some false := by kernel_rfl
@[simp] theorem zz215 : zeroA Try.prog 215 = some (.nilf) := by kernel_rfl
@[simp] theorem sz216 : szOf Try.prog 216 = some 1 := by kernel_rfl
@[simp] theorem ag216 : aggT Try.prog 216 = some false := by kernel_rfl
@[simp] theorem zz216 : zeroA Try.prog 216 = some (.nilf) := by kernel_rfl
@[simp] theorem sz217 : szOf Try.prog 217 = some 1 := by kernel_rfl
@[simp] theorem ag217 : aggT Try.prog 217 = some false := by kernel_rfl
@[simp] theorem zz217 : zeroA Try.prog 217 = some (.nilf) := by kernel_rfl
@[simp] theorem sz218 : szOf Try.prog 218 = some 1 := by kernel_rfl
@[simp] theorem ag218 : aggT Try.prog 218 = some false := by kernel_rfl
@[simp] theorem zz218 : zeroA Try.prog 218 = some (.nilf) := by kernel_rfl
@[simp] theorem sz219 : szOf Try.prog 219 = some 1 := by kernel_rfl
@[simp] theorem ag219 : aggT Try.prog 219 = some false := by kernel_rfl
@[simp] theorem zz219 : zeroA Try.prog 219 = some (.nilf) := by kernel_rfl
@[simp] theorem sz220 : szOf Try.prog 220 = some 1 := by kernel_rfl
@[simp] theorem ag220 : aggT Try.prog 220 = some false := by kernel_rfl
@[simp] theorem zz220 : zeroA Try.prog 220 = some (.nilf) := by kernel_rfl
@[simp] theorem sz221 : szOf Try.prog 221 = some 1 := by kernel_rfl
@[simp] theorem ag221 : aggT Try.prog 221 = some false := by kernel_rfl
@[simp] theorem zz221 : zeroA Try.prog 221 = some (.nilf) := by kernel_rfl
@[simp] theorem sz222 : szOf Try.prog 222 = some 1 := by kernel_rfl
@[simp] theorem ag222 : aggT Try.prog 222 = some false := by kernel_rfl
@[simp] theorem zz222 : zeroA Try.prog 222 = some (.nilf) := by kernel_rfl
@[simp] theorem sz223 : szOf Try.prog 223 = some 2 := by kernel_rfl
@[simp] theorem ag223 : aggT Try.prog 223 = some true := by kernel_rfl
@[simp] theorem zz223 : zeroA Try.prog 223 = some (.agg [.int .u64 0, .bool false]) := by kernel_rfl
@[simp] theorem sz224 : szOf Try.prog 224 = some 2 := by kernel_rfl
@[simp] theorem ag224 : aggT Try.prog 224 = some true := by kernel_rfl
@[simp] theorem zz224 : zeroA Try.prog 224 = some (.agg [.int .u64 0, .bool false]) := by kernel_rfl
@[simp] theorem sz225 : szOf Try.prog 225 = some 1 := by kernel_rfl
@[simp] theorem ag225 : aggT Try.prog 225 = some false := by kernel_rfl
@[simp] theorem zz225 : zeroA Try.prog 225 = some (.nilf) := by kernel_rfl
@[simp] theorem sz226 : szOf Try.prog 226 = some 4 := by kernel_rfl
@[simp] theorem ag226 : aggT Try.prog 226 = some true := by kernel_rfl
@[simp] theorem zz226 : zeroA Try.prog 226 = some (.agg [.int .i64 0, .int .u64 0, .int .u64 0, .int .i64 0]) := by kernel_rfl
@[simp] theorem sz227 : szOf Try.prog 227 = some 4 := by kernel_rfl
@[simp] theorem ag227 : aggT Try.prog 227 = some true := by kernel_rfl
@[simp] theorem zz227 : zeroA Try.prog 227 = some (.agg [.int .i64 0, .int .u64 0, .int .u64 0, .int .i64 0]) := by kernel_rfl
@[simp] theorem sz228 : szOf Try.prog 228 = some 1 := by kernel_rfl
@[simp] theorem ag228 : aggT Try.prog 228 = some false := by kernel_rfl
@[simp] theorem zz228 : zeroA Try.prog 228 = some (.nilf) := by kernel_rfl
@[simp] theorem sz229 : szOf Try.prog 229 = some 1 := by kernel_rfl
@[simp] theorem ag229 : aggT Try.prog 229 = some false := by kernel_rfl
@[simp] theorem zz229 : zeroA Try.prog 229 = some (.nilf) := by kernel_rfl
@[simp] theorem sz230 : szOf Try.prog 230 = some 1 := by kernel_rfl
@[simp] theorem ag230 : aggT Try.prog 230 = some false := by kernel_rfl
@[simp] theorem zz230 : zeroA Try.prog 230 = some (.nilf) := by kernel_rfl
@[simp] theorem sz231 : szOf Try.prog 231 = some 1 := by kernel_rfl
@[simp] theorem ag231 : aggT Try.prog 231 = some false := by kernel_rfl
@[simp] theorem zz231 : zeroA Try.prog 231 = some (.nilf) := by kernel_rfl
@[simp] theorem sz232 : szOf Try.prog 232 = some 1 := by kernel_rfl
@[simp] theorem ag232 : aggT Try.prog 232 = some false := by kernel_rfl
@[simp] theorem zz232 : zeroA Try.prog 232 = some (.nilf) := by kernel_rfl
@[simp] theorem sz233 : szOf Try.prog 233 = some 1 := by kernel_rfl
@[simp] theorem ag233 : aggT Try.prog 233 = some false := by kernel_rfl
@[simp] theorem zz233 : zeroA Try.prog 233 = some (.nilf) := by kernel_rfl
@[simp] theorem sz234 : szOf Try.prog 234 = some 1 := by kernel_rfl
@[simp] theorem ag234 : aggT Try.prog 234 = some false := by kernel_rfl
@[simp] theorem zz234 : zeroA Try.prog 234 = some (.nilf) := by kernel_rfl
@[simp] theorem sz235 : szOf Try.prog 235 = some 1 := by kernel_rfl
@[simp] theorem ag235 : aggT Try.prog 235 = some false := by kernel_rfl
@[simp] theorem zz235 : zeroA Try.prog 235 = some (.nilf) := by kernel_rfl
@[simp] theorem sz236 : szOf Try.prog 236 = some 1 := by kernel_rfl
@[simp] theorem ag236 : aggT Try.prog 236 = some false := by kernel_rfl
@[simp] theorem zz236 : zeroA Try.prog 236 = some (.nilf) := by kernel_rfl
@[simp] theorem sz237 : szOf Try.prog 237 = some 1 := by kernel_rfl
@[simp] theorem ag237 : aggT Try.prog 237 = some false := by kernel_rfl
@[simp] theorem zz237 : zeroA Try.prog 237 = some (.nilf) := by kernel_rfl
@[simp] theorem sz238 : szOf Try.prog 238 = some 1 := by kernel_rfl
@[simp] theorem ag238 : aggT Try.prog 238 = some false := by kernel_rfl
@[simp] theorem zz238 : zeroA Try.prog 238 = some (.nilf) := by kernel_rfl
@[simp] theorem sz239 : szOf Try.prog 239 = some 1 := by kernel_rfl
@[simp] theorem ag239 : aggT Try.prog 239 = some false := by kernel_rfl
@[simp] theorem zz239 : zeroA Try.prog 239 = some (.nilf) := by kernel_rfl
@[simp] theorem sz240 : szOf Try.prog 240 = some 1 := by kernel_rfl
@[simp] theorem ag240 : aggT Try.prog 240 = some false := by kernel_rfl
@[simp] theorem zz240 : zeroA Try.prog 240 = some (.nilf) := by kernel_rfl
@[simp] theorem sz241 : szOf Try.prog 241 = some 1 := by kernel_rfl
@[simp] theorem ag241 : aggT Try.prog 241 = some false := by kernel_rfl
@[simp] theorem zz241 : zeroA Try.prog 241 = some (.nilf) := by kernel_rfl
@[simp] theorem sz242 : szOf Try.prog 242 = some 1 := by kernel_rfl
@[simp] theorem ag242 : aggT Try.prog 242 = some false := by kernel_rfl
@[simp] theorem zz242 : zeroA Try.prog 242 = some (.nilf) := by kernel_rfl
@[simp] theorem sz243 : szOf Try.prog 243 = some 1 := by kernel_rfl
@[simp] theorem ag243 : aggT Try.prog 243 = some false := by kernel_rfl
@[simp] theorem zz243 : zeroA Try.prog 243 = some (.nilf) := by kernel_rfl
@[simp] theorem sz244 : szOf Try.prog 244 = some 1 := by kernel_rfl
@[simp] theorem ag244 : aggT Try.prog 244 = some false := by kernel_rfl
@[simp] theorem zz244 : zeroA Try.prog 244 = some (.nilf) := by kernel_rfl
@[simp] theorem sz245 : szOf Try.prog 245 = some 1 := by kernel_rfl
@[simp] theorem ag245 : aggT Try.prog 245 = some false := by kernel_rfl
@[simp] theorem zz245 : zeroA Try.prog 245 = some (.nilf) := by kernel_rfl
@[simp] theorem sz246 : szOf Try.prog 246 = some 1 := by kernel_rfl
@[simp] theorem ag246 : aggT Try.prog 246 = some false := by kernel_rfl
@[simp] theorem zz246 : zeroA Try.prog 246 = some (.nilf) := by kernel_rfl
@[simp] theorem sz247 : szOf Try.prog 247 = some 1 := by kernel_rfl
@[simp] theorem ag247 : aggT Try.prog 247 = some false := by kernel_rfl
@[simp] theorem sz248 : szOf Try.prog 248 = some 1 := by kernel_rfl
@[simp] theorem ag248 : aggT Try.prog 248 = some false := by kernel_rfl
@[simp] theorem zz248 : zeroA Try.prog 248 = some (.nilf) := by kernel_rfl
@[simp] theorem sz249 : szOf Try.prog 249 = some 1 := by kernel_rfl
@[simp] theorem ag249 : aggT Try.prog 249 = some false := by kernel_rfl
@[simp] theorem zz249 : zeroA Try.prog 249 = some (.nilf) := by kernel_rfl
@[simp] theorem sz250 : szOf Try.prog 250 = some 1 := by kernel_rfl
@[simp] theorem ag250 : aggT Try.prog 250 = some false := by kernel_rfl
@[simp] theorem zz250 : zeroA Try.prog 250 = some (.nilf) := by kernel_rfl
@[simp] theorem sz251 : szOf Try.prog 251 = some 4 := by kernel_rfl
@[simp] theorem ag251 : aggT Try.prog 251 = some true := by kernel_rfl
@[simp] theorem zz251 : zeroA Try.prog 251 = some (.agg [.int .i64 0, .int .i64 0, .int .i64 0, .int .i64 0]) := by kernel_rfl
@[simp] theorem sz252 : szOf Try.prog 252 = some 4 := by kernel_rfl
@[simp] theorem ag252 : aggT Try.prog 252 = some true := by kernel_rfl
@[simp] theorem zz252 : zeroA Try.prog 252 = some (.agg [.int .i64 0, .int .i64 0, .int .i64 0, .int .i64 0]) := by kernel_rfl
@[simp] theorem sz253 : szOf Try.prog 253 = some 1 := by kernel_rfl
@[simp] theorem ag253 : aggT Try.prog 253 = some false := by kernel_rfl
@[simp] theorem zz253 : zeroA Try.prog 253 = some (.nilf) := by kernel_rfl
@[simp] theorem sz254 : szOf Try.prog 254 = some 1 := by kernel_rfl
@[simp] theorem ag254 : aggT Try.prog 254 = some false := by kernel_rfl
@[simp] theorem zz254 : zeroA Try.prog 254 = some (.nilf) := by kernel_rfl
@[simp] theorem sz255 : szOf Try.prog 255 = some 1 := by kernel_rfl
@[simp] theorem ag255 : aggT Try.prog 255 = some false := by kernel_rfl
@[simp] theorem zz255 : zeroA Try.prog 255 = some (.nilf) := by kernel_rfl
@[simp] theorem sz256 : szOf Try.prog 256 = some 1 := by kernel_rfl
@[simp] theorem ag256 : aggT Try.prog 256 = some false := by kernel_rfl
@[simp] theorem zz256 : zeroA Try.prog 256 = some (.nilf) := by kernel_rfl
@[simp] theorem sz257 : szOf Try.prog 257 = some 1 := by kernel_rfl
@[simp] theorem ag257 : aggT Try.prog 257 = some false := by kernel_rfl
@[simp] theorem zz257 : zeroA Try.prog 257 = some (.nilf) := by kernel_rfl
@[simp] theorem sz258 : szOf Try.prog 258 = some 1 := by kernel_rfl
@[simp] theorem ag258 : aggT Try.prog 258 = some false := by kernel_rfl
@[simp] theorem zz258 : zeroA Try.prog 258 = some (.nilf) := by kernel_rfl
@[simp] theorem sz259 : szOf Try.prog 259 = some 1 := by kernel_rfl
@[simp] theorem ag259 : aggT Try.prog 259 = some false := by kernel_rfl
@[simp] theorem zz259 : zeroA Try.prog 259 = some (.nilf) := by kernel_rfl
@[simp] theorem sz260 : szOf Try.prog 260 = some 1 := by kernel_rfl
@[simp] theorem ag260 : aggT Try.prog 260 = some false := by kernel_rfl
@[simp] theorem zz260 : zeroA Try.prog 260 = some (.nilf) := by kernel_rfl
@[simp] theorem sz261 : szOf Try.prog 261 = some 1 := by kernel_rfl
@[simp] theorem ag261 : aggT Try.prog 261 = some false := by kernel_rfl
@[simp] theorem zz261 : zeroA Try.prog 261 = some (.nilf) := by kernel_rfl
@[simp] theorem sz262 : szOf Try.prog 262 = some 1 := by kernel_rfl
@[simp] theorem ag262 : aggT Try.prog 262 = some false := by kernel_rfl
@[simp] theorem zz262 : zeroA Try.prog 262 = some (.nilf) := by kernel_rfl
@[simp] theorem sz263 : szOf Try.prog 263 = some 1 := by kernel_rfl
@[simp] theorem ag263 : aggT Try.prog 263 = some false := by kernel_rfl
@[simp] theorem zz263 : zeroA Try.prog 263 = some (.int .i64 0) := by kernel_rfl
@[simp] theorem sz264 : szOf Try.prog 264 = some 1 := by kernel_rfl
@[simp] theorem ag264 : aggT Try.prog 264 = some false := by kernel_rfl
@[simp] theorem sz265 : szOf Try.prog 265 = some 1 := by kernel_rfl
@[simp] theorem ag265 : aggT Try.prog 265 = some false := by kernel_rfl
@[simp] theorem zz265 : zeroA Try.prog 265 = some (.nilf) := by kernel_rfl
@[simp] theorem sz266 : szOf Try.prog 266 = some 1 := by kernel_rfl
@[simp] theorem ag266 : aggT Try.prog 266 = some false := by kernel_rfl
@[simp] theorem zz266 : zeroA Try.prog 266 = some (.nilf) := by kernel_rfl
@[simp] theorem sz267 : szOf Try.prog 267 = some 1 := by kernel_rfl
@[simp] theorem ag267 : aggT Try.prog 267 = some false := by kernel_rfl
@[simp] theorem zz267 : zeroA Try.prog 267 = some (.nilf) := by kernel_rfl
@[simp] theorem sz268 : szOf Try.prog 268 = some 1 := by kernel_rfl
@[simp] theorem ag268 : aggT Try.prog 268 = some false := by kernel_rfl
@[simp] theorem zz268 : zeroA Try.prog 268 = some (.nilf) := by kernel_rfl
@[simp] theorem sz269 : szOf Try.prog 269 = some 1 := by kernel_rfl
@[simp] theorem ag269 : aggT Try.prog 269 = some false := by kernel_rfl
@[simp] theorem zz269 : zeroA Try.prog 269 = some (.nilf) := by kernel_rfl
@[simp] theorem sz270 : szOf Try.prog 270 = some 1 := by kernel_rfl
@[simp] theorem ag270 : aggT Try.prog 270 = some false := by kernel_rfl
@[simp] theorem zz270 : zeroA Try.prog 270 = some (.int .u32 0) := by kernel_rfl
@[simp] theorem sz271 : szOf Try.prog 271 = some 1 := by kernel_rfl
@[simp] theorem ag271 : aggT Try.prog 271 = some false := by kernel_rfl
@[simp] theorem zz271 : zeroA Try.prog 271 = some (.nilf) := by kernel_rfl
@[simp] theorem sz272 : szOf Try.prog 272 = some 1 := by kernel_rfl
@[simp] theorem ag272 : aggT Try.prog 272 = some false := by kernel_rfl
@[simp] theorem zz272 : zeroA Try.prog 272 = some (.nilf) := by kernel_rfl
@[simp] theorem sz273 : szOf Try.prog 273 = some 1 := by kernel_rfl
@[simp] theorem ag273 : aggT Try.prog 273 = some false := by kernel_rfl
@[simp] theorem zz273 : zeroA Try.prog 273 = some (.int .u64 0) := by kernel_rfl
@[simp] theorem sz274 : szOf Try.prog 274 = some 1 := by kernel_rfl
@[simp] theorem ag274 : aggT Try.prog 274 = some false := by kernel_rfl
@[simp] theorem zz274 : zeroA Try.prog 274 = some (.nilf) := by kernel_rfl
@[simp] theorem sz275 : szOf Try.prog 275 = some 1 := by kernel_rfl
@[simp] theorem ag275 : aggT Try.prog 275 = some false := by kernel_rfl
@[simp] theorem zz275 : zeroA Try.prog 275 = some (.nilf) := by kernel_rfl
@[simp] theorem sz276 : szOf Try.prog 276 = some 1 := by kernel_rfl
@[simp] theorem ag276 : aggT Try.prog 276 = some false := by kernel_rfl
@[simp] theorem zz276 : zeroA Try.prog 276 = some (.nilf) := by kernel_rfl
@[simp] theorem sz277 : szOf Try.prog 277 = some 1 := by kernel_rfl
@[simp] theorem ag277 : aggT Try.prog 277 = some false := by kernel_rfl
@[simp] theorem zz277 : zeroA Try.prog 277 = some (.nilp) := by kernel_rfl
@[simp] theorem sz278 : szOf Try.prog 278 = some 1 := by kernel_rfl
@[simp] theorem ag278 : aggT Try.prog 278 = some false := by kernel_rfl
@[simp] theorem zz278 : zeroA Try.prog 278 = some (.nilf) := by kernel_rfl
@[simp] theorem sz279 : szOf Try.prog 279 = some 1 := by kernel_rfl
@[simp] theorem ag279 : aggT Try.prog 279 = some false := by kernel_rfl
@[simp] theorem zz279 : zeroA Try.prog 279 = some (.nilp) := by kernel_rfl
@[simp] theorem sz280 : szOf Try.prog 280 = some 1 := by kernel_rfl
@[simp] theorem ag280 : aggT Try.prog 280 = some false := by kernel_rfl
@[simp] theorem sz281 : szOf Try.prog 281 = some 1 := by kernel_rfl
@[simp] theorem ag281 : aggT Try.prog 281 = some false := by kernel_rfl
@[simp] theorem zz281 : zeroA Try.prog 281 = some (.nilf) := by kernel_rfl
@[simp] theorem sz282 : szOf Try.prog 282 = some 1 := by kernel_rfl
@[simp] theorem ag282 : aggT Try.prog 282 = some false := by kernel_rfl
@[simp] theorem zz282 : zeroA Try.prog 282 = some (.nilf) := by kernel_rfl
@[simp] theorem sz283 : szOf Try.prog 283 = some 4 := by kernel_rfl
@[simp] theorem ag283 : aggT Try.prog 283 = some true := by kernel_rfl
@[simp] theorem zz283 : zeroA Try.prog 283 = some (.agg [.nilp, .nilp, .nilp, .str ByteArray.empty]) := by kernel_rfl
@[simp] theorem sz284 : szOf Try.prog 284 = some 4 := by kernel_rfl
@[simp] theorem ag284 : aggT Try.prog 284 = some true := by kernel_rfl
@[simp] theorem zz284 : zeroA Try.prog 284 = some (.agg [.nilp, .nilp, .nilp, .str ByteArray.empty]) := by kernel_rfl
@[simp] theorem sz285 : szOf Try.prog 285 = some 0 := by kernel_rfl
@[simp] theorem ag285 : aggT Try.prog 285 = some true := by kernel_rfl
@[simp] theorem zz285 : zeroA Try.prog 285 = some (.agg []) := by kernel_rfl
@[simp] theorem sz286 : szOf Try.prog 286 = some 0 := by kernel_rfl
@[simp] theorem ag286 : aggT Try.prog 286 = some true := by kernel_rfl
@[simp] theorem zz286 : zeroA Try.prog 286 = some (.agg []) := by kernel_rfl
@[simp] theorem sz287 : szOf Try.prog 287 = some 0 := by kernel_rfl
@[simp] theorem ag287 : aggT Try.prog 287 = some true := by kernel_rfl
@[simp] theorem zz287 : zeroA Try.prog 287 = some (.agg []) := by kernel_rfl
@[simp] theorem sz288 : szOf Try.prog 288 = some 1 := by kernel_rfl
@[simp] theorem ag288 : aggT Try.prog 288 = some false := by kernel_rfl
@[simp] theorem zz288 : zeroA Try.prog 288 = some (.nilf) := by kernel_rfl
@[simp] theorem sz289 : szOf Try.prog 289 = some 1 := by kernel_rfl
@[simp] theorem ag289 : aggT Try.prog 289 = some false := by kernel_rfl
@[simp] theorem zz289 : zeroA Try.prog 289 = some (.int .u8 0) := by kernel_rfl
@[simp] theorem sz290 : szOf Try.prog 290 = some 1 := by kernel_rfl
@[simp] theorem ag290 : aggT Try.prog 290 = some false := by kernel_rfl
@[simp] theorem zz290 : zeroA Try.prog 290 = some (.int .u8 0) := by kernel_rfl
@[simp] theorem sz291 : szOf Try.prog 291 = some 1 := by kernel_rfl
@[simp] theorem ag291 : aggT Try.prog 291 = some false := by kernel_rfl
@[simp] theorem zz291 : zeroA Try.prog 291 = some (.nilf) := by kernel_rfl
@[simp] theorem sz292 : szOf Try.prog 292 = some 1 := by kernel_rfl
@[simp] theorem ag292 : aggT Try.prog 292 = some false := by kernel_rfl
@[simp] theorem zz292 : zeroA Try.prog 292 = some (.nilp) := by kernel_rfl
@[simp] theorem sz293 : szOf Try.prog 293 = some 1 := by kernel_rfl
@[simp] theorem ag293 : aggT Try.prog 293 = some false := by kernel_rfl
@[simp] theorem zz293 : zeroA Try.prog 293 = some (.int .i32 0) := by kernel_rfl
@[simp] theorem sz294 : szOf Try.prog 294 = some 1 := by kernel_rfl
@[simp] theorem ag294 : aggT Try.prog 294 = some false := by kernel_rfl
@[simp] theorem zz294 : zeroA Try.prog 294 = some (.int .i32 0) := by kernel_rfl
@[simp] theorem sz295 : szOf Try.prog 295 = some 11 := by kernel_rfl
@[simp] theorem ag295 : aggT Try.prog 295 = some true := by kernel_rfl
@[simp] theorem zz295 : zeroA Try.prog 295 = some (.agg [.int .u64 0, .int .u64 0, .int .u32 0, .int .u8 0, .int .u8 0, .int .u8 0, .int .u8 0, .nilf, .nilp, .int .i32 0, .int .i32 0]) := by kernel_rfl
@[simp] theorem sz296 : szOf Try.prog 296 = some 11 := by kernel_rfl
@[simp] theorem ag296 : aggT Try.prog 296 = some true := by kernel_rfl
@[simp] theorem zz296 : zeroA Try.prog 296 = some (.agg [.int .u64 0, .int .u64 0, .int .u32 0, .int .u8 0, .int .u8 0, .int .u8 0, .int .u8 0, .nilf, .nilp, .int .i32 0, .int .i32 0]) := by kernel_rfl
@[simp] theorem sz297 : szOf Try.prog 297 = some 1 := by kernel_rfl
@[simp] theorem ag297 : aggT Try.prog 297 = some false := by kernel_rfl
@[simp] theorem zz297 : zeroA Try.prog 297 = some (.nilp) := by kernel_rfl
@[simp] theorem ap22 : apT Try.prog 22 = some (5, 1, 1) := by kernel_rfl
@[simp] theorem ap24 : apT Try.prog 24 = some (123, 4, 48) := by kernel_rfl
@[simp] theorem ap31 : apT Try.prog 31 = some (30, 1, 8) := by kernel_rfl
@[simp] theorem ap32 : apT Try.prog 32 = some (252, 4, 32) := by kernel_rfl
@[simp] theorem ap33 : apT Try.prog 33 = some (9, 1, 16) := by kernel_rfl
@[simp] theorem ap39 : apT Try.prog 39 = some (224, 2, 16) := by kernel_rfl
@[simp] theorem ap40 : apT Try.prog 40 = some (227, 4, 32) := by kernel_rfl
@[simp] theorem ap43 : apT Try.prog 43 = some (2, 1, 8) := by kernel_rfl
@[simp] theorem ap46 : apT Try.prog 46 = some (137, 3, 48) := by kernel_rfl
@[simp] theorem ap61 : apT Try.prog 61 = some (45, 2, 16) := by kernel_rfl
@[simp] theorem ap67 : apT Try.prog 67 = some (77, 41, 496) := by kernel_rfl
@[simp] theorem ap70 : apT Try.prog 70 = some (3, 1, 8) := by kernel_rfl
@[simp] theorem ap79 : apT Try.prog 79 = some (69, 2, 32) := by kernel_rfl
@[simp] theorem ap83 : apT Try.prog 83 = some (48, 36, 464) := by kernel_rfl
@[simp] theorem ap86 : apT Try.prog 86 = some (70, 1, 24) := by kernel_rfl
@[simp] theorem ap87 : apT Try.prog 87 = some (50, 45, 536) := by kernel_rfl
@[simp] theorem ap93 : apT Try.prog 93 = some (117, 41, 552) := by kernel_rfl
@[simp] theorem ap115 : apT Try.prog 115 = some (120, 2, 16) := by kernel_rfl
@[simp] theorem bt4 : boolT Try.prog 4 = true := by kernel_rfl
@[simp] theorem lf7 : leafs Try.prog 7 = [2, 3, 4, 6] := by kernel_rfl
@[simp] theorem lf8 : leafs Try.prog 8 = [2, 3, 4, 6] := by kernel_rfl
@[simp] theorem lf13 : leafs Try.prog 13 = [9, 12] := by kernel_rfl
@[simp] theorem lf14 : leafs Try.prog 14 = [9, 12] := by kernel_rfl
@[simp] theorem lf18 : leafs Try.prog 18 = [17] := by kernel_rfl
@[simp] theorem lf19 : leafs Try.prog 19 = [17] := by kernel_rfl
@[simp] theorem nvn22 : nrmV Try.prog 22 .nils = .list 1 [] := by kernel_rfl
@[simp] theorem nvl22 (s : Nat) (rows : List (List AV)) : nrmV Try.prog 22 (.list s rows) = .list s (nrmRows Try.prog [5] rows) := by
  have h : Try.prog.underlying 22 = some (.slice 5) := by kernel_rfl
  have l : leafs Try.prog 5 = [5] := by kernel_rfl
  simp only [nrmV, h, l]
@[simp] theorem lf22 : leafs Try.prog 22 = [22] := by kernel_rfl
@[simp] theorem nvn24 : nrmV Try.prog 24 .nils = .list 4 [] := by kernel_rfl
@[simp] theorem nvl24 (s : Nat) (rows : List (List AV)) : nrmV Try.prog 24 (.list s rows) = .list s (nrmRows Try.prog [3, 3, 4, 87] rows) := by
  have h : Try.prog.underlying 24 = some (.slice 123) := by kernel_rfl
  have l : leafs Try.prog 123 = [3, 3, 4, 87] := by kernel_rfl
  simp only [nrmV, h, l]
@[simp] theorem lf24 : leafs Try.prog 24 = [24] := by kernel_rfl
@[simp] theorem lf25 : leafs Try.prog 25 = [24] := by kernel_rfl
@[simp] theorem lf26 : leafs Try.prog 26 = [24] := by kernel_rfl
@[simp] theorem nvn31 : nrmV Try.prog 31 .nils = .list 1 [] := by kernel_rfl
@[simp] theorem nvl31 (s : Nat) (rows : List (List AV)) : nrmV Try.prog 31 (.list s rows) = .list s (nrmRows Try.prog [30] rows) := by
  have h : Try.prog.underlying 31 = some (.slice 30) := by kernel_rfl
  have l : leafs Try.prog 30 = [30] := by kernel_rfl
  simp only [nrmV, h, l]
@[simp] theorem lf31 : leafs Try.prog 31 = [31] := by kernel_rfl
@[simp] theorem nvn32 : nrmV Try.prog 32 .nils = .list 4 [] := by kernel_rfl
@[simp] theorem nvl32 (s : Nat) (rows : List (List AV)) : nrmV Try.prog 32 (.list s rows) = .list s (nrmRows Try.prog [3, 3, 3, 3] rows) := by
  have h : Try.prog.underlying 32 = some (.slice 252) := by kernel_rfl
  have l : leafs Try.prog 252 = [3, 3, 3, 3] := by kernel_rfl
  simp only [nrmV, h, l]
@[simp] theorem lf32 : leafs Try.prog 32 = [32] := by kernel_rfl
@[simp] theorem nvn33 : nrmV Try.prog 33 .nils = .list 1 [] := by kernel_rfl
@[simp] theorem nvl33 (s : Nat) (rows : List (List AV)) : nrmV Try.prog 33 (.list s rows) = .list s (nrmRows Try.prog [9] rows) := by
  have h : Try.prog.underlying 33 = some (.slice 9) := by kernel_rfl
  have l : leafs Try.prog 9 = [9] := by kernel_rfl
  simp only [nrmV, h, l]
@[simp] theorem lf33 : leafs Try.prog 33 = [33] := by kernel_rfl
@[simp] theorem lf34 : leafs Try.prog 34 = [32, 33, 3] := by kernel_rfl
@[simp] theorem lf35 : leafs Try.prog 35 = [32, 33, 3] := by kernel_rfl
@[simp] theorem lf36 : leafs Try.prog 36 = [2, 2, 2, 2, 2, 2, 2, 2] := by kernel_rfl
@[simp] theorem lf37 : leafs Try.prog 37 = [3, 2, 2, 2, 2, 2, 2, 2, 2] := by kernel_rfl
@[simp] theorem lf38 : leafs Try.prog 38 = [3, 2, 2, 2, 2, 2, 2, 2, 2] := by kernel_rfl
@[simp] theorem nvn39 : nrmV Try.prog 39 .nils = .list 2 [] := by kernel_rfl
@[simp] theorem nvl39 (s : Nat) (rows : List (List AV)) : nrmV Try.prog 39 (.list s rows) = .list s (nrmRows Try.prog [30, 4] rows) := by
  have h : Try.prog.underlying 39 = some (.slice 224) := by kernel_rfl
  have l : leafs Try.prog 224 = [30, 4] := by kernel_rfl
  simp only [nrmV, h, l]
@[simp] theorem lf39 : leafs Try.prog 39 = [39] := by kernel_rfl
@[simp] theorem nvn40 : nrmV Try.prog 40 .nils = .list 4 [] := by kernel_rfl
@[simp] theorem nvl40 (s : Nat) (rows : List (List AV)) : nrmV Try.prog 40 (.list s rows) = .list s (nrmRows Try.prog [3, 30, 30, 3] rows) := by
  have h : Try.prog.underlying 40 = some (.slice 227) := by kernel_rfl
  have l : leafs Try.prog 227 = [3, 30, 30, 3] := by kernel_rfl
  simp only [nrmV, h, l]
@[simp] theorem lf40 : leafs Try.prog 40 = [40] := by kernel_rfl
@[simp] theorem lf41 : leafs Try.prog 41 = [3, 30, 31, 32, 33, 3, 3, 2, 2, 2, 2, 2, 2, 2, 2, 39, 40, 2, 2, 2] := by kernel_rfl
@[simp] theorem lf42 : leafs Try.prog 42 = [3, 30, 31, 32, 33, 3, 3, 2, 2, 2, 2, 2, 2, 2, 2, 39, 40, 2, 2, 2] := by kernel_rfl
@[simp] theorem nvn43 : nrmV Try.prog 43 .nils = .list 1 [] := by kernel_rfl
@[simp] theorem nvl43 (s : Nat) (rows : List (List AV)) : nrmV Try.prog 43 (.list s rows) = .list s (nrmRows Try.prog [2] rows) := by
  have h : Try.prog.underlying 43 = some (.slice 2) := by kernel_rfl
  have l : leafs Try.prog 2 = [2] := by kernel_rfl
  simp only [nrmV, h, l]
@[simp] theorem lf43 : leafs Try.prog 43 = [43] := by kernel_rfl
@[simp] theorem lf44 : leafs Try.prog 44 = [22, 22] := by kernel_rfl
@[simp] theorem lf45 : leafs Try.prog 45 = [3, 3] := by kernel_rfl
@[simp] theorem nvn46 : nrmV Try.prog 46 .nils = .list 3 [] := by kernel_rfl
@[simp] theorem nvl46 (s : Nat) (rows : List (List AV)) : nrmV Try.prog 46 (.list s rows) = .list s (nrmRows Try.prog [9, 3, 31] rows) := by
  have h : Try.prog.underlying 46 = some (.slice 137) := by kernel_rfl
  have l : leafs Try.prog 137 = [9, 3, 31] := by kernel_rfl
  simp only [nrmV, h, l]
@[simp] theorem lf46 : leafs Try.prog 46 = [46] := by kernel_rfl
@[simp] theorem lf47 : leafs Try.prog 47 = [30, 3, 3, 3, 30, 31, 32, 33, 3, 3, 2, 2, 2, 2, 2, 2, 2, 2, 39, 40, 2, 2, 2, 43, 22, 3, 30, 3, 3, 31, 22, 22, 3, 3, 2, 46] := by kernel_rfl
@[simp] theorem lf48 : leafs Try.prog 48 = [30, 3, 3, 3, 30, 31, 32, 33, 3, 3, 2, 2, 2, 2, 2, 2, 2, 2, 39, 40, 2, 2, 2, 43, 22, 3, 30, 3, 3, 31, 22, 22, 3, 3, 2, 46] := by kernel_rfl
@[simp] theorem lf49 : leafs Try.prog 49 = [3, 3, 3, 30, 3, 30, 3, 3, 3, 30, 31, 32, 33, 3, 3, 2, 2, 2, 2, 2, 2, 2, 2, 39, 40, 2, 2, 2, 43, 22, 3, 30, 3, 3, 31, 22, 22, 3, 3, 2, 46, 30, 2, 30, 3] := by kernel_rfl
@[simp] theorem lf50 : leafs Try.prog 50 = [3, 3, 3, 30, 3, 30, 3, 3, 3, 30, 31, 32, 33, 3, 3, 2, 2, 2, 2, 2, 2, 2, 2, 39, 40, 2, 2, 2, 43, 22, 3, 30, 3, 3, 31, 22, 22, 3, 3, 2, 46, 30, 2, 30, 3] := by kernel_rfl
@[simp] theorem nvn61 : nrmV Try.prog 61 .nils = .list 2 [] := by kernel_rfl
@[simp] theorem nvl61 (s : Nat) (rows : List (List AV)) : nrmV Try.prog 61 (.list s rows) = .list s (nrmRows Try.prog [3, 3] rows) := by
  have h : Try.prog.underlying 61 = some (.slice 45) := by kernel_rfl
  have l : leafs Try.prog 45 = [3, 3] := by kernel_rfl
  simp only [nrmV, h, l]
@[simp] theorem lf61 : leafs Try.prog 61 = [61] := by kernel_rfl
@[simp] theorem nvn67 : nrmV Try.prog 67 .nils = .list 41 [] := by kernel_rfl
@[simp] theorem nvl67 (s : Nat) (rows : List (List AV)) : nrmV Try.prog 67 (.list s rows) = .list s (nrmRows Try.prog [30, 3, 30, 3, 3, 3, 30, 31, 32, 33, 3, 3, 2, 2, 2, 2, 2, 2, 2, 2, 39, 40, 2, 2, 2, 43, 22, 3, 30, 3, 3, 31, 22, 22, 3, 3, 2, 46, 3, 4, 4] rows) := by
  have h : Try.prog.underlying 67 = some (.slice 77) := by kernel_rfl
  have l : leafs Try.prog 77 = [30, 3, 30, 3, 3, 3, 30, 31, 32, 33, 3, 3, 2, 2, 2, 2, 2, 2, 2, 2, 39, 40, 2, 2, 2, 43, 22, 3, 30, 3, 3, 31, 22, 22, 3, 3, 2, 46, 3, 4, 4] := by kernel_rfl
  simp only [nrmV, h, l]
@[simp] theorem lf67 : leafs Try.prog 67 = [67] := by kernel_rfl
@[simp] theorem lf68 : leafs Try.prog 68 = [3, 67] := by kernel_rfl
@[simp] theorem lf69 : leafs Try.prog 69 = [3, 67] := by kernel_rfl
@[simp] theorem nvn70 : nrmV Try.prog 70 .nils = .list 1 [] := by kernel_rfl
@[simp] theorem nvl70 (s : Nat) (rows : List (List AV)) : nrmV Try.prog 70 (.list s rows) = .list s (nrmRows Try.prog [3] rows) := by
  have h : Try.prog.underlying 70 = some (.slice 3) := by kernel_rfl
  have l : leafs Try.prog 3 = [3] := by kernel_rfl
  simp only [nrmV, h, l]
@[simp] theorem lf70 : leafs Try.prog 70 = [70] := by kernel_rfl
@[simp] theorem lf76 : leafs Try.prog 76 = [30, 3, 30, 3, 3, 3, 30, 31, 32, 33, 3, 3, 2, 2, 2, 2, 2, 2, 2, 2, 39, 40, 2, 2, 2, 43, 22, 3, 30, 3, 3, 31, 22, 22, 3, 3, 2, 46, 3, 4, 4] := by kernel_rfl
@[simp] theorem lf77 : leafs Try.prog 77 = [30, 3, 30, 3, 3, 3, 30, 31, 32, 33, 3, 3, 2, 2, 2, 2, 2, 2, 2, 2, 39, 40, 2, 2, 2, 43, 22, 3, 30, 3, 3, 31, 22, 22, 3, 3, 2, 46, 3, 4, 4] := by kernel_rfl
@[simp] theorem nvn79 : nrmV Try.prog 79 .nils = .list 2 [] := by kernel_rfl
@[simp] theorem nvl79 (s : Nat) (rows : List (List AV)) : nrmV Try.prog 79 (.list s rows) = .list s (nrmRows Try.prog [3, 67] rows) := by
  have h : Try.prog.underlying 79 = some (.slice 69) := by kernel_rfl
  have l : leafs Try.prog 69 = [3, 67] := by kernel_rfl
  simp only [nrmV, h, l]
@[simp] theorem lf79 : leafs Try.prog 79 = [79] := by kernel_rfl
@[simp] theorem nvn83 : nrmV Try.prog 83 .nils = .list 36 [] := by kernel_rfl
@[simp] theorem nvl83 (s : Nat) (rows : List (List AV)) : nrmV Try.prog 83 (.list s rows) = .list s (nrmRows Try.prog [30, 3, 3, 3, 30, 31, 32, 33, 3, 3, 2, 2, 2, 2, 2, 2, 2, 2, 39, 40, 2, 2, 2, 43, 22, 3, 30, 3, 3, 31, 22, 22, 3, 3, 2, 46] rows) := by
  have h : Try.prog.underlying 83 = some (.slice 48) := by kernel_rfl
  have l : leafs Try.prog 48 = [30, 3, 3, 3, 30, 31, 32, 33, 3, 3, 2, 2, 2, 2, 2, 2, 2, 2, 39, 40, 2, 2, 2, 43, 22, 3, 30, 3, 3, 31, 22, 22, 3, 3, 2, 46] := by kernel_rfl
  simp only [nrmV, h, l]
@[simp] theorem lf83 : leafs Try.prog 83 = [83] := by kernel_rfl
@[simp] theorem nvn86 : nrmV Try.prog 86 .nils = .list 1 [] := by kernel_rfl
@[simp] theorem nvl86 (s : Nat) (rows : List (List AV)) : nrmV Try.prog 86 (.list s rows) = .list s (nrmRows Try.prog [70] rows) := by
  have h : Try.prog.underlying 86 = some (.slice 70) := by kernel_rfl
  have l : leafs Try.prog 70 = [70] := by kernel_rfl
  simp only [nrmV, h, l]
@[simp] theorem lf86 : leafs Try.prog 86 = [86] := by kernel_rfl
@[simp] theorem nvn87 : nrmV Try.prog 87 .nils = .list 45 [] := by kernel_rfl
@[simp] theorem nvl87 (s : Nat) (rows : List (List AV)) : nrmV Try.prog 87 (.list s rows) = .list s (nrmRows Try.prog [3, 3, 3, 30, 3, 30, 3, 3, 3, 30, 31, 32, 33, 3, 3, 2, 2, 2, 2, 2, 2, 2, 2, 39, 40, 2, 2, 2, 43, 22, 3, 30, 3, 3, 31, 22, 22, 3, 3, 2, 46, 30, 2, 30, 3] rows) := by
  have h : Try.prog.underlying 87 = some (.slice 50) := by kernel_rfl
  have l : leafs Try.prog 50 = [3, 3, 3, 30, 3, 30, 3, 3, 3, 30, 31, 32, 33, 3, 3, 2, 2, 2, 2, 2, 2, 2, 2, 39, 40, 2, 2, 2, 43, 22, 3, 30, 3, 3, 31, 22, 22, 3, 3, 2, 46, 30, 2, 30, 3] := by kernel_rfl
  simp only [nrmV, h, l]
@[simp] theorem lf87 : leafs Try.prog 87 = [87] := by kernel_rfl
@[simp] theorem nvn93 : nrmV Try.prog 93 .nils = .list 41 [] := by kernel_rfl
@[simp] theorem nvl93 (s : Nat) (rows : List (List AV)) : nrmV Try.prog 93 (.list s rows) = .list s (nrmRows Try.prog [30, 3, 70, 30, 3, 3, 3, 30, 31, 32, 33, 3, 3, 2, 2, 2, 2, 2, 2, 2, 2, 39, 40, 2, 2, 2, 43, 22, 3, 30, 3, 3, 31, 22, 22, 3, 3, 2, 46, 70, 115] rows) := by
  have h : Try.prog.underlying 93 = some (.slice 117) := by kernel_rfl
  have l : leafs Try.prog 117 = [30, 3, 70, 30, 3, 3, 3, 30, 31, 32, 33, 3, 3, 2, 2, 2, 2, 2, 2, 2, 2, 39, 40, 2, 2, 2, 43, 22, 3, 30, 3, 3, 31, 22, 22, 3, 3, 2, 46, 70, 115] := by kernel_rfl
  simp only [nrmV, h, l]
@[simp] theorem lf93 : leafs Try.prog 93 = [93] := by kernel_rfl
@[simp] theorem lf94 : leafs Try.prog 94 = [3, 93] := by kernel_rfl
@[simp] theorem lf95 : leafs Try.prog 95 = [3, 93] := by kernel_rfl
@[simp] theorem lf96 : leafs Try.prog 96 = [3, 67, 3, 67, 3, 67] := by kernel_rfl
@[simp] theorem lf97 : leafs Try.prog 97 = [2, 2] := by kernel_rfl
@[simp] theorem lf98 : leafs Try.prog 98 = [3, 67, 3, 67, 3, 67, 3, 93, 24, 2, 2] := by kernel_rfl
@[simp] theorem lf99 : leafs Try.prog 99 = [3, 67, 3, 67, 3, 67, 3, 93, 24, 2, 2] := by kernel_rfl
@[simp] theorem lf107 : leafs Try.prog 107 = [3, 3, 3, 3] := by kernel_rfl
@[simp] theorem lf108 : leafs Try.prog 108 = [4, 4, 4, 4] := by kernel_rfl
@[simp] theorem lf109 : leafs Try.prog 109 = [3, 3, 3, 3, 4, 4, 4, 4, 3, 3, 3, 3] := by kernel_rfl
@[simp] theorem lf110 : leafs Try.prog 110 = [3, 3, 3, 3, 4, 4, 4, 4, 3, 3, 3, 3] := by kernel_rfl
@[simp] theorem nvn115 : nrmV Try.prog 115 .nils = .list 2 [] := by kernel_rfl
@[simp] theorem nvl115 (s : Nat) (rows : List (List AV)) : nrmV Try.prog 115 (.list s rows) = .list s (nrmRows Try.prog [3, 3] rows) := by
  have h : Try.prog.underlying 115 = some (.slice 120) := by kernel_rfl
  have l : leafs Try.prog 120 = [3, 3] := by kernel_rfl
  simp only [nrmV, h, l]
@[simp] theorem lf115 : leafs Try.prog 115 = [115] := by kernel_rfl
@[simp] theorem lf116 : leafs Try.prog 116 = [30, 3, 70, 30, 3, 3, 3, 30, 31, 32, 33, 3, 3, 2, 2, 2, 2, 2, 2, 2, 2, 39, 40, 2, 2, 2, 43, 22, 3, 30, 3, 3, 31, 22, 22, 3, 3, 2, 46, 70, 115] := by kernel_rfl
@[simp] theorem lf117 : leafs Try.prog 117 = [30, 3, 70, 30, 3, 3, 3, 30, 31, 32, 33, 3, 3, 2, 2, 2, 2, 2, 2, 2, 2, 39, 40, 2, 2, 2, 43, 22, 3, 30, 3, 3, 31, 22, 22, 3, 3, 2, 46, 70, 115] := by kernel_rfl
@[simp] theorem lf119 : leafs Try.prog 119 = [3, 3] := by kernel_rfl
@[simp] theorem lf120 : leafs Try.prog 120 = [3, 3] := by kernel_rfl
@[simp] theorem lf122 : leafs Try.prog 122 = [3, 3, 4, 87] := by kernel_rfl
@[simp] theorem lf123 : leafs Try.prog 123 = [3, 3, 4, 87] := by kernel_rfl
@[simp] theorem lf136 : leafs Try.prog 136 = [9, 3, 31] := by kernel_rfl
@[simp] theorem lf137 : leafs Try.prog 137 = [9, 3, 31] := by kernel_rfl
@[simp] theorem lf139 : leafs Try.prog 139 = [22] := by kernel_rfl
@[simp] theorem lf140 : leafs Try.prog 140 = [22] := by kernel_rfl
@[simp] theorem lf161 : leafs Try.prog 161 = [30, 3, 70, 30, 3, 3, 3, 30, 31, 32, 33, 3, 3, 2, 2, 2, 2, 2, 2, 2, 2, 39, 40, 2, 2, 2, 43, 22, 3, 30, 3, 3, 31, 22, 22, 3, 3, 2, 46, 70, 115, 3, 87] := by kernel_rfl
@[simp] theorem lf162 : leafs Try.prog 162 = [30, 3, 70, 30, 3, 3, 3, 30, 31, 32, 33, 3, 3, 2, 2, 2, 2, 2, 2, 2, 2, 39, 40, 2, 2, 2, 43, 22, 3, 30, 3, 3, 31, 22, 22, 3, 3, 2, 46, 70, 115, 3, 87] := by kernel_rfl
@[simp] theorem lf223 : leafs Try.prog 223 = [30, 4] := by kernel_rfl
@[simp] theorem lf224 : leafs Try.prog 224 = [30, 4] := by kernel_rfl
@[simp] theorem lf226 : leafs Try.prog 226 = [3, 30, 30, 3] := by kernel_rfl
@[simp] theorem lf227 : leafs Try.prog 227 = [3, 30, 30, 3] := by kernel_rfl
@[simp] theorem lf251 : leafs Try.prog 251 = [3, 3, 3, 3] := by kernel_rfl
@[simp] theorem lf252 : leafs Try.prog 252 = [3, 3, 3, 3] := by kernel_rfl
@[simp] theorem lf283 : leafs Try.prog 283 = [17, 17, 17, 9] := by kernel_rfl
@[simp] theorem lf284 : leafs Try.prog 284 = [17, 17, 17, 9] := by kernel_rfl
@[simp] theorem lf285 : leafs Try.prog 285 = [] := by kernel_rfl
@[simp] theorem lf286 : leafs Try.prog 286 = [] := by kernel_rfl
@[simp] theorem lf287 : leafs Try.prog 287 = [] := by kernel_rfl
@[simp] theorem lf295 : leafs Try.prog 295 = [12, 12, 270, 289, 5, 5, 290, 291, 292, 293, 294] := by kernel_rfl
@[simp] theorem lf296 : leafs Try.prog 296 = [12, 12, 270, 289, 5, 5, 290, 291, 292, 293, 294] := by kernel_rfl
attribute [simp] runL runG stopG newF List.findIdx?_cons List.findIdx?_nil List.idxOf?_cons List.idxOf?_nil headG stepA execA_eq skipA run_ret run_fail run_get run_put run_asm num lk st lk_st putA AS.ev ofValue ofFlat mkv splice fieldAddrA buildA fillA runF gdst pickA unOpA extractA resVs resV pack frzT inlT inlV frzV frzVs frzL frz1 newId AV.cellsOf AV.flat AV.flat2 specOf loadA_runR capA copyA copyTo srcA sliceCA slice3A appendZA extA AV.place lenCA clearA clearTo expG expB3 List.zipWith renL fF handB renB AV.ren backF backL idsOf freshIds refsL refsB AV.refs List.range List.range.loop placesA sliceRows rowsOf convertA sliceArrA sliceA bndA nilCheckA arrayAtA mmA lookupA keyOf keyOK findA keyEqA foundA makeMapA mapUpdateA appendA rowsA indexA partA fieldA retE2 frqT frqV frqVs frqL frq1 reachE blkRefs outE nodupE firstE seqO expB2 expF
end Go.Abs.Na
namespace Go.Abs.Na
open Go Go.Proofs Go.Abs
set_option maxRecDepth 100000
set_option maxHeartbeats 4000000
set_option linter.unusedSimpArgs false
set_option linter.unusedVariables false
theorem vc2 : Try.prog.cellsOf 2 = 1 := by kernel_rfl
theorem vc5 : Try.prog.cellsOf 5 = 1 := by kernel_rfl
theorem vc30 : Try.prog.cellsOf 30 = 1 := by kernel_rfl
theorem vc137 : Try.prog.cellsOf 137 = 3 := by kernel_rfl
theorem viewObject {xs : List AV} (h : TyR Try.prog 8 48 xs) : ∃ (x0 : Int) (x1 : Int) (x2 : Int) (x3 : List AV) (x4 : List (List AV)) (x5 : List (List AV)) (x6 : Int) (x7 : Int) (x8 : Int) (x9 : Int) (x10 : List (List AV)) (x11 : List (List AV)) (x12 : List (List AV)) (x13 : Int) (x14 : Int) (x15 : Int) (x16 : List (List AV)), xs = .int .u64 x0 :: (.int .i64 x1 :: (.int .i64 x2 :: (x3 ++ ([.list 1 x4, .list 1 x5, .int .i64 x6, .int .u64 x7, .int .i64 x8, .int .i64 x9, .list 1 x10, .list 1 x11, .list 1 x12, .int .i64 x13, .int .i64 x14, .int .i64 x15, .list 3 x16])))) ∧ (Lit.int .u64 x0).wf = true ∧ (Lit.int .i64 x1).wf = true ∧ (Lit.int .i64 x2).wf = true ∧ TyR Try.prog 8 42 x3 ∧ (∀ r ∈ x4, TyR Try.prog 8 2 r) ∧ (∀ r ∈ x5, TyR Try.prog 8 5 r) ∧ (Lit.int .i64 x6).wf = true ∧ (Lit.int .u64 x7).wf = true ∧ (Lit.int .i64 x8).wf = true ∧ (Lit.int .i64 x9).wf = true ∧ (∀ r ∈ x10, TyR Try.prog 8 30 r) ∧ (∀ r ∈ x11, TyR Try.prog 8 5 r) ∧ (∀ r ∈ x12, TyR Try.prog 8 5 r) ∧ (Lit.int .i64 x13).wf = true ∧ (Lit.int .i64 x14).wf = true ∧ (Lit.int .i64 x15).wf = true ∧ (∀ r ∈ x16, TyR Try.prog 8 137 r) := by
  simp only [TyFs, TyR_int Try.underlying2, TyR_int Try.underlying3, TyR_slice Try.underlying22, TyR_int Try.underlying30, TyR_slice Try.underlying31, TyR_slice Try.underlying43, TyR_array Try.underlying44, TyR_array Try.underlying45, TyR_slice Try.underlying46, TyR_struct Try.underlying48, vc2, vc5, vc30, vc137, List.map_cons, List.map_nil, List.replicate] at h
  obtain ⟨_, _, rfl, ⟨x0, rfl, w0⟩, ⟨_, _, rfl, ⟨x1, rfl, w1⟩, ⟨_, _, rfl, ⟨x2, rfl, w2⟩, ⟨x3, _, rfl, w3, ⟨_, _, rfl, ⟨x4, rfl, _, w4⟩, ⟨_, _, rfl, ⟨x5, rfl, _, w5⟩, ⟨_, _, rfl, ⟨x6, rfl, w6⟩, ⟨_, _, rfl, ⟨x7, rfl, w7⟩, ⟨_, _, rfl, ⟨x8, rfl, w8⟩, ⟨_, _, rfl, ⟨x9, rfl, w9⟩, ⟨_, _, rfl, ⟨x10, rfl, _, w10⟩, ⟨_, _, rfl, ⟨_, _, rfl, ⟨x11, rfl, _, w11⟩, ⟨_, _, rfl, ⟨x12, rfl, _, w12⟩, rfl⟩⟩, ⟨_, _, rfl, ⟨_, _, rfl, ⟨x13, rfl, w13⟩, ⟨_, _, rfl, ⟨x14, rfl, w14⟩, rfl⟩⟩, ⟨_, _, rfl, ⟨x15, rfl, w15⟩, ⟨_, _, rfl, ⟨x16, rfl, _, w16⟩, rfl⟩⟩⟩⟩⟩⟩⟩⟩⟩⟩⟩⟩⟩⟩⟩ := h
  refine ⟨x0, x1, x2, x3, x4, x5, x6, x7, x8, x9, x10, x11, x12, x13, x14, x15, x16, ?_, w0, w1, w2, TyR.monoN (by omega) w3, (fun r hr => TyR.monoN (by omega) (w4 r hr)), (fun r hr => TyR.monoN (by omega) (w5 r hr)), w6, w7, w8, w9, (fun r hr => TyR.monoN (by omega) (w10 r hr)), (fun r hr => TyR.monoN (by omega) (w11 r hr)), (fun r hr => TyR.monoN (by omega) (w12 r hr)), w13, w14, w15, (fun r hr => TyR.monoN (by omega) (w16 r hr))⟩
  simp only [List.cons_append, List.nil_append, List.append_nil, List.append_assoc]
theorem vc9 : Try.prog.cellsOf 9 = 1 := by kernel_rfl
theorem vc252 : Try.prog.cellsOf 252 = 4 := by kernel_rfl
theorem viewProgram {xs : List AV} (h : TyR Try.prog 8 35 xs) : ∃ (x0 : List (List AV)) (x1 : List (List AV)) (x2 : Int), xs = [.list 4 x0, .list 1 x1, .int .i64 x2] ∧ (∀ r ∈ x0, TyR Try.prog 8 252 r) ∧ (∀ r ∈ x1, TyR Try.prog 8 9 r) ∧ (Lit.int .i64 x2).wf = true := by
  simp only [TyFs, TyR_int Try.underlying3, TyR_slice Try.underlying32, TyR_slice Try.underlying33, TyR_struct Try.underlying35, vc9, vc252, List.map_cons, List.map_nil, List.replicate] at h
  obtain ⟨_, _, rfl, ⟨x0, rfl, _, w0⟩, ⟨_, _, rfl, ⟨x1, rfl, _, w1⟩, ⟨_, _, rfl, ⟨x2, rfl, w2⟩, rfl⟩⟩⟩ := h
  refine ⟨x0, x1, x2, ?_, (fun r hr => TyR.monoN (by omega) (w0 r hr)), (fun r hr => TyR.monoN (by omega) (w1 r hr)), w2⟩
  simp only [List.cons_append, List.nil_append, List.append_nil, List.append_assoc]
theorem viewCPU {xs : List AV} (h : TyR Try.prog 8 38 xs) : ∃ (x0 : Int) (x1 : Int) (x2 : Int) (x3 : Int) (x4 : Int) (x5 : Int) (x6 : Int) (x7 : Int) (x8 : Int), xs = [.int .i64 x0, .int .i64 x1, .int .i64 x2, .int .i64 x3, .int .i64 x4, .int .i64 x5, .int .i64 x6, .int .i64 x7, .int .i64 x8] ∧ (Lit.int .i64 x0).wf = true ∧ (Lit.int .i64 x1).wf = true ∧ (Lit.int .i64 x2).wf = true ∧ (Lit.int .i64 x3).wf = true ∧ (Lit.int .i64 x4).wf = true ∧ (Lit.int .i64 x5).wf = true ∧ (Lit.int .i64 x6).wf = true ∧ (Lit.int .i64 x7).wf = true ∧ (Lit.int .i64 x8).wf = true := by
  simp only [TyFs, TyR_int Try.underlying2, TyR_int Try.underlying3, TyR_array Try.underlying36, TyR_struct Try.underlying38, List.map_cons, List.map_nil, List.replicate] at h
  obtain ⟨_, _, rfl, ⟨x0, rfl, w0⟩, ⟨_, _, rfl, ⟨_, _, rfl, ⟨x1, rfl, w1⟩, ⟨_, _, rfl, ⟨x2, rfl, w2⟩, ⟨_, _, rfl, ⟨x3, rfl, w3⟩, ⟨_, _, rfl, ⟨x4, rfl, w4⟩, ⟨_, _, rfl, ⟨x5, rfl, w5⟩, ⟨_, _, rfl, ⟨x6, rfl, w6⟩, ⟨_, _, rfl, ⟨x7, rfl, w7⟩, ⟨_, _, rfl, ⟨x8, rfl, w8⟩, rfl⟩⟩⟩⟩⟩⟩⟩⟩, rfl⟩⟩ := h
  refine ⟨x0, x1, x2, x3, x4, x5, x6, x7, x8, ?_, w0, w1, w2, w3, w4, w5, w6, w7, w8⟩
  simp only [List.cons_append, List.nil_append, List.append_nil, List.append_assoc]
theorem vc224 : Try.prog.cellsOf 224 = 2 := by kernel_rfl
theorem vc227 : Try.prog.cellsOf 227 = 4 := by kernel_rfl
theorem viewProcess {xs : List AV} (h : TyR Try.prog 8 42 xs) : ∃ (x0 : Int) (x1 : Int) (x2 : List (List AV)) (x3 : List AV) (x4 : List AV) (x5 : List (List AV)) (x6 : List (List AV)) (x7 : Int) (x8 : Int) (x9 : Int), xs = .int .i64 x0 :: (.int .u64 x1 :: (.list 1 x2 :: (x3 ++ (x4 ++ ([.list 2 x5, .list 4 x6, .int .i64 x7, .int .i64 x8, .int .i64 x9]))))) ∧ (Lit.int .i64 x0).wf = true ∧ (Lit.int .u64 x1).wf = true ∧ (∀ r ∈ x2, TyR Try.prog 8 30 r) ∧ TyR Try.prog 8 35 x3 ∧ TyR Try.prog 8 38 x4 ∧ (∀ r ∈ x5, TyR Try.prog 8 224 r) ∧ (∀ r ∈ x6, TyR Try.prog 8 227 r) ∧ (Lit.int .i64 x7).wf = true ∧ (Lit.int .i64 x8).wf = true ∧ (Lit.int .i64 x9).wf = true := by
  simp only [TyFs, TyR_int Try.underlying2, TyR_int Try.underlying3, TyR_int Try.underlying30, TyR_slice Try.underlying31, TyR_slice Try.underlying39, TyR_slice Try.underlying40, TyR_struct Try.underlying42, vc30, vc224, vc227, List.map_cons, List.map_nil, List.replicate] at h
  obtain ⟨_, _, rfl, ⟨x0, rfl, w0⟩, ⟨_, _, rfl, ⟨x1, rfl, w1⟩, ⟨_, _, rfl, ⟨x2, rfl, _, w2⟩, ⟨x3, _, rfl, w3, ⟨x4, _, rfl, w4, ⟨_, _, rfl, ⟨x5, rfl, _, w5⟩, ⟨_, _, rfl, ⟨x6, rfl, _, w6⟩, ⟨_, _, rfl, ⟨x7, rfl, w7⟩, ⟨_, _, rfl, ⟨x8, rfl, w8⟩, ⟨_, _, rfl, ⟨x9, rfl, w9⟩, rfl⟩⟩⟩⟩⟩⟩⟩⟩⟩⟩ := h
  refine ⟨x0, x1, x2, x3, x4, x5, x6, x7, x8, x9, ?_, w0, w1, (fun r hr => TyR.monoN (by omega) (w2 r hr)), TyR.monoN (by omega) w3, TyR.monoN (by omega) w4, (fun r hr => TyR.monoN (by omega) (w5 r hr)), (fun r hr => TyR.monoN (by omega) (w6 r hr)), w7, w8, w9⟩
  simp only [List.cons_append, List.nil_append, List.append_nil, List.append_assoc]
theorem viewName {xs : List AV} (h : TyR Try.prog 8 137 xs) : ∃ (x0 : ByteArray) (x1 : Int) (x2 : List (List AV)), xs = [.str x0, .int .i64 x1, .list 1 x2] ∧ (Lit.int .i64 x1).wf = true ∧ (∀ r ∈ x2, TyR Try.prog 8 30 r) := by
  simp only [TyFs, TyR_int Try.underlying3, TyR_string Try.underlying9, TyR_slice Try.underlying31, TyR_struct Try.underlying137, vc30, List.map_cons, List.map_nil, List.replicate] at h
  obtain ⟨_, _, rfl, ⟨x0, rfl, _⟩, ⟨_, _, rfl, ⟨x1, rfl, w1⟩, ⟨_, _, rfl, ⟨x2, rfl, _, w2⟩, rfl⟩⟩⟩ := h
  refine ⟨x0, x1, x2, ?_, w1, (fun r hr => TyR.monoN (by omega) (w2 r hr))⟩
  simp only [List.cons_append, List.nil_append, List.append_nil, List.append_assoc]
end Go.Abs.Na
