/- Facts about types. Conditions: none. -/
import Derived.Test.YtappkmdnikmilaaGreatDoorAb8
import Derived.Test.YtappkmdnikmilaaGreatDoorProg
import Derived.KernelRfl
namespace Go.Abs.Nh
open Go Go.Proofs Go.Abs
set_option maxRecDepth 100000
@[simp] theorem sz0 : szOf Tryz.prog 0 = some 1 := by kernel_rfl
@[simp] theorem ag0 : aggT Tryz.prog 0 = some false := by kernel_rfl
@[simp] theorem sz1 : szOf Tryz.prog 1 = some 1 := by kernel_rfl
@[simp] theorem ag1 : aggT Tryz.prog 1 = some false := by kernel_rfl
@[simp] theorem zz1 : zeroA Tryz.prog 1 = some (.nilf) := by kernel_rfl
@[simp] theorem sz2 : szOf Tryz.prog 2 = some 1 := by kernel_rfl
@[simp] theorem ag2 : aggT Tryz.prog 2 = some false := by kernel_rfl
@[simp] theorem zz2 : zeroA Tryz.prog 2 = some (.int .i64 0) := by kernel_rfl
@[simp] theorem sz3 : szOf Tryz.prog 3 = some 1 := by kernel_rfl
@[simp] theorem ag3 : aggT Tryz.prog 3 = some false := by kernel_rfl
@[simp] theorem zz3 : zeroA Tryz.prog 3 = some (.int .i64 0) := by kernel_rfl
@[simp] theorem sz4 : szOf Tryz.prog 4 = some 1 := by kernel_rfl
@[simp] theorem ag4 : aggT Tryz.prog 4 = some false := by kernel_rfl
@[simp] theorem zz4 : zeroA Tryz.prog 4 = some (.bool false) := by kernel_rfl
@[simp] theorem sz5 : szOf Tryz.prog 5 = some 1 := by kernel_rfl
@[simp] theorem ag5 : aggT Tryz.prog 5 = some false := by kernel_rfl
@[simp] theorem zz5 : zeroA Tryz.prog 5 = some (.int .u8 0) := by kernel_rfl
@[simp] theorem sz6 : szOf Tryz.prog 6 = some 1 := by kernel_rfl
@[simp] theorem ag6 : aggT Tryz.prog 6 = some false := by kernel_rfl
@[simp] theorem zz6 : zeroA Tryz.prog 6 = some (.int .u8 0) := by kernel_rfl
@[simp] theorem sz7 : szOf Tryz.prog 7 = some 4 := by kernel_rfl
@[simp] theorem ag7 : aggT Tryz.prog 7 = some true := by kernel_rfl
@[simp] theorem zz7 : zeroA Tryz.prog 7 = some (.agg [.int .i64 0, .int .i64 0, .bool false, .int .u8 0]) := by kernel_rfl
@[simp] theorem sz8 : szOf Tryz.prog 8 = some 4 := by kernel_rfl
@[simp] theorem ag8 : aggT Tryz.prog 8 = some true := by kernel_rfl
@[simp] theorem zz8 : zeroA Tryz.prog 8 = some (.agg [.int .i64 0, .int .i64 0, .bool false, .int .u8 0]) := by kernel_rfl
@[simp] theorem sz9 : szOf Tryz.prog 9 = some 1 := by kernel_rfl
@[simp] theorem ag9 : aggT Tryz.prog 9 = some false := by kernel_rfl
@[simp] theorem zz9 : zeroA Tryz.prog 9 = some (.str ByteArray.empty) := by kernel_rfl
@[simp] theorem sz10 : szOf Tryz.prog 10 = some 1 := by kernel_rfl
@[simp] theorem ag10 : aggT Tryz.prog 10 = some false := by kernel_rfl
@[simp] theorem zz10 : zeroA Tryz.prog 10 = some (.str ByteArray.empty) := by kernel_rfl
@[simp] theorem sz11 : szOf Tryz.prog 11 = some 1 := by kernel_rfl
@[simp] theorem ag11 : aggT Tryz.prog 11 = some false := by kernel_rfl
@[simp] theorem zz11 : zeroA Tryz.prog 11 = some (.str ByteArray.empty) := by kernel_rfl
@[simp] theorem sz12 : szOf Tryz.prog 12 = some 1 := by kernel_rfl
@[simp] theorem ag12 : aggT Tryz.prog 12 = some false := by kernel_rfl
@[simp] theorem zz12 : zeroA Tryz.prog 12 = some (.int .u64 0) := by kernel_rfl
@[simp] theorem sz13 : szOf Tryz.prog 13 = some 2 := by kernel_rfl
@[simp] theorem ag13 : aggT Tryz.prog 13 = some true := by kernel_rfl
@[simp] theorem zz13 : zeroA Tryz.prog 13 = some (.agg [.str ByteArray.empty, .int .u64 0]) := by kernel_rfl
@[simp] theorem sz14 : szOf Tryz.prog 14 = some 2 := by kernel_rfl
@[simp] theorem ag14 : aggT Tryz.prog 14 = some true := by kernel_rfl
@[simp] theorem zz14 : zeroA Tryz.prog 14 = some (.agg [.str ByteArray.empty, .int .u64 0]) := by kernel_rfl
@[simp] theorem sz15 : szOf Tryz.prog 15 = some 1 := by kernel_rfl
@[simp] theorem ag15 : aggT Tryz.prog 15 = some false := by kernel_rfl
@[simp] theorem zz15 : zeroA Tryz.prog 15 = some (.nilp) := by kernel_rfl
@[simp] theorem sz16 : szOf Tryz.prog 16 = some 1 := by kernel_rfl
@[simp] theorem ag16 : aggT Tryz.prog 16 = some false := by kernel_rfl
@[simp] theorem zz16 : zeroA Tryz.prog 16 = some (.nilp) := by kernel_rfl
@[simp] theorem sz17 : szOf Tryz.prog 17 = some 1 := by kernel_rfl
@[simp] theorem ag17 : aggT Tryz.prog 17 = some false := by kernel_rfl
@[simp] theorem zz17 : zeroA Tryz.prog 17 = some (.nilp) := by kernel_rfl
@[simp] theorem sz18 : szOf Tryz.prog 18 = some 1 := by kernel_rfl
@[simp] theorem ag18 : aggT Tryz.prog 18 = some true := by kernel_rfl
@[simp] theorem zz18 : zeroA Tryz.prog 18 = some (.agg [.nilp]) := by kernel_rfl
@[simp] theorem sz19 : szOf Tryz.prog 19 = some 1 := by kernel_rfl
@[simp] theorem ag19 : aggT Tryz.prog 19 = some true := by kernel_rfl
@[simp] theorem zz19 : zeroA Tryz.prog 19 = some (.agg [.nilp]) := by kernel_rfl
@[simp] theorem sz20 : szOf Tryz.prog 20 = some 1 := by kernel_rfl
@[simp] theorem ag20 : aggT Tryz.prog 20 = some false := by kernel_rfl
@[simp] theorem sz21 : szOf Tryz.prog 21 = some 1 := by kernel_rfl
@[simp] theorem ag21 : aggT Tryz.prog 21 = some false := by kernel_rfl
@[simp] theorem zz21 : zeroA Tryz.prog 21 = some (.int .i32 0) := by kernel_rfl
@[simp] theorem sz22 : szOf Tryz.prog 22 = some 1 := by kernel_rfl
@[simp] theorem ag22 : aggT Tryz.prog 22 = some false := by kernel_rfl
@[simp] theorem zz22 : zeroA Tryz.prog 22 = some (.nils) := by kernel_rfl
@[simp] theorem sz23 : szOf Tryz.prog 23 = some 1 := by kernel_rfl
@[simp] theorem ag23 : aggT Tryz.prog 23 = some false := by kernel_rfl
@[simp] theorem zz23 : zeroA Tryz.prog 23 = some (.int .u64 0) := by kernel_rfl
@[simp] theorem sz24 : szOf Tryz.prog 24 = some 1 := by kernel_rfl
@[simp] theorem ag24 : aggT Tryz.prog 24 = some false := by kernel_rfl
@[simp] theorem zz24 : zeroA Tryz.prog 24 = some (.nilf) := by kernel_rfl
@[simp] theorem sz25 : szOf Tryz.prog 25 = some 1 := by kernel_rfl
@[simp] theorem ag25 : aggT Tryz.prog 25 = some false := by kernel_rfl
@[simp] theorem zz25 : zeroA Tryz.prog 25 = some (.nilf) := by kernel_rfl
@[simp] theorem sz26 : szOf Tryz.prog 26 = some 1 := by kernel_rfl
@[simp] theorem ag26 : aggT Tryz.prog 26 = some false := by kernel_rfl
@[simp] theorem zz26 : zeroA Tryz.prog 26 = some (.nilp) := by kernel_rfl
@[simp] theorem sz27 : szOf Tryz.prog 27 = some 1 := by kernel_rfl
@[simp] theorem ag27 : aggT Tryz.prog 27 = some false := by kernel_rfl
@[simp] theorem zz27 : zeroA Tryz.prog 27 = some (.nilf) := by kernel_rfl
@[simp] theorem sz28 : szOf Tryz.prog 28 = some 1 := by kernel_rfl
@[simp] theorem ag28 : aggT Tryz.prog 28 = some false := by kernel_rfl
@[simp] theorem zz28 : zeroA Tryz.prog 28 = some (.nilf) := by kernel_rfl
@[simp] theorem sz29 : szOf Tryz.prog 29 = some 1 := by kernel_rfl
@[simp] theorem ag29 : aggT Tryz.prog 29 = some false := by kernel_rfl
@[simp] theorem zz29 : zeroA Tryz.prog 29 = some (.nilf) := by kernel_rfl
@[simp] theorem sz30 : szOf Tryz.prog 30 = some 3 := by kernel_rfl
@[simp] theorem ag30 : aggT Tryz.prog 30 = some true := by kernel_rfl
@[simp] theorem zz30 : zeroA Tryz.prog 30 = some (.agg [.int .i64 0, .int .i64 0, .int .i64 0]) := by kernel_rfl
@[simp] theorem sz31 : szOf Tryz.prog 31 = some 3 := by kernel_rfl
@[simp] theorem ag31 : aggT Tryz.prog 31 = some true := by kernel_rfl
@[simp] theorem zz31 : zeroA Tryz.prog 31 = some (.agg [.int .i64 0, .int .i64 0, .int .i64 0]) := by kernel_rfl
@[simp] theorem sz32 : szOf Tryz.prog 32 = some 1 := by kernel_rfl
@[simp] theorem ag32 : aggT Tryz.prog 32 = some false := by kernel_rfl
@[simp] theorem zz32 : zeroA Tryz.prog 32 = some (.nils) := by kernel_rfl
@[simp] theorem sz33 : szOf Tryz.prog 33 = some 2 := by kernel_rfl
@[simp] theorem ag33 : aggT Tryz.prog 33 = some true := by kernel_rfl
@[simp] theorem zz33 : zeroA Tryz.prog 33 = some (.agg [.int .i64 0, .nils]) := by kernel_rfl
@[simp] theorem sz34 : szOf Tryz.prog 34 = some 2 := by kernel_rfl
@[simp] theorem ag34 : aggT Tryz.prog 34 = some true := by kernel_rfl
@[simp] theorem zz34 : zeroA Tryz.prog 34 = some (.agg [.int .i64 0, .nils]) := by kernel_rfl
@[simp] theorem sz35 : szOf Tryz.prog 35 = some 1 := by kernel_rfl
@[simp] theorem ag35 : aggT Tryz.prog 35 = some false := by kernel_rfl
@[simp] theorem zz35 : zeroA Tryz.prog 35 = some (.nils) := by kernel_rfl
@[simp] theorem sz36 : szOf Tryz.prog 36 = some 2 := by kernel_rfl
@[simp] theorem ag36 : aggT Tryz.prog 36 = some true := by kernel_rfl
@[simp] theorem zz36 : zeroA Tryz.prog 36 = some (.agg [.int .i64 0, .nils]) := by kernel_rfl
@[simp] theorem sz37 : szOf Tryz.prog 37 = some 2 := by kernel_rfl
@[simp] theorem ag37 : aggT Tryz.prog 37 = some true := by kernel_rfl
@[simp] theorem zz37 : zeroA Tryz.prog 37 = some (.agg [.int .i64 0, .nils]) := by kernel_rfl
@[simp] theorem sz38 : szOf Tryz.prog 38 = some 1 := by kernel_rfl
@[simp] theorem ag38 : aggT Tryz.prog 38 = some false := by kernel_rfl
@[simp] theorem zz38 : zeroA Tryz.prog 38 = some (.nils) := by kernel_rfl
@[simp] theorem sz39 : szOf Tryz.prog 39 = some 1 := by kernel_rfl
@[simp] theorem ag39 : aggT Tryz.prog 39 = some false := by kernel_rfl
@[simp] theorem zz39 : zeroA Tryz.prog 39 = some (.nils) := by kernel_rfl
@[simp] theorem sz40 : szOf Tryz.prog 40 = some 4 := by kernel_rfl
@[simp] theorem ag40 : aggT Tryz.prog 40 = some true := by kernel_rfl
@[simp] theorem zz40 : zeroA Tryz.prog 40 = some (.agg [.int .u64 0, .nils, .int .i64 0, .bool false]) := by kernel_rfl
@[simp] theorem sz41 : szOf Tryz.prog 41 = some 4 := by kernel_rfl
@[simp] theorem ag41 : aggT Tryz.prog 41 = some true := by kernel_rfl
@[simp] theorem zz41 : zeroA Tryz.prog 41 = some (.agg [.int .u64 0, .nils, .int .i64 0, .bool false]) := by kernel_rfl
@[simp] theorem sz42 : szOf Tryz.prog 42 = some 15 := by kernel_rfl
@[simp] theorem ag42 : aggT Tryz.prog 42 = some true := by kernel_rfl
@[simp] theorem zz42 : zeroA Tryz.prog 42 = some (.agg [.int .i64 0, .int .i64 0, .int .i64 0, .int .i64 0, .int .i64 0, .int .i64 0, .nils, .int .i64 0, .nils, .nils, .int .u64 0, .int .u64 0, .nils, .int .i64 0, .bool false]) := by kernel_rfl
@[simp] theorem sz43 : szOf Tryz.prog 43 = some 15 := by kernel_rfl
@[simp] theorem ag43 : aggT Tryz.prog 43 = some true := by kernel_rfl
@[simp] theorem zz43 : zeroA Tryz.prog 43 = some (.agg [.int .i64 0, .int .i64 0, .int .i64 0, .int .i64 0, .int .i64 0, .int .i64 0, .nils, .int .i64 0, .nils, .nils, .int .u64 0, .int .u64 0, .nils, .int .i64 0, .bool false]) := by kernel_rfl
@[simp] theorem sz44 : szOf Tryz.prog 44 = some 1 := by kernel_rfl
@[simp] theorem ag44 : aggT Tryz.prog 44 = some false := by kernel_rfl
@[simp] theorem zz44 : zeroA Tryz.prog 44 = some (.int .i64 0) := by kernel_rfl
@[simp] theorem sz45 : szOf Tryz.prog 45 = some 1 := by kernel_rfl
@[simp] theorem ag45 : aggT Tryz.prog 45 = some false := by kernel_rfl
@[simp] theorem sz46 : szOf Tryz.prog 46 = some 1 := by kernel_rfl
@[simp] theorem ag46 : aggT Tryz.prog 46 = some false := by kernel_rfl
@[simp] theorem zz46 : zeroA Tryz.prog 46 = some (.nilf) := by kernel_rfl
@[simp] theorem sz47 : szOf Tryz.prog 47 = some 1 := by kernel_rfl
@[simp] theorem ag47 : aggT Tryz.prog 47 = some false := by kernel_rfl
@[simp] theorem zz47 : zeroA Tryz.prog 47 = some (.nils) := by kernel_rfl
@[simp] theorem sz48 : szOf Tryz.prog 48 = some 1 := by kernel_rfl
@[simp] theorem ag48 : aggT Tryz.prog 48 = some false := by kernel_rfl
@[simp] theorem sz49 : szOf Tryz.prog 49 = some 1 := by kernel_rfl
@[simp] theorem ag49 : aggT Tryz.prog 49 = some false := by kernel_rfl
@[simp] theorem zz49 : zeroA Tryz.prog 49 = some (.nilf) := by kernel_rfl
@[simp] theorem sz50 : szOf Tryz.prog 50 = some 1 := by kernel_rfl
@[simp] theorem ag50 : aggT Tryz.prog 50 = some false := by kernel_rfl
@[simp] theorem zz50 : zeroA Tryz.prog 50 = some (.nilf) := by kernel_rfl
@[simp] theorem sz51 : szOf Tryz.prog 51 = some 2 := by kernel_rfl
@[simp] theorem ag51 : aggT Tryz.prog 51 = some true := by kernel_rfl
@[simp] theorem zz51 : zeroA Tryz.prog 51 = some (.agg [.nils, .int .i64 0]) := by kernel_rfl
@[simp] theorem sz52 : szOf Tryz.prog 52 = some 2 := by kernel_rfl
@[simp] theorem ag52 : aggT Tryz.prog 52 = some true := by kernel_rfl
@[simp] theorem zz52 : zeroA Tryz.prog 52 = some (.agg [.nils, .int .i64 0]) := by kernel_rfl
@[simp] theorem sz53 : szOf Tryz.prog 53 = some 1 := by kernel_rfl
@[simp] theorem ag53 : aggT Tryz.prog 53 = some false := by kernel_rfl
@[simp] theorem sz54 : szOf Tryz.prog 54 = some 1 := by kernel_rfl
@[simp] theorem ag54 : aggT Tryz.prog 54 = some false := by kernel_rfl
@[simp] theorem zz54 : zeroA Tryz.prog 54 = some (.nilf) := by kernel_rfl
@[simp] theorem sz55 : szOf Tryz.prog 55 = some 1 := by kernel_rfl
@[simp] theorem ag55 : aggT Tryz.prog 55 = some false := by kernel_rfl
@[simp] theorem zz55 : zeroA Tryz.prog 55 = some (.nilp) := by kernel_rfl
@[simp] theorem sz56 : szOf Tryz.prog 56 = some 1 := by kernel_rfl
@[simp] theorem ag56 : aggT Tryz.prog 56 = some false := by kernel_rfl
@[simp] theorem zz56 : zeroA Tryz.prog 56 = some (.nilf) := by kernel_rfl
@[simp] theorem sz57 : szOf Tryz.prog 57 = some 1 := by kernel_rfl
@[simp] theorem ag57 : aggT Tryz.prog 57 = some false := by kernel_rfl
@[simp] theorem zz57 : zeroA Tryz.prog 57 = some (.nilf) := by kernel_rfl
@[simp] theorem sz58 : szOf Tryz.prog 58 = some 18 := by kernel_rfl
@[simp] theorem ag58 : aggT Tryz.prog 58 = some true := by kernel_rfl
@[simp] theorem zz58 : zeroA Tryz.prog 58 = some (.agg [.int .i64 0, .int .i64 0, .int .i64 0, .int .i64 0, .int .i64 0, .int .i64 0, .nils, .int .i64 0, .nils, .nils, .int .u64 0, .int .u64 0, .nils, .int .i64 0, .bool false, .nils, .nils, .bool false]) := by kernel_rfl
@[simp] theorem sz59 : szOf Tryz.prog 59 = some 18 := by kernel_rfl
@[simp] theorem ag59 : aggT Tryz.prog 59 = some true := by kernel_rfl
@[simp] theorem zz59 : zeroA Tryz.prog 59 = some (.agg [.int .i64 0, .int .i64 0, .int .i64 0, .int .i64 0, .int .i64 0, .int .i64 0, .nils, .int .i64 0, .nils, .nils, .int .u64 0, .int .u64 0, .nils, .int .i64 0, .bool false, .nils, .nils, .bool false]) := by kernel_rfl
@[simp] theorem sz60 : szOf Tryz.prog 60 = some 1 := by kernel_rfl
@[simp] theorem ag60 : aggT Tryz.prog 60 = some false := by kernel_rfl
@[simp] theorem zz60 : zeroA Tryz.prog 60 = some (.nilf) := by kernel_rfl
@[simp] theorem sz61 : szOf Tryz.prog 61 = some 1 := by kernel_rfl
@[simp] theorem ag61 : aggT Tryz.prog 61 = some false := by kernel_rfl
@[simp] theorem zz61 : zeroA Tryz.prog 61 = some (.nilf) := by kernel_rfl
@[simp] theorem sz62 : szOf Tryz.prog 62 = some 1 := by kernel_rfl
@[simp] theorem ag62 : aggT Tryz.prog 62 = some false := by kernel_rfl
@[simp] theorem zz62 : zeroA Tryz.prog 62 = some (.nilf) := by kernel_rfl
@[simp] theorem sz63 : szOf Tryz.prog 63 = some 2 := by kernel_rfl
@[simp] theorem ag63 : aggT Tryz.prog 63 = some true := by kernel_rfl
@[simp] theorem zz63 : zeroA Tryz.prog 63 = some (.agg [.int .u64 0, .int .i64 0]) := by kernel_rfl
@[simp] theorem sz64 : szOf Tryz.prog 64 = some 2 := by kernel_rfl
@[simp] theorem ag64 : aggT Tryz.prog 64 = some true := by kernel_rfl
@[simp] theorem zz64 : zeroA Tryz.prog 64 = some (.agg [.int .u64 0, .int .i64 0]) := by kernel_rfl
@[simp] theorem sz65 : szOf Tryz.prog 65 = some 1 := by kernel_rfl
@[simp] theorem ag65 : aggT Tryz.prog 65 = some false := by kernel_rfl
@[simp] theorem zz65 : zeroA Tryz.prog 65 = some (.nilf) := by kernel_rfl
@[simp] theorem sz66 : szOf Tryz.prog 66 = some 1 := by kernel_rfl
@[simp] theorem ag66 : aggT Tryz.prog 66 = some false := by kernel_rfl
@[simp] theorem zz66 : zeroA Tryz.prog 66 = some (.nilf) := by kernel_rfl
@[simp] theorem sz67 : szOf Tryz.prog 67 = some 1 := by kernel_rfl
@[simp] theorem ag67 : aggT Tryz.prog 67 = some false := by kernel_rfl
@[simp] theorem zz67 : zeroA Tryz.prog 67 = some (.nilf) := by kernel_rfl
@[simp] theorem sz68 : szOf Tryz.prog 68 = some 1 := by kernel_rfl
@[simp] theorem ag68 : aggT Tryz.prog 68 = some false := by kernel_rfl
@[simp] theorem zz68 : zeroA Tryz.prog 68 = some (.nils) := by kernel_rfl
@[simp] theorem sz69 : szOf Tryz.prog 69 = some 1 := by kernel_rfl
@[simp] theorem ag69 : aggT Tryz.prog 69 = some false := by kernel_rfl
@[simp] theorem zz69 : zeroA Tryz.prog 69 = some (.nils) := by kernel_rfl
@[simp] theorem sz70 : szOf Tryz.prog 70 = some 3 := by kernel_rfl
@[simp] theorem ag70 : aggT Tryz.prog 70 = some true := by kernel_rfl
@[simp] theorem zz70 : zeroA Tryz.prog 70 = some (.agg [.nils, .nils, .int .i64 0]) := by kernel_rfl
@[simp] theorem sz71 : szOf Tryz.prog 71 = some 3 := by kernel_rfl
@[simp] theorem ag71 : aggT Tryz.prog 71 = some true := by kernel_rfl
@[simp] theorem zz71 : zeroA Tryz.prog 71 = some (.agg [.nils, .nils, .int .i64 0]) := by kernel_rfl
@[simp] theorem sz72 : szOf Tryz.prog 72 = some 8 := by kernel_rfl
@[simp] theorem ag72 : aggT Tryz.prog 72 = some true := by kernel_rfl
@[simp] theorem zz72 : zeroA Tryz.prog 72 = some (.agg [.int .i64 0, .int .i64 0, .int .i64 0, .int .i64 0, .int .i64 0, .int .i64 0, .int .i64 0, .int .i64 0]) := by kernel_rfl
@[simp] theorem sz73 : szOf Tryz.prog 73 = some 9 := by kernel_rfl
@[simp] theorem ag73 : aggT Tryz.prog 73 = some true := by kernel_rfl
@[simp] theorem zz73 : zeroA Tryz.prog 73 = some (.agg [.int .i64 0, .int .i64 0, .int .i64 0, .int .i64 0, .int .i64 0, .int .i64 0, .int .i64 0, .int .i64 0, .int .i64 0]) := by kernel_rfl
@[simp] theorem sz74 : szOf Tryz.prog 74 = some 9 := by kernel_rfl
@[simp] theorem ag74 : aggT Tryz.prog 74 = some true := by kernel_rfl
@[simp] theorem zz74 : zeroA Tryz.prog 74 = some (.agg [.int .i64 0, .int .i64 0, .int .i64 0, .int .i64 0, .int .i64 0, .int .i64 0, .int .i64 0, .int .i64 0, .int .i64 0]) := by kernel_rfl
@[simp] theorem sz75 : szOf Tryz.prog 75 = some 1 := by kernel_rfl
@[simp] theorem ag75 : aggT Tryz.prog 75 = some false := by kernel_rfl
@[simp] theorem zz75 : zeroA Tryz.prog 75 = some (.nils) := by kernel_rfl
@[simp] theorem sz76 : szOf Tryz.prog 76 = some 1 := by kernel_rfl
@[simp] theorem ag76 : aggT Tryz.prog 76 = some false := by kernel_rfl
@[simp] theorem zz76 : zeroA Tryz.prog 76 = some (.nils) := by kernel_rfl
@[simp] theorem sz77 : szOf Tryz.prog 77 = some 20 := by kernel_rfl
@[simp] theorem ag77 : aggT Tryz.prog 77 = some true := by kernel_rfl
@[simp] theorem zz77 : zeroA Tryz.prog 77 = some (.agg [.int .i64 0, .int .u64 0, .nils, .nils, .nils, .int .i64 0, .int .i64 0, .int .i64 0, .int .i64 0, .int .i64 0, .int .i64 0, .int .i64 0, .int .i64 0, .int .i64 0, .int .i64 0, .nils, .nils, .int .i64 0, .int .i64 0, .int .i64 0]) := by kernel_rfl
@[simp] theorem sz78 : szOf Tryz.prog 78 = some 20 := by kernel_rfl
@[simp] theorem ag78 : aggT Tryz.prog 78 = some true := by kernel_rfl
@[simp] theorem zz78 : zeroA Tryz.prog 78 = some (.agg [.int .i64 0, .int .u64 0, .nils, .nils, .nils, .int .i64 0, .int .i64 0, .int .i64 0, .int .i64 0, .int .i64 0, .int .i64 0, .int .i64 0, .int .i64 0, .int .i64 0, .int .i64 0, .nils, .nils, .int .i64 0, .int .i64 0, .int .i64 0]) := by kernel_rfl
@[simp] theorem sz79 : szOf Tryz.prog 79 = some 1 := by kernel_rfl
@[simp] theorem ag79 : aggT Tryz.prog 79 = some false := by kernel_rfl
@[simp] theorem zz79 : zeroA Tryz.prog 79 = some (.nils) := by kernel_rfl
@[simp] theorem sz80 : szOf Tryz.prog 80 = some 1 := by kernel_rfl
@[simp] theorem ag80 : aggT Tryz.prog 80 = some false := by kernel_rfl
@[simp] theorem zz80 : zeroA Tryz.prog 80 = some (.nils) := by kernel_rfl
@[simp] theorem sz81 : szOf Tryz.prog 81 = some 2 := by kernel_rfl
@[simp] theorem ag81 : aggT Tryz.prog 81 = some true := by kernel_rfl
@[simp] theorem zz81 : zeroA Tryz.prog 81 = some (.agg [.nils, .nils]) := by kernel_rfl
@[simp] theorem sz82 : szOf Tryz.prog 82 = some 2 := by kernel_rfl
@[simp] theorem ag82 : aggT Tryz.prog 82 = some true := by kernel_rfl
@[simp] theorem zz82 : zeroA Tryz.prog 82 = some (.agg [.int .i64 0, .int .i64 0]) := by kernel_rfl
@[simp] theorem sz83 : szOf Tryz.prog 83 = some 1 := by kernel_rfl
@[simp] theorem ag83 : aggT Tryz.prog 83 = some false := by kernel_rfl
@[simp] theorem zz83 : zeroA Tryz.prog 83 = some (.nils) := by kernel_rfl
@[simp] theorem sz84 : szOf Tryz.prog 84 = some 36 := by kernel_rfl
@[simp] theorem ag84 : aggT Tryz.prog 84 = some true := by kernel_rfl
@[simp] theorem zz84 : zeroA Tryz.prog 84 = some (.agg [.int .u64 0, .int .i64 0, .int .i64 0, .int .i64 0, .int .u64 0, .nils, .nils, .nils, .int .i64 0, .int .i64 0, .int .i64 0, .int .i64 0, .int .i64 0, .int .i64 0, .int .i64 0, .int .i64 0, .int .i64 0, .int .i64 0, .nils, .nils, .int .i64 0, .int .i64 0, .int .i64 0, .nils, .nils, .int .i64 0, .int .u64 0, .int .i64 0, .int .i64 0, .nils, .nils, .nils, .int .i64 0, .int .i64 0, .int .i64 0, .nils]) := by kernel_rfl
@[simp] theorem sz85 : szOf Tryz.prog 85 = some 36 := by kernel_rfl
@[simp] theorem ag85 : aggT Tryz.prog 85 = some true := by kernel_rfl
@[simp] theorem zz85 : zeroA Tryz.prog 85 = some (.agg [.int .u64 0, .int .i64 0, .int .i64 0, .int .i64 0, .int .u64 0, .nils, .nils, .nils, .int .i64 0, .int .i64 0, .int .i64 0, .int .i64 0, .int .i64 0, .int .i64 0, .int .i64 0, .int .i64 0, .int .i64 0, .int .i64 0, .nils, .nils, .int .i64 0, .int .i64 0, .int .i64 0, .nils, .nils, .int .i64 0, .int .u64 0, .int .i64 0, .int .i64 0, .nils, .nils, .nils, .int .i64 0, .int .i64 0, .int .i64 0, .nils]) := by kernel_rfl
@[simp] theorem sz86 : szOf Tryz.prog 86 = some 1 := by kernel_rfl
@[simp] theorem ag86 : aggT Tryz.prog 86 = some false := by kernel_rfl
@[simp] theorem zz86 : zeroA Tryz.prog 86 = some (.nilf) := by kernel_rfl
@[simp] theorem sz87 : szOf Tryz.prog 87 = some 1 := by kernel_rfl
@[simp] theorem ag87 : aggT Tryz.prog 87 = some false := by kernel_rfl
@[simp] theorem zz87 : zeroA Tryz.prog 87 = some (.nilf) := by kernel_rfl
@[simp] theorem sz88 : szOf Tryz.prog 88 = some 1 := by kernel_rfl
@[simp] theorem ag88 : aggT Tryz.prog 88 = some false := by kernel_rfl
@[simp] theorem zz88 : zeroA Tryz.prog 88 = some (.nilf) := by kernel_rfl
@[simp] theorem sz89 : szOf Tryz.prog 89 = some 1 := by kernel_rfl
@[simp] theorem ag89 : aggT Tryz.prog 89 = some false := by kernel_rfl
@[simp] theorem sz90 : szOf Tryz.prog 90 = some 1 := by kernel_rfl
@[simp] theorem ag90 : aggT Tryz.prog 90 = some false := by kernel_rfl
@[simp] theorem zz90 : zeroA Tryz.prog 90 = some (.nilf) := by kernel_rfl
@[simp] theorem sz91 : szOf Tryz.prog 91 = some 1 := by kernel_rfl
@[simp] theorem ag91 : aggT Tryz.prog 91 = some false := by kernel_rfl
@[simp] theorem zz91 : zeroA Tryz.prog 91 = some (.nilf) := by kernel_rfl
@[simp] theorem sz92 : szOf Tryz.prog 92 = some 1 := by kernel_rfl
@[simp] theorem ag92 : aggT Tryz.prog 92 = some false := by kernel_rfl
@[simp] theorem zz92 : zeroA Tryz.prog 92 = some (.nilf) := by kernel_rfl
@[simp] theorem sz93 : szOf Tryz.prog 93 = some 1 := by kernel_rfl
@[simp] theorem ag93 : aggT Tryz.prog 93 = some false := by kernel_rfl
@[simp] theorem zz93 : zeroA Tryz.prog 93 = some (.nilf) := by kernel_rfl
@[simp] theorem sz94 : szOf Tryz.prog 94 = some 41 := by kernel_rfl
@[simp] theorem ag94 : aggT Tryz.prog 94 = some true := by kernel_rfl
@[simp] theorem zz94 : zeroA Tryz.prog 94 = some (.agg [.int .u64 0, .int .i64 0, .int .u64 0, .int .i64 0, .int .i64 0, .int .i64 0, .int .u64 0, .nils, .nils, .nils, .int .i64 0, .int .i64 0, .int .i64 0, .int .i64 0, .int .i64 0, .int .i64 0, .int .i64 0, .int .i64 0, .int .i64 0, .int .i64 0, .nils, .nils, .int .i64 0, .int .i64 0, .int .i64 0, .nils, .nils, .int .i64 0, .int .u64 0, .int .i64 0, .int .i64 0, .nils, .nils, .nils, .int .i64 0, .int .i64 0, .int .i64 0, .nils, .int .i64 0, .bool false, .bool false]) := by kernel_rfl
@[simp] theorem sz95 : szOf Tryz.prog 95 = some 41 := by kernel_rfl
@[simp] theorem ag95 : aggT Tryz.prog 95 = some true := by kernel_rfl
@[simp] theorem zz95 : zeroA Tryz.prog 95 = some (.agg [.int .u64 0, .int .i64 0, .int .u64 0, .int .i64 0, .int .i64 0, .int .i64 0, .int .u64 0, .nils, .nils, .nils, .int .i64 0, .int .i64 0, .int .i64 0, .int .i64 0, .int .i64 0, .int .i64 0, .int .i64 0, .int .i64 0, .int .i64 0, .int .i64 0, .nils, .nils, .int .i64 0, .int .i64 0, .int .i64 0, .nils, .nils, .int .i64 0, .int .u64 0, .int .i64 0, .int .i64 0, .nils, .nils, .nils, .int .i64 0, .int .i64 0, .int .i64 0, .nils, .int .i64 0, .bool false, .bool false]) := by kernel_rfl
@[simp] theorem sz96 : szOf Tryz.prog 96 = some 1 := by kernel_rfl
@[simp] theorem ag96 : aggT Tryz.prog 96 = some false := by kernel_rfl
@[simp] theorem zz96 : zeroA Tryz.prog 96 = some (.nilf) := by kernel_rfl
@[simp] theorem sz97 : szOf Tryz.prog 97 = some 1 := by kernel_rfl
@[simp] theorem ag97 : aggT Tryz.prog 97 = some false := by kernel_rfl
@[simp] theorem zz97 : zeroA Tryz.prog 97 = some (.nilf) := by kernel_rfl
@[simp] theorem sz98 : szOf Tryz.prog 98 = some 1 := by kernel_rfl
@[simp] theorem ag98 : aggT Tryz.prog 98 = some false := by kernel_rfl
@[simp] theorem zz98 : zeroA Tryz.prog 98 = some (.nilf) := by kernel_rfl
@[simp] theorem sz99 : szOf Tryz.prog 99 = some 1 := by kernel_rfl
@[simp] theorem ag99 : aggT Tryz.prog 99 = some false := by kernel_rfl
@[simp] theorem zz99 : zeroA Tryz.prog 99 = some (.nils) := by kernel_rfl
@[simp] theorem sz100 : szOf Tryz.prog 100 = some 41 := by kernel_rfl
@[simp] theorem ag100 : aggT Tryz.prog 100 = some true := by kernel_rfl
@[simp] theorem zz100 : zeroA Tryz.prog 100 = some (.agg [.int .u64 0, .int .i64 0, .nils, .int .u64 0, .int .i64 0, .int .i64 0, .int .i64 0, .int .u64 0, .nils, .nils, .nils, .int .i64 0, .int .i64 0, .int .i64 0, .int .i64 0, .int .i64 0, .int .i64 0, .int .i64 0, .int .i64 0, .int .i64 0, .int .i64 0, .nils, .nils, .int .i64 0, .int .i64 0, .int .i64 0, .nils, .nils, .int .i64 0, .int .u64 0, .int .i64 0, .int .i64 0, .nils, .nils, .nils, .int .i64 0, .int .i64 0, .int .i64 0, .nils, .nils, .nils]) := by kernel_rfl
@[simp] theorem sz101 : szOf Tryz.prog 101 = some 41 := by kernel_rfl
@[simp] theorem ag101 : aggT Tryz.prog 101 = some true := by kernel_rfl
@[simp] theorem zz101 : zeroA Tryz.prog 101 = some (.agg [.int .u64 0, .int .i64 0, .nils, .int .u64 0, .int .i64 0, .int .i64 0, .int .i64 0, .int .u64 0, .nils, .nils, .nils, .int .i64 0, .int .i64 0, .int .i64 0, .int .i64 0, .int .i64 0, .int .i64 0, .int .i64 0, .int .i64 0, .int .i64 0, .int .i64 0, .nils, .nils, .int .i64 0, .int .i64 0, .int .i64 0, .nils, .nils, .int .i64 0, .int .u64 0, .int .i64 0, .int .i64 0, .nils, .nils, .nils, .int .i64 0, .int .i64 0, .int .i64 0, .nils, .nils, .nils]) := by kernel_rfl
@[simp] theorem sz102 : szOf Tryz.prog 102 = some 1 := by kernel_rfl
@[simp] theorem ag102 : aggT Tryz.prog 102 = some false := by kernel_rfl
@[simp] theorem zz102 : zeroA Tryz.prog 102 = some (.nilf) := by kernel_rfl
@[simp] theorem sz103 : szOf Tryz.prog 103 = some 1 := by kernel_rfl
@[simp] theorem ag103 : aggT Tryz.prog 103 = some false := by kernel_rfl
@[simp] theorem zz103 : zeroA Tryz.prog 103 = some (.nilf) := by kernel_rfl
@[simp] theorem sz104 : szOf Tryz.prog 104 = some 2 := by kernel_rfl
@[simp] theorem ag104 : aggT Tryz.prog 104 = some true := by kernel_rfl
@[simp] theorem zz104 : zeroA Tryz.prog 104 = some (.agg [.int .i64 0, .int .i64 0]) := by kernel_rfl
@[simp] theorem sz105 : szOf Tryz.prog 105 = some 2 := by kernel_rfl
@[simp] theorem ag105 : aggT Tryz.prog 105 = some true := by kernel_rfl
@[simp] theorem zz105 : zeroA Tryz.prog 105 = some (.agg [.int .i64 0, .int .i64 0]) := by kernel_rfl
@[simp] theorem sz106 : szOf Tryz.prog 106 = some 1 := by kernel_rfl
@[simp] theorem ag106 : aggT Tryz.prog 106 = some false := by kernel_rfl
@[simp] theorem zz106 : zeroA Tryz.prog 106 = some (.nilf) := by kernel_rfl
@[simp] theorem sz107 : szOf Tryz.prog 107 = some 1 := by kernel_rfl
@[simp] theorem ag107 : aggT Tryz.prog 107 = some false := by kernel_rfl
@[simp] theorem zz107 : zeroA Tryz.prog 107 = some (.nilf) := by kernel_rfl
@[simp] theorem sz108 : szOf Tryz.prog 108 = some 1 := by kernel_rfl
@[simp] theorem ag108 : aggT Tryz.prog 108 = some false := by kernel_rfl
@[simp] theorem zz108 : zeroA Tryz.prog 108 = some (.nilf) := by kernel_rfl
@[simp] theorem sz109 : szOf Tryz.prog 109 = some 1 := by kernel_rfl
@[simp] theorem ag109 : aggT Tryz.prog 109 = some false := by kernel_rfl
@[simp] theorem zz109 : zeroA Tryz.prog 109 = some (.nilf) := by kernel_rfl
@[simp] theorem sz110 : szOf Tryz.prog 110 = some 1 := by kernel_rfl
@[simp] theorem ag110 : aggT Tryz.prog 110 = some false := by kernel_rfl
@[simp] theorem zz110 : zeroA Tryz.prog 110 = some (.nilf) := by kernel_rfl
@[simp] theorem sz111 : szOf Tryz.prog 111 = some 1 := by kernel_rfl
@[simp] theorem ag111 : aggT Tryz.prog 111 = some false := by kernel_rfl
@[simp] theorem zz111 : zeroA Tryz.prog 111 = some (.nilf) := by kernel_rfl
@[simp] theorem sz112 : szOf Tryz.prog 112 = some 1 := by kernel_rfl
@[simp] theorem ag112 : aggT Tryz.prog 112 = some false := by kernel_rfl
@[simp] theorem sz113 : szOf Tryz.prog 113 = some 1 := by kernel_rfl
@[simp] theorem ag113 : aggT Tryz.prog 113 = some false := by kernel_rfl
@[simp] theorem zz113 : zeroA Tryz.prog 113 = some (.nilf) := by kernel_rfl
@[simp] theorem sz114 : szOf Tryz.prog 114 = some 1 := by kernel_rfl
@[simp] theorem ag114 : aggT Tryz.prog 114 = some false := by kernel_rfl
@[simp] theorem zz114 : zeroA Tryz.prog 114 = some (.nilf) := by kernel_rfl
@[simp] theorem sz115 : szOf Tryz.prog 115 = some 1 := by kernel_rfl
@[simp] theorem ag115 : aggT Tryz.prog 115 = some false := by kernel_rfl
@[simp] theorem zz115 : zeroA Tryz.prog 115 = some (.nilf) := by kernel_rfl
@[simp] theorem sz116 : szOf Tryz.prog 116 = some 1 := by kernel_rfl
@[simp] theorem ag116 : aggT Tryz.prog 116 = some false := by kernel_rfl
@[simp] theorem sz117 : szOf Tryz.prog 117 = some 1 := by kernel_rfl
@[simp] theorem ag117 : aggT Tryz.prog 117 = some false := by kernel_rfl
@[simp] theorem zz117 : zeroA Tryz.prog 117 = some (.nilf) := by kernel_rfl
@[simp] theorem sz118 : szOf Tryz.prog 118 = some 1 := by kernel_rfl
@[simp] theorem ag118 : aggT Tryz.prog 118 = some false := by kernel_rfl
@[simp] theorem zz118 : zeroA Tryz.prog 118 = some (.nilf) := by kernel_rfl
@[simp] theorem sz119 : szOf Tryz.prog 119 = some 1 := by kernel_rfl
@[simp] theorem ag119 : aggT Tryz.prog 119 = some false := by kernel_rfl
@[simp] theorem zz119 : zeroA Tryz.prog 119 = some (.nilf) := by kernel_rfl
@[simp] theorem sz120 : szOf Tryz.prog 120 = some 1 := by kernel_rfl
@[simp] theorem ag120 : aggT Tryz.prog 120 = some false := by kernel_rfl
@[simp] theorem zz120 : zeroA Tryz.prog 120 = some (.nilf) := by kernel_rfl
@[simp] theorem sz121 : szOf Tryz.prog 121 = some 1 := by kernel_rfl
@[simp] theorem ag121 : aggT Tryz.prog 121 = some false := by kernel_rfl
@[simp] theorem zz121 : zeroA Tryz.prog 121 = some (.nilf) := by kernel_rfl
@[simp] theorem sz122 : szOf Tryz.prog 122 = some 1 := by kernel_rfl
@[simp] theorem ag122 : aggT Tryz.prog 122 = some false := by kernel_rfl
@[simp] theorem zz122 : zeroA Tryz.prog 122 = some (.nilf) := by kernel_rfl
@[simp] theorem sz123 : szOf Tryz.prog 123 = some 1 := by kernel_rfl
@[simp] theorem ag123 : aggT Tryz.prog 123 = some false := by kernel_rfl
@[simp] theorem zz123 : zeroA Tryz.prog 123 = some (.nilp) := by kernel_rfl
@[simp] theorem sz124 : szOf Tryz.prog 124 = some 1 := by kernel_rfl
@[simp] theorem ag124 : aggT Tryz.prog 124 = some false := by kernel_rfl
@[simp] theorem zz124 : zeroA Tryz.prog 124 = some (.nilf) := by kernel_rfl
@[simp] theorem sz125 : szOf Tryz.prog 125 = some 2 := by kernel_rfl
@[simp] theorem ag125 : aggT Tryz.prog 125 = some true := by kernel_rfl
@[simp] theorem zz125 : zeroA Tryz.prog 125 = some (.agg [.int .u64 0, .bool false]) := by kernel_rfl
@[simp] theorem sz126 : szOf Tryz.prog 126 = some 2 := by kernel_rfl
@[simp] theorem ag126 : aggT Tryz.prog 126 = some true := by kernel_rfl
@[simp] theorem zz126 : zeroA Tryz.prog 126 = some (.agg [.int .u64 0, .bool false]) := by kernel_rfl
@[simp] theorem sz127 : szOf Tryz.prog 127 = some 1 := by kernel_rfl
@[simp] theorem ag127 : aggT Tryz.prog 127 = some false := by kernel_rfl
@[simp] theorem zz127 : zeroA Tryz.prog 127 = some (.nilf) := by kernel_rfl
@[simp] theorem sz128 : szOf Tryz.prog 128 = some 4 := by kernel_rfl
@[simp] theorem ag128 : aggT Tryz.prog 128 = some true := by kernel_rfl
@[simp] theorem zz128 : zeroA Tryz.prog 128 = some (.agg [.int .i64 0, .int .u64 0, .int .u64 0, .int .i64 0]) := by kernel_rfl
@[simp] theorem sz129 : szOf Tryz.prog 129 = some 4 := by kernel_rfl
@[simp] theorem ag129 : aggT Tryz.prog 129 = some true := by kernel_rfl
@[simp] theorem zz129 : zeroA Tryz.prog 129 = some (.agg [.int .i64 0, .int .u64 0, .int .u64 0, .int .i64 0]) := by kernel_rfl
@[simp] theorem sz130 : szOf Tryz.prog 130 = some 1 := by kernel_rfl
@[simp] theorem ag130 : aggT Tryz.prog 130 = some false := by kernel_rfl
@[simp] theorem zz130 : zeroA Tryz.prog 130 = some (.nilf) := by kernel_rfl
@[simp] theorem sz131 : szOf Tryz.prog 131 = some 1 := by kernel_rfl
@[simp] theorem ag131 : aggT Tryz.prog 131 = some false := by kernel_rfl
@[simp] theorem zz131 : zeroA Tryz.prog 131 = some (.nilf) := by kernel_rfl
@[simp] theorem sz132 : szOf Tryz.prog 132 = some 1 := by kernel_rfl
@[simp] theorem ag132 : aggT Tryz.prog 132 = some false := by kernel_rfl
@[simp] theorem zz132 : zeroA Tryz.prog 132 = some (.nilf) := by kernel_rfl
@[simp] theorem sz133 : szOf Tryz.prog 133 = some 1 := by kernel_rfl
@[simp] theorem ag133 : aggT Tryz.prog 133 = some false := by kernel_rfl
@[simp] theorem zz133 : zeroA Tryz.prog 133 = some (.nilf) := by kernel_rfl
@[simp] theorem sz134 : szOf Tryz.prog 134 = some 3 := by kernel_rfl
@[simp] theorem ag134 : aggT Tryz.prog 134 = some true := by kernel_rfl
@[simp] theorem zz134 : zeroA Tryz.prog 134 = some (.agg [.str ByteArray.empty, .int .i64 0, .nils]) := by kernel_rfl
@[simp] theorem sz135 : szOf Tryz.prog 135 = some 3 := by kernel_rfl
@[simp] theorem ag135 : aggT Tryz.prog 135 = some true := by kernel_rfl
@[simp] theorem zz135 : zeroA Tryz.prog 135 = some (.agg [.str ByteArray.empty, .int .i64 0, .nils]) := by kernel_rfl
@[simp] theorem sz136 : szOf Tryz.prog 136 = some 1 := by kernel_rfl
@[simp] theorem ag136 : aggT Tryz.prog 136 = some false := by kernel_rfl
@[simp] theorem zz136 : zeroA Tryz.prog 136 = some (.nilf) := by kernel_rfl
@[simp] theorem sz137 : szOf Tryz.prog 137 = some 1 := by kernel_rfl
@[simp] theorem ag137 : aggT Tryz.prog 137 = some false := by kernel_rfl
@[simp] theorem zz137 : zeroA Tryz.prog 137 = some (.nilf) := by kernel_rfl
@[simp] theorem sz138 : szOf Tryz.prog 138 = some 1 := by kernel_rfl
@[simp] theorem ag138 : aggT Tryz.prog 138 = some false := by kernel_rfl
@[simp] theorem zz138 : zeroA Tryz.prog 138 = some (.nilf) := by kernel_rfl
@[simp] theorem sz139 : szOf Tryz.prog 139 = some 1 := by kernel_rfl
@[simp] theorem ag139 : aggT Tryz.prog 139 = some false := by kernel_rfl
@[simp] theorem zz139 : zeroA Tryz.prog 139 = some (.nilf) := by kernel_rfl
@[simp] theorem sz140 : szOf Tryz.prog 140 = some 1 := by kernel_rfl
@[simp] theorem ag140 : aggT Tryz.prog 140 = some false := by kernel_rfl
@[simp] theorem zz140 : zeroA Tryz.prog 140 = some (.nilf) := by kernel_rfl
@[simp] theorem sz141 : szOf Tryz.prog 141 = some 1 := by kernel_rfl
@[simp] theorem ag141 : aggT Tryz.prog 141 = some false := by kernel_rfl
@[simp] theorem zz141 : zeroA Tryz.prog 141 = some (.nilf) := by kernel_rfl
@[simp] theorem sz142 : szOf Tryz.prog 142 = some 45 := by kernel_rfl
@[simp] theorem ag142 : aggT Tryz.prog 142 = some true := by kernel_rfl
@[simp] theorem zz142 : zeroA Tryz.prog 142 = some (.agg [.int .i64 0, .int .i64 0, .int .i64 0, .int .u64 0, .int .i64 0, .int .u64 0, .int .i64 0, .int .i64 0, .int .i64 0, .int .u64 0, .nils, .nils, .nils, .int .i64 0, .int .i64 0, .int .i64 0, .int .i64 0, .int .i64 0, .int .i64 0, .int .i64 0, .int .i64 0, .int .i64 0, .int .i64 0, .nils, .nils, .int .i64 0, .int .i64 0, .int .i64 0, .nils, .nils, .int .i64 0, .int .u64 0, .int .i64 0, .int .i64 0, .nils, .nils, .nils, .int .i64 0, .int .i64 0, .int .i64 0, .nils, .int .u64 0, .int .i64 0, .int .u64 0, .int .i64 0]) := by kernel_rfl
@[simp] theorem sz143 : szOf Tryz.prog 143 = some 45 := by kernel_rfl
@[simp] theorem ag143 : aggT Tryz.prog 143 = some true := by kernel_rfl
@[simp] theorem zz143 : zeroA Tryz.prog 143 = some (.agg [.int .i64 0, .int .i64 0, .int .i64 0, .int .u64 0, .int .i64 0, .int .u64 0, .int .i64 0, .int .i64 0, .int .i64 0, .int .u64 0, .nils, .nils, .nils, .int .i64 0, .int .i64 0, .int .i64 0, .int .i64 0, .int .i64 0, .int .i64 0, .int .i64 0, .int .i64 0, .int .i64 0, .int .i64 0, .nils, .nils, .int .i64 0, .int .i64 0, .int .i64 0, .nils, .nils, .int .i64 0, .int .u64 0, .int .i64 0, .int .i64 0, .nils, .nils, .nils, .int .i64 0, .int .i64 0, .int .i64 0, .nils, .int .u64 0, .int .i64 0, .int .u64 0, .int .i64 0]) := by kernel_rfl
@[simp] theorem sz144 : szOf Tryz.prog 144 = some 1 := by kernel_rfl
@[simp] theorem ag144 : aggT Tryz.prog 144 = some false := by kernel_rfl
@[simp] theorem zz144 : zeroA Tryz.prog 144 = some (.nilf) := by kernel_rfl
@[simp] theorem sz145 : szOf Tryz.prog 145 = some 3 := by kernel_rfl
@[simp] theorem ag145 : aggT Tryz.prog 145 = some true := by kernel_rfl
@[simp] theorem zz145 : zeroA Tryz.prog 145 = some (.agg [.int .i64 0, .int .i64 0, .int .i64 0]) := by kernel_rfl
@[simp] theorem sz146 : szOf Tryz.prog 146 = some 8 := by kernel_rfl
@[simp] theorem ag146 : aggT Tryz.prog 146 = some true := by kernel_rfl
@[simp] theorem zz146 : zeroA Tryz.prog 146 = some (.agg [.int .i64 0, .int .i64 0, .int .i64 0, .int .i64 0, .int .i64 0, .int .i64 0, .int .i64 0, .int .i64 0]) := by kernel_rfl
@[simp] theorem sz147 : szOf Tryz.prog 147 = some 8 := by kernel_rfl
@[simp] theorem ag147 : aggT Tryz.prog 147 = some true := by kernel_rfl
@[simp] theorem zz147 : zeroA Tryz.prog 147 = some (.agg [.int .i64 0, .int .i64 0, .int .i64 0, .int .i64 0, .int .i64 0, .int .i64 0, .int .i64 0, .int .i64 0]) := by kernel_rfl
@[simp] theorem sz148 : szOf Tryz.prog 148 = some 1 := by kernel_rfl
@[simp] theorem ag148 : aggT Tryz.prog 148 = some false := by kernel_rfl
@[simp] theorem sz149 : szOf Tryz.prog 149 = some 1 := by kernel_rfl
@[simp] theorem ag149 : aggT Tryz.prog 149 = some false := by kernel_rfl
@[simp] theorem zz149 : zeroA Tryz.prog 149 = some (.nilf) := by kernel_rfl
@[simp] theorem sz150 : szOf Tryz.prog 150 = some 1 := by kernel_rfl
@[simp] theorem ag150 : aggT Tryz.prog 150 = some false := by kernel_rfl
@[simp] theorem sz151 : szOf Tryz.prog 151 = some 1 := by kernel_rfl
@[simp] theorem ag151 : aggT Tryz.prog 151 = some false := by kernel_rfl
@[simp] theorem zz151 : zeroA Tryz.prog 151 = some (.nilf) := by kernel_rfl
@[simp] theorem sz152 : szOf Tryz.prog 152 = some 1 := by kernel_rfl
@[simp] theorem ag152 : aggT Tryz.prog 152 = some false := by kernel_rfl
@[simp] theorem zz152 : zeroA Tryz.prog 152 = some (.nilf) := by kernel_rfl
@[simp] theorem sz153 : szOf Tryz.prog 153 = some 1 := by kernel_rfl
@[simp] theorem ag153 : aggT Tryz.prog 153 = some false := by kernel_rfl
@[simp] theorem zz153 : zeroA Tryz.prog 153 = some (.nilp) := by kernel_rfl
@[simp] theorem sz154 : szOf Tryz.prog 154 = some 1 := by kernel_rfl
@[simp] theorem ag154 : aggT Tryz.prog 154 = some false := by kernel_rfl
@[simp] theorem sz155 : szOf Tryz.prog 155 = some 1 := by kernel_rfl
@[simp] theorem ag155 : aggT Tryz.prog 155 = some false := by kernel_rfl
@[simp] theorem zz155 : zeroA Tryz.prog 155 = some (.nilf) := by kernel_rfl
@[simp] theorem sz156 : szOf Tryz.prog 156 = some 29 := by kernel_rfl
@[simp] theorem ag156 : aggT Tryz.prog 156 = some true := by kernel_rfl
@[simp] theorem zz156 : zeroA Tryz.prog 156 = some (.agg [.int .i64 0, .int .u64 0, .nils, .nils, .nils, .int .i64 0, .int .i64 0, .int .i64 0, .int .i64 0, .int .i64 0, .int .i64 0, .int .i64 0, .int .i64 0, .int .i64 0, .int .i64 0, .nils, .nils, .int .i64 0, .int .i64 0, .int .i64 0, .int .i64 0, .int .i64 0, .int .i64 0, .int .i64 0, .int .i64 0, .int .i64 0, .int .i64 0, .int .i64 0, .nils]) := by kernel_rfl
@[simp] theorem sz157 : szOf Tryz.prog 157 = some 29 := by kernel_rfl
@[simp] theorem ag157 : aggT Tryz.prog 157 = some true := by kernel_rfl
@[simp] theorem zz157 : zeroA Tryz.prog 157 = some (.agg [.int .i64 0, .int .u64 0, .nils, .nils, .nils, .int .i64 0, .int .i64 0, .int .i64 0, .int .i64 0, .int .i64 0, .int .i64 0, .int .i64 0, .int .i64 0, .int .i64 0, .int .i64 0, .nils, .nils, .int .i64 0, .int .i64 0, .int .i64 0, .int .i64 0, .int .i64 0, .int .i64 0, .int .i64 0, .int .i64 0, .int .i64 0, .int .i64 0, .int .i64 0, .nils]) := by kernel_rfl
@[simp] theorem sz158 : szOf Tryz.prog 158 = some 1 := by kernel_rfl
@[simp] theorem ag158 : aggT Tryz.prog 158 = some false := by kernel_rfl
@[simp] theorem sz159 : szOf Tryz.prog 159 = some 1 := by kernel_rfl
@[simp] theorem ag159 : aggT Tryz.prog 159 = some false := by kernel_rfl
@[simp] theorem zz159 : zeroA Tryz.prog 159 = some (.nilf) := by kernel_rfl
@[simp] theorem sz160 : szOf Tryz.prog 160 = some 1 := by kernel_rfl
@[simp] theorem ag160 : aggT Tryz.prog 160 = some false := by kernel_rfl
@[simp] theorem zz160 : zeroA Tryz.prog 160 = some (.nilf) := by kernel_rfl
@[simp] theorem sz161 : szOf Tryz.prog 161 = some 1 := by kernel_rfl
@[simp] theorem ag161 : aggT Tryz.prog 161 = some false := by kernel_rfl
@[simp] theorem zz161 : zeroA Tryz.prog 161 = some (.nilf) := by kernel_rfl
@[simp] theorem sz162 : szOf Tryz.prog 162 = some 1 := by kernel_rfl
@[simp] theorem ag162 : aggT Tryz.prog 162 = some false := by kernel_rfl
@[simp] theorem sz163 : szOf Tryz.prog 163 = some 1 := by kernel_rfl
@[simp] theorem ag163 : aggT Tryz.prog 163 = some false := by kernel_rfl
@[simp] theorem zz163 : zeroA Tryz.prog 163 = some (.nilm) := by kernel_rfl
@[simp] theorem sz164 : szOf Tryz.prog 164 = some 1 := by kernel_rfl
@[simp] theorem ag164 : aggT Tryz.prog 164 = some false := by kernel_rfl
@[simp] theorem zz164 : zeroA Tryz.prog 164 = some (.nilf) := by kernel_rfl
@[simp] theorem sz165 : szOf Tryz.prog 165 = some 1 := by kernel_rfl
@[simp] theorem ag165 : aggT Tryz.prog 165 = some false := by kernel_rfl
@[simp] theorem zz165 : zeroA Tryz.prog 165 = some (.nilf) := by kernel_rfl
@[simp] theorem sz166 : szOf Tryz.prog 166 = some 1 := by kernel_rfl
@[simp] theorem ag166 : aggT Tryz.prog 166 = some false := by kernel_rfl
@[simp] theorem sz167 : szOf Tryz.prog 167 = some 1 := by kernel_rfl
@[simp] theorem ag167 : aggT Tryz.prog 167 = some false := by kernel_rfl
@[simp] theorem zz167 : zeroA Tryz.prog 167 = some (.nilf) := by kernel_rfl
@[simp] theorem sz168 : szOf Tryz.prog 168 = some 1 := by kernel_rfl
@[simp] theorem ag168 : aggT Tryz.prog 168 = some false := by kernel_rfl
@[simp] theorem zz168 : zeroA Tryz.prog 168 = some (.nilf) := by kernel_rfl
@[simp] theorem sz169 : szOf Tryz.prog 169 = some 1 := by kernel_rfl
@[simp] theorem ag169 : aggT Tryz.prog 169 = some false := by kernel_rfl
@[simp] theorem zz169 : zeroA Tryz.prog 169 = some (.nilf) := by kernel_rfl
@[simp] theorem sz170 : szOf Tryz.prog 170 = some 1 := by kernel_rfl
@[simp] theorem ag170 : aggT Tryz.prog 170 = some false := by kernel_rfl
@[simp] theorem zz170 : zeroA Tryz.prog 170 = some (.nilf) := by kernel_rfl
@[simp] theorem sz171 : szOf Tryz.prog 171 = some 1 := by kernel_rfl
@[simp] theorem ag171 : aggT Tryz.prog 171 = some false := by kernel_rfl
@[simp] theorem zz171 : zeroA Tryz.prog 171 = some (.nilf) := by kernel_rfl
@[simp] theorem sz172 : szOf Tryz.prog 172 = some 1 := by kernel_rfl
@[simp] theorem ag172 : aggT Tryz.prog 172 = some false := by kernel_rfl
@[simp] theorem zz172 : zeroA Tryz.prog 172 = some (.nilf) := by kernel_rfl
@[simp] theorem sz173 : szOf Tryz.prog 173 = some 1 := by kernel_rfl
@[simp] theorem ag173 : aggT Tryz.prog 173 = some false := by kernel_rfl
@[simp] theorem sz174 : szOf Tryz.prog 174 = some 1 := by kernel_rfl
@[simp] theorem ag174 : aggT Tryz.prog 174 = some false := by kernel_rfl
@[simp] theorem zz174 : zeroA Tryz.prog 174 = some (.nilf) := by kernel_rfl
@[simp] theorem sz175 : szOf Tryz.prog 175 = some 1 := by kernel_rfl
@[simp] theorem ag175 : aggT Tryz.prog 175 = some false := by kernel_rfl
@[simp] theorem zz175 : zeroA Tryz.prog 175 = some (.nilf) := by kernel_rfl
@[simp] theorem sz176 : szOf Tryz.prog 176 = some 4 := by kernel_rfl
@[simp] theorem ag176 : aggT Tryz.prog 176 = some true := by kernel_rfl
@[simp] theorem zz176 : zeroA Tryz.prog 176 = some (.agg [.int .i64 0, .int .i64 0, .int .i64 0, .int .i64 0]) := by kernel_rfl
@[simp] theorem sz177 : szOf Tryz.prog 177 = some 4 := by kernel_rfl
@[simp] theorem ag177 : aggT Tryz.prog 177 = some true := by kernel_rfl
@[simp] theorem zz177 : zeroA Tryz.prog 177 = some (.agg [.int .i64 0, .int .i64 0, .int .i64 0, .int .i64 0]) := by kernel_rfl
@[simp] theorem sz178 : szOf Tryz.prog 178 = some 1 := by kernel_rfl
@[simp] theorem ag178 : aggT Tryz.prog 178 = some false := by kernel_rfl
@[simp] theorem zz178 : zeroA Tryz.prog 178 = some (.nilf) := by kernel_rfl
@[simp] theorem sz179 : szOf Tryz.prog 179 = some 1 := by kernel_rfl
@[simp] theorem ag179 : aggT Tryz.prog 179 = some false := by kernel_rfl
@[simp] theorem zz179 : zeroA Tryz.prog 179 = some (.nilf) := by kernel_rfl
@[simp] theorem sz180 : szOf Tryz.prog 180 = some 1 := by kernel_rfl
@[simp] theorem ag180 : aggT Tryz.prog 180 = some false := by kernel_rfl
@[simp] theorem zz180 : zeroA Tryz.prog 180 = some (.nilp) := by kernel_rfl
@[simp] theorem sz181 : szOf Tryz.prog 181 = some 1 := by kernel_rfl
@[simp] theorem ag181 : aggT Tryz.prog 181 = some false := by kernel_rfl
@[simp] theorem zz181 : zeroA Tryz.prog 181 = some (.nilf) := by kernel_rfl
@[simp] theorem sz182 : szOf Tryz.prog 182 = some 1 := by kernel_rfl
@[simp] theorem ag182 : aggT Tryz.prog 182 = some false := by kernel_rfl
@[simp] theorem zz182 : zeroA Tryz.prog 182 = some (.nilf) := by kernel_rfl
@[simp] theorem sz183 : szOf Tryz.prog 183 = some 1 := by kernel_rfl
@[simp] theorem ag183 : aggT Tryz.prog 183 = some false := by kernel_rfl
@[simp] theorem sz184 : szOf Tryz.prog 184 = some 1 := by kernel_rfl
@[simp] theorem ag184 : aggT Tryz.prog 184 = some false := by kernel_rfl
@[simp] theorem zz184 : zeroA Tryz.prog 184 = some (.nilf) := by kernel_rfl
@[simp] theorem sz185 : szOf Tryz.prog 185 = some 1 := by kernel_rfl
@[simp] theorem ag185 : aggT Tryz.prog 185 = some false := by kernel_rfl
@[simp] theorem zz185 : zeroA Tryz.prog 185 = some (.nilf) := by kernel_rfl
@[simp] theorem sz186 : szOf Tryz.prog 186 = some 1 := by kernel_rfl
@[simp] theorem ag186 : aggT Tryz.prog 186 = some false := by kernel_rfl
@[simp] theorem zz186 : zeroA Tryz.prog 186 = some (.nilf) := by kernel_rfl
@[simp] theorem sz187 : szOf Tryz.prog 187 = some 1 := by kernel_rfl
@[simp] theorem ag187 : aggT Tryz.prog 187 = some false := by kernel_rfl
@[simp] theorem zz187 : zeroA Tryz.prog 187 = some (.nilf) := by kernel_rfl
@[simp] theorem sz188 : szOf Tryz.prog 188 = some 1 := by kernel_rfl
@[simp] theorem ag188 : aggT Tryz.prog 188 = some false := by kernel_rfl
@[simp] theorem zz188 : zeroA Tryz.prog 188 = some (.nilf) := by kernel_rfl
@[simp] theorem sz189 : szOf Tryz.prog 189 = some 1 := by kernel_rfl
@[simp] theorem ag189 : aggT Tryz.prog 189 = some false := by kernel_rfl
@[simp] theorem zz189 : zeroA Tryz.prog 189 = some (.nilf) := by kernel_rfl
@[simp] theorem sz190 : szOf Tryz.prog 190 = some 1 := by kernel_rfl
@[simp] theorem ag190 : aggT Tryz.prog 190 = some false := by kernel_rfl
@[simp] theorem sz191 : szOf Tryz.prog 191 = some 1 := by kernel_rfl
@[simp] theorem ag191 : aggT Tryz.prog 191 = some false := by kernel_rfl
@[simp] theorem zz191 : zeroA Tryz.prog 191 = some (.nilm) := by kernel_rfl
@[simp] theorem sz192 : szOf Tryz.prog 192 = some 1 := by kernel_rfl
@[simp] theorem ag192 : aggT Tryz.prog 192 = some false := by kernel_rfl
@[simp] theorem zz192 : zeroA Tryz.prog 192 = some (.nilf) := by kernel_rfl
@[simp] theorem sz193 : szOf Tryz.prog 193 = some 1 := by kernel_rfl
@[simp] theorem ag193 : aggT Tryz.prog 193 = some false := by kernel_rfl
@[simp] theorem zz193 : zeroA Tryz.prog 193 = some (.nilf) := by kernel_rfl
@[simp] theorem sz194 : szOf Tryz.prog 194 = some 1 := by kernel_rfl
@[simp] theorem ag194 : aggT Tryz.prog 194 = some false := by kernel_rfl
@[simp] theorem sz195 : szOf Tryz.prog 195 = some 1 := by kernel_rfl
@[simp] theorem ag195 : aggT Tryz.prog 195 = some false := by kernel_rfl
@[simp] theorem zz195 : zeroA Tryz.prog 195 = some (.nilf) := by kernel_rfl
@[simp] theorem sz196 : szOf Tryz.prog 196 = some 1 := by kernel_rfl
@[simp] theorem ag196 : aggT Tryz.prog 196 = some false := by kernel_rfl
@[simp] theorem zz196 : zeroA Tryz.prog 196 = some (.nilm) := by kernel_rfl
@[simp] theorem sz197 : szOf Tryz.prog 197 = some 1 := by kernel_rfl
@[simp] theorem ag197 : aggT Tryz.prog 197 = some false := by kernel_rfl
@[simp] theorem zz197 : zeroA Tryz.prog 197 = some (.nils) := by kernel_rfl
@[simp] theorem sz198 : szOf Tryz.prog 198 = some 1 := by kernel_rfl
@[simp] theorem ag198 : aggT Tryz.prog 198 = some false := by kernel_rfl
@[simp] theorem zz198 : zeroA Tryz.prog 198 = some (.nilf) := by kernel_rfl
@[simp] theorem sz199 : szOf Tryz.prog 199 = some 1 := by kernel_rfl
@[simp] theorem ag199 : aggT Tryz.prog 199 = some false := by kernel_rfl
@[simp] theorem zz199 : zeroA Tryz.prog 199 = some (.nilf) := by kernel_rfl
@[simp] theorem sz200 : szOf Tryz.prog 200 = some 1 := by kernel_rfl
@[simp] theorem ag200 : aggT Tryz.prog 200 = some false := by kernel_rfl
@[simp] theorem zz200 : zeroA Tryz.prog 200 = some (.nilf) := by kernel_rfl
@[simp] theorem sz201 : szOf Tryz.prog 201 = some 1 := by kernel_rfl
@[simp] theorem ag201 : aggT Tryz.prog 201 = some false := by kernel_rfl
@[simp] theorem zz201 : zeroA Tryz.prog 201 = some (.nilf) := by kernel_rfl
@[simp] theorem sz202 : szOf Tryz.prog 202 = some 1 := by kernel_rfl
@[simp] theorem ag202 : aggT Tryz.prog 202 = some false := by kernel_rfl
@[simp] theorem zz202 : zeroA Tryz.prog 202 = some (.nilf) := by kernel_rfl
@[simp] theorem sz203 : szOf Tryz.prog 203 = some 1 := by kernel_rfl
@[simp] theorem ag203 : aggT Tryz.prog 203 = some false := by kernel_rfl
@[simp] theorem zz203 : zeroA Tryz.prog 203 = some (.nilf) := by kernel_rfl
@[simp] theorem sz204 : szOf Tryz.prog 204 = some 1 := by kernel_rfl
@[simp] theorem ag204 : aggT Tryz.prog 204 = some false := by kernel_rfl
@[simp] theorem zz204 : zeroA Tryz.prog 204 = some (.nilf) := by kernel_rfl
@[simp] theorem sz205 : szOf Tryz.prog 205 = some 1 := by kernel_rfl
@[simp] theorem ag205 : aggT Tryz.prog 205 = some false := by kernel_rfl
@[simp] theorem zz205 : zeroA Tryz.prog 205 = some (.int .u64 0) := by kernel_rfl
@[simp] theorem sz206 : szOf Tryz.prog 206 = some 1 := by kernel_rfl
@[simp] theorem ag206 : aggT Tryz.prog 206 = some false := by kernel_rfl
@[simp] theorem zz206 : zeroA Tryz.prog 206 = some (.nilf) := by kernel_rfl
@[simp] theorem sz207 : szOf Tryz.prog 207 = some 1 := by kernel_rfl
@[simp] theorem ag207 : aggT Tryz.prog 207 = some false := by kernel_rfl
@[simp] theorem zz207 : zeroA Tryz.prog 207 = some (.nilf) := by kernel_rfl
@[simp] theorem sz208 : szOf Tryz.prog 208 = some 1 := by kernel_rfl
@[simp] theorem ag208 : aggT Tryz.prog 208 = some false := by kernel_rfl
@[simp] theorem zz208 : zeroA Tryz.prog 208 = some (.nilf) := by kernel_rfl
@[simp] theorem sz209 : szOf Tryz.prog 209 = some 1 := by kernel_rfl
@[simp] theorem ag209 : aggT Tryz.prog 209 = some false := by kernel_rfl
@[simp] theorem zz209 : zeroA Tryz.prog 209 = some (.nilf) := by kernel_rfl
@[simp] theorem sz210 : szOf Tryz.prog 210 = some 1 := by kernel_rfl
@[simp] theorem ag210 : aggT Tryz.prog 210 = some false := by kernel_rfl
@[simp] theorem zz210 : zeroA Tryz.prog 210 = some (.nilf) := by kernel_rfl
@[simp] theorem sz211 : szOf Tryz.prog 211 = some 1 := by kernel_rfl
@[simp] theorem ag211 : aggT Tryz.prog 211 = some false := by kernel_rfl
@[simp] theorem zz211 : zeroA Tryz.prog 211 = some (.nilf) := by kernel_rfl
@[simp] theorem sz212 : szOf Tryz.prog 212 = some 1 := by kernel_rfl
@[simp] theorem ag212 : aggT Tryz.prog 212 = some false := by kernel_rfl
@[simp] theorem zz212 : zeroA Tryz.prog 212 = some (.nilf) := by kernel_rfl
@[simp] theorem sz213 : szOf Tryz.prog 213 = some 1 := by kernel_rfl
@[simp] theorem ag213 : aggT Tryz.prog 213 = some false := by kernel_rfl
@[simp] theorem zz213 : zeroA Tryz.prog 213 = some (.nilf) := by kernel_rfl
@[simp] theorem sz214 : szOf Tryz.prog 214 = some 1 := by kernel_rfl
@[simp] theorem ag214 : aggT Tryz.prog 214 = some false := by kernel_rfl
@[simp] theorem zz214 : zeroA Tryz.prog 214 = some (.nilf) := by kernel_rfl
@[simp] theorem sz215 : szOf Tryz.prog 215 = some 1 := by kernel_rfl
@[simp] theorem ag215 : aggT Tryz.prog 215 = some false := by kernel_rfl
@[simp] theorem zz215 : zeroA Tryz.prog 215 = some (.nilf) := by kernel_rfl
@[simp] theorem sz216 : szOf Tryz.prog 216 = some 1 := by kernel_rfl
@[simp] theorem ag216 : aggT Tryz.prog 216 = some false := by kernel_rfl
@[simp] theorem zz216 : zeroA Tryz.prog 216 = some (.nilf) := by kernel_rfl
@[simp] theorem sz217 : szOf Tryz.prog 217 = some 1 := by kernel_rfl
@[simp] theorem ag217 : aggT Tryz.prog 217 = some false := by kernel_rfl
@[simp] theorem zz217 : zeroA Tryz.prog 217 = some (.nilf) := by kernel_rfl
@[simp] theorem sz218 : szOf Tryz.prog 218 = some 1 := by kernel_rfl
@[simp] theorem ag218 : aggT Tryz.prog 218 = some false := by kernel_rfl
@[simp] theorem sz219 : szOf Tryz.prog 219 = some 1 := by kernel_rfl
@[simp] theorem ag219 : aggT Tryz.prog 219 = some false := by kernel_rfl
@[simp] theorem zz219 : zeroA Tryz.prog 219 = some (.nilf) := by kernel_rfl
@[simp] theorem sz220 : szOf Tryz.prog 220 = some 1 := by kernel_rfl
@[simp] theorem ag220 : aggT Tryz.prog 220 = some false := by kernel_rfl
@[simp] theorem zz220 : zeroA Tryz.prog 220 = some (.nilf) := by kernel_rfl
@[simp] theorem sz221 : szOf Tryz.prog 221 = some 1 := by kernel_rfl
@[simp] theorem ag221 : aggT Tryz.prog 221 = some false := by kernel_rfl
@[simp] theorem zz221 : zeroA Tryz.prog 221 = some (.nilf) := by kernel_rfl
@[simp] theorem sz222 : szOf Tryz.prog 222 = some 1 := by kernel_rfl
@[simp] theorem ag222 : aggT Tryz.prog 222 = some false := by kernel_rfl
@[simp] theorem zz222 : zeroA Tryz.prog 222 = some (.nilf) := by kernel_rfl
@[simp] theorem sz223 : szOf Tryz.prog 223 = some 1 := by kernel_rfl
@[simp] theorem ag223 : aggT Tryz.prog 223 = some false := by kernel_rfl
@[simp] theorem zz223 : zeroA Tryz.prog 223 = some (.nilf) := by kernel_rfl
@[simp] theorem sz224 : szOf Tryz.prog 224 = some 1 := by kernel_rfl
@[simp] theorem ag224 : aggT Tryz.prog 224 = some false := by kernel_rfl
@[simp] theorem zz224 : zeroA Tryz.prog 224 = some (.nilf) := by kernel_rfl
@[simp] theorem sz225 : szOf Tryz.prog 225 = some 1 := by kernel_rfl
@[simp] theorem ag225 : aggT Tryz.prog 225 = some false := by kernel_rfl
@[simp] theorem zz225 : zeroA Tryz.prog 225 = some (.nilf) := by kernel_rfl
@[simp] theorem sz226 : szOf Tryz.prog 226 = some 1 := by kernel_rfl
@[simp] theorem ag226 : aggT Tryz.prog 226 = some false := by kernel_rfl
@[simp] theorem zz226 : zeroA Tryz.prog 226 = some (.nilf) := by kernel_rfl
@[simp] theorem sz227 : szOf Tryz.prog 227 = some 1 := by kernel_rfl
@[simp] theorem ag227 : aggT Tryz.prog 227 = some false := by kernel_rfl
@[simp] theorem zz227 : zeroA Tryz.prog 227 = some (.nilf) := by kernel_rfl
@[simp] theorem sz228 : szOf Tryz.prog 228 = some 1 := by kernel_rfl
@[simp] theorem ag228 : aggT Tryz.prog 228 = some false := by kernel_rfl
@[simp] theorem zz228 : zeroA Tryz.prog 228 = some (.nilf) := by kernel_rfl
@[simp] theorem sz229 : szOf Tryz.prog 229 = some 1 := by kernel_rfl
@[simp] theorem ag229 : aggT Tryz.prog 229 = some false := by kernel_rfl
@[simp] theorem zz229 : zeroA Tryz.prog 229 = some (.nilf) := by kernel_rfl
@[simp] theorem sz230 : szOf Tryz.prog 230 = some 1 := by kernel_rfl
@[simp] theorem ag230 : aggT Tryz.prog 230 = some false := by kernel_rfl
@[simp] theorem zz230 : zeroA Tryz.prog 230 = some (.nilf) := by kernel_rfl
@[simp] theorem sz231 : szOf Tryz.prog 231 = some 2 := by kernel_rfl
@[simp] theorem ag231 : aggT Tryz.prog 231 = some true := by kernel_rfl
@[simp] theorem zz231 : zeroA Tryz.prog 231 = some (.agg [.str ByteArray.empty, .str ByteArray.empty]) := by kernel_rfl
@[simp] theorem sz232 : szOf Tryz.prog 232 = some 2 := by kernel_rfl
@[simp] theorem ag232 : aggT Tryz.prog 232 = some true := by kernel_rfl
@[simp] theorem zz232 : zeroA Tryz.prog 232 = some (.agg [.str ByteArray.empty, .str ByteArray.empty]) := by kernel_rfl
@[simp] theorem sz233 : szOf Tryz.prog 233 = some 26 := by kernel_rfl
@[simp] theorem ag233 : aggT Tryz.prog 233 = some true := by kernel_rfl
@[simp] theorem zz233 : zeroA Tryz.prog 233 = some (.agg [.str ByteArray.empty, .str ByteArray.empty, .str ByteArray.empty, .str ByteArray.empty, .str ByteArray.empty, .str ByteArray.empty, .str ByteArray.empty, .str ByteArray.empty, .str ByteArray.empty, .str ByteArray.empty, .str ByteArray.empty, .str ByteArray.empty, .str ByteArray.empty, .str ByteArray.empty, .str ByteArray.empty, .str ByteArray.empty, .str ByteArray.empty, .str ByteArray.empty, .str ByteArray.empty, .str ByteArray.empty, .str ByteArray.empty, .str ByteArray.empty, .str ByteArray.empty, .str ByteArray.empty, .str ByteArray.empty, .str ByteArray.empty]) := by kernel_rfl
@[simp] theorem sz234 : szOf Tryz.prog 234 = some 3 := by kernel_rfl
@[simp] theorem ag234 : aggT Tryz.prog 234 = some true := by kernel_rfl
@[simp] theorem zz234 : zeroA Tryz.prog 234 = some (.agg [.int .i64 0, .int .i64 0, .int .i64 0]) := by kernel_rfl
@[simp] theorem sz235 : szOf Tryz.prog 235 = some 1 := by kernel_rfl
@[simp] theorem ag235 : aggT Tryz.prog 235 = some false := by kernel_rfl
@[simp] theorem zz235 : zeroA Tryz.prog 235 = some (.nilf) := by kernel_rfl
@[simp] theorem sz236 : szOf Tryz.prog 236 = some 1 := by kernel_rfl
@[simp] theorem ag236 : aggT Tryz.prog 236 = some false := by kernel_rfl
@[simp] theorem zz236 : zeroA Tryz.prog 236 = some (.nilf) := by kernel_rfl
@[simp] theorem sz237 : szOf Tryz.prog 237 = some 1 := by kernel_rfl
@[simp] theorem ag237 : aggT Tryz.prog 237 = some false := by kernel_rfl
@[simp] theorem zz237 : zeroA Tryz.prog 237 = some (.nilf) := by kernel_rfl
@[simp] theorem sz238 : szOf Tryz.prog 238 = some 1 := by kernel_rfl
@[simp] theorem ag238 : aggT Tryz.prog 238 = some false := by kernel_rfl
@[simp] theorem zz238 : zeroA Tryz.prog 238 = some (.nilf) := by kernel_rfl
@[simp] theorem sz239 : szOf Tryz.prog 239 = some 1 := by kernel_rfl
@[simp] theorem ag239 : aggT Tryz.prog 239 = some false := by kernel_rfl
@[simp] theorem zz239 : zeroA Tryz.prog 239 = some (.nilf) := by kernel_rfl
@[simp] theorem sz240 : szOf Tryz.prog 240 = some 1 := by kernel_rfl
@[simp] theorem ag240 : aggT Tryz.prog 240 = some false := by kernel_rfl
@[simp] theorem zz240 : zeroA Tryz.prog 240 = some (.int .i64 0) := by kernel_rfl
@[simp] theorem sz241 : szOf Tryz.prog 241 = some 1 := by kernel_rfl
@[simp] theorem ag241 : aggT Tryz.prog 241 = some false := by kernel_rfl
@[simp] theorem sz242 : szOf Tryz.prog 242 = some 1 := by kernel_rfl
@[simp] theorem ag242 : aggT Tryz.prog 242 = some false := by kernel_rfl
@[simp] theorem zz242 : zeroA Tryz.prog 242 = some (.nilf) := by kernel_rfl
@[simp] theorem sz243 : szOf Tryz.prog 243 = some 1 := by kernel_rfl
@[simp] theorem ag243 : aggT Tryz.prog 243 = some false := by kernel_rfl
@[simp] theorem zz243 : zeroA Tryz.prog 243 = some (.nilf) := by kernel_rfl
@[simp] theorem sz244 : szOf Tryz.prog 244 = some 1 := by kernel_rfl
@[simp] theorem ag244 : aggT Tryz.prog 244 = some false := by kernel_rfl
@[simp] theorem zz244 : zeroA Tryz.prog 244 = some (.nilf) := by kernel_rfl
@[simp] theorem sz245 : szOf Tryz.prog 245 = some 1 := by kernel_rfl
@[simp] theorem ag245 : aggT Tryz.prog 245 = some false := by kernel_rfl
@[simp] theorem zz245 : zeroA Tryz.prog 245 = some (.nilf) := by kernel_rfl
@[simp] theorem sz246 : szOf Tryz.prog 246 = some 1 := by kernel_rfl
@[simp] theorem ag246 : aggT Tryz.prog 246 = some false := by kernel_rfl
@[simp] theorem zz246 : zeroA Tryz.prog 246 = some (.nilf) := by kernel_rfl
@[simp] theorem sz247 : szOf Tryz.prog 247 = some 1 := by kernel_rfl
@[simp] theorem ag247 : aggT Tryz.prog 247 = some false := by kernel_rfl
@[simp] theorem zz247 : zeroA Tryz.prog 247 = some (.int .u32 0) := by kernel_rfl
@[simp] theorem sz248 : szOf Tryz.prog 248 = some 1 := by kernel_rfl
@[simp] theorem ag248 : aggT Tryz.prog 248 = some false := by kernel_rfl
@[simp] theorem zz248 : zeroA Tryz.prog 248 = some (.nilf) := by kernel_rfl
@[simp] theorem sz249 : szOf Tryz.prog 249 = some 1 := by kernel_rfl
@[simp] theorem ag249 : aggT Tryz.prog 249 = some false := by kernel_rfl
@[simp] theorem zz249 : zeroA Tryz.prog 249 = some (.nilf) := by kernel_rfl
@[simp] theorem sz250 : szOf Tryz.prog 250 = some 1 := by kernel_rfl
@[simp] theorem ag250 : aggT Tryz.prog 250 = some false := by kernel_rfl
@[simp] theorem zz250 : zeroA Tryz.prog 250 = some (.nilf) := by kernel_rfl
@[simp] theorem sz251 : szOf Tryz.prog 251 = some 1 := by kernel_rfl
@[simp] theorem ag251 : aggT Tryz.prog 251 = some false := by kernel_rfl
@[simp] theorem zz251 : zeroA Tryz.prog 251 = some (.int .u64 0) := by kernel_rfl
@[simp] theorem sz252 : szOf Tryz.prog 252 = some 1 := by kernel_rfl
@[simp] theorem ag252 : aggT Tryz.prog 252 = some false := by kernel_rfl
@[simp] theorem zz252 : zeroA Tryz.prog 252 = some (.nilf) := by kernel_rfl
@[simp] theorem sz253 : szOf Tryz.prog 253 = some 1 := by kernel_rfl
@[simp] theorem ag253 : aggT Tryz.prog 253 = some false := by kernel_rfl
@[simp] theorem zz253 : zeroA Tryz.prog 253 = some (.nilf) := by kernel_rfl
@[simp] theorem sz254 : szOf Tryz.prog 254 = some 1 := by kernel_rfl
@[simp] theorem ag254 : aggT Tryz.prog 254 = some false := by kernel_rfl
@[simp] theorem zz254 : zeroA Tryz.prog 254 = some (.nilf) := by kernel_rfl
@[simp] theorem sz255 : szOf Tryz.prog 255 = some 1 := by kernel_rfl
@[simp] theorem ag255 : aggT Tryz.prog 255 = some false := by kernel_rfl
@[simp] theorem zz255 : zeroA Tryz.prog 255 = some (.nilp) := by kernel_rfl
@[simp] theorem sz256 : szOf Tryz.prog 256 = some 1 := by kernel_rfl
@[simp] theorem ag256 : aggT Tryz.prog 256 = some false := by kernel_rfl
@[simp] theorem zz256 : zeroA Tryz.prog 256 = some (.nilf) := by kernel_rfl
@[simp] theorem sz257 : szOf Tryz.prog 257 = some 1 := by kernel_rfl
@[simp] theorem ag257 : aggT Tryz.prog 257 = some false := by kernel_rfl
@[simp] theorem zz257 : zeroA Tryz.prog 257 = some (.nilp) := by kernel_rfl
@[simp] theorem sz258 : szOf Tryz.prog 258 = some 1 := by kernel_rfl
@[simp] theorem ag258 : aggT Tryz.prog 258 = some false := by kernel_rfl
@[simp] theorem sz259 : szOf Tryz.prog 259 = some 1 := by kernel_rfl
@[simp] theorem ag259 : aggT Tryz.prog 259 = some false := by kernel_rfl
@[simp] theorem zz259 : zeroA Tryz.prog 259 = some (.nilf) := by kernel_rfl
@[simp] theorem sz260 : szOf Tryz.prog 260 = some 1 := by kernel_rfl
@[simp] theorem ag260 : aggT Tryz.prog 260 = some false := by kernel_rfl
@[simp] theorem zz260 : zeroA Tryz.prog 260 = some (.nilf) := by kernel_rfl
@[simp] theorem sz261 : szOf Tryz.prog 261 = some 4 := by kernel_rfl
@[simp] theorem ag261 : aggT Tryz.prog 261 = some true := by kernel_rfl
@[simp] theorem zz261 : zeroA Tryz.prog 261 = some (.agg [.nilp, .nilp, .nilp, .str ByteArray.empty]) := by kernel_rfl
@[simp] theorem sz262 : szOf Tryz.prog 262 = some 4 := by kernel_rfl
@[simp] theorem ag262 : aggT Tryz.prog 262 = some true := by kernel_rfl
@[simp] theorem zz262 : zeroA Tryz.prog 262 = some (.agg [.nilp, .nilp, .nilp, .str ByteArray.empty]) := by kernel_rfl
@[simp] theorem sz263 : szOf Tryz.prog 263 = some 0 := by kernel_rfl
@[simp] theorem ag263 : aggT Tryz.prog 263 = some true := by kernel_rfl
@[simp] theorem zz263 : zeroA Tryz.prog 263 = some (.agg []) := by kernel_rfl
@[simp] theorem sz264 : szOf Tryz.prog 264 = some 0 := by kernel_rfl
@[simp] theorem ag264 : aggT Tryz.prog 264 = some true := by kernel_rfl
@[simp] theorem zz264 : zeroA Tryz.prog 264 = some (.agg []) := by kernel_rfl
@[simp] theorem sz265 : szOf Tryz.prog 265 = some 0 := by kernel_rfl
@[simp] theorem ag265 : aggT Tryz.prog 265 = some true := by kernel_rfl
@[simp] theorem zz265 : zeroA Tryz.prog 265 = some (.agg []) := by kernel_rfl
@[simp] theorem sz266 : szOf Tryz.prog 266 = some 1 := by kernel_rfl
@[simp] theorem ag266 : aggT Tryz.prog 266 = some false := by kernel_rfl
@[simp] theorem zz266 : zeroA Tryz.prog 266 = some (.int .u8 0) := by kernel_rfl
@[simp] theorem sz267 : szOf Tryz.prog 267 = some 1 := by kernel_rfl
@[simp] theorem ag267 : aggT Tryz.prog 267 = some false := by kernel_rfl
@[simp] theorem zz267 : zeroA Tryz.prog 267 = some (.int .u8 0) := by kernel_rfl
@[simp] theorem sz268 : szOf Tryz.prog 268 = some 1 := by kernel_rfl
@[simp] theorem ag268 : aggT Tryz.prog 268 = some false := by kernel_rfl
@[simp] theorem zz268 : zeroA Tryz.prog 268 = some (.nilf) := by kernel_rfl
@[simp] theorem sz269 : szOf Tryz.prog 269 = some 1 := by kernel_rfl
@[simp] theorem ag269 : aggT Tryz.prog 269 = some false := by kernel_rfl
@[simp] theorem zz269 : zeroA Tryz.prog 269 = some (.nilp) := by kernel_rfl
@[simp] theorem sz270 : szOf Tryz.prog 270 = some 1 := by kernel_rfl
@[simp] theorem ag270 : aggT Tryz.prog 270 = some false := by kernel_rfl
@[simp] theorem zz270 : zeroA Tryz.prog 270 = some (.int .i32 0) := by kernel_rfl
@[simp] theorem sz271 : szOf Tryz.prog 271 = some 1 := by kernel_rfl
@[simp] theorem ag271 : aggT Tryz.prog 271 = some false := by kernel_rfl
@[simp] theorem zz271 : zeroA Tryz.prog 271 = some (.int .i32 0) := by kernel_rfl
@[simp] theorem sz272 : szOf Tryz.prog 272 = some 11 := by kernel_rfl
@[simp] theorem ag272 : aggT Tryz.prog 272 = some true := by kernel_rfl
@[simp] theorem zz272 : zeroA Tryz.prog 272 = some (.agg [.int .u64 0, .int .u64 0, .int .u32 0, .int .u8 0, .int .u8 0, .int .u8 0, .int .u8 0, .nilf, .nilp, .int .i32 0, .int .i32 0]) := by kernel_rfl
@[simp] theorem sz273 : szOf Tryz.prog 273 = some 11 := by kernel_rfl
@[simp] theorem ag273 : aggT Tryz.prog 273 = some true := by kernel_rfl
@[simp] theorem zz273 : zeroA Tryz.prog 273 = some (.agg [.int .u64 0, .int .u64 0, .int .u32 0, .int .u8 0, .int .u8 0, .int .u8 0, .int .u8 0, .nilf, .nilp, .int .i32 0, .int .i32 0]) := by kernel_rfl
@[simp] theorem sz274 : szOf Tryz.prog 274 = some 1 := by kernel_rfl
@[simp] theorem ag274 : aggT Tryz.prog 274 = some false := by kernel_rfl
@[simp] theorem zz274 : zeroA Tryz.prog 274 = some (.nilp) := by kernel_rfl
@[simp] theorem ap22 : apT Tryz.prog 22 = some (3, 1, 8) := by kernel_rfl
@[simp] theorem ap32 : apT Tryz.prog 32 = some (95, 41, 496) := by kernel_rfl
@[simp] theorem ap35 : apT Tryz.prog 35 = some (101, 41, 552) := by kernel_rfl
@[simp] theorem ap38 : apT Tryz.prog 38 = some (23, 1, 8) := by kernel_rfl
@[simp] theorem ap39 : apT Tryz.prog 39 = some (64, 2, 16) := by kernel_rfl
@[simp] theorem ap47 : apT Tryz.prog 47 = some (143, 45, 536) := by kernel_rfl
@[simp] theorem ap68 : apT Tryz.prog 68 = some (177, 4, 32) := by kernel_rfl
@[simp] theorem ap69 : apT Tryz.prog 69 = some (9, 1, 16) := by kernel_rfl
@[simp] theorem ap75 : apT Tryz.prog 75 = some (126, 2, 16) := by kernel_rfl
@[simp] theorem ap76 : apT Tryz.prog 76 = some (129, 4, 32) := by kernel_rfl
@[simp] theorem ap79 : apT Tryz.prog 79 = some (2, 1, 8) := by kernel_rfl
@[simp] theorem ap80 : apT Tryz.prog 80 = some (5, 1, 1) := by kernel_rfl
@[simp] theorem ap83 : apT Tryz.prog 83 = some (135, 3, 48) := by kernel_rfl
@[simp] theorem ap99 : apT Tryz.prog 99 = some (105, 2, 16) := by kernel_rfl
@[simp] theorem ap197 : apT Tryz.prog 197 = some (39, 1, 24) := by kernel_rfl
@[simp] theorem bt4 : boolT Tryz.prog 4 = true := by kernel_rfl
@[simp] theorem lf7 : leafs Tryz.prog 7 = [2, 3, 4, 6] := by kernel_rfl
@[simp] theorem lf8 : leafs Tryz.prog 8 = [2, 3, 4, 6] := by kernel_rfl
@[simp] theorem lf13 : leafs Tryz.prog 13 = [9, 12] := by kernel_rfl
@[simp] theorem lf14 : leafs Tryz.prog 14 = [9, 12] := by kernel_rfl
@[simp] theorem lf18 : leafs Tryz.prog 18 = [17] := by kernel_rfl
@[simp] theorem lf19 : leafs Tryz.prog 19 = [17] := by kernel_rfl
@[simp] theorem nvn22 : nrmV Tryz.prog 22 .nils = .list 1 [] := by kernel_rfl
@[simp] theorem nvl22 (s : Nat) (rows : List (List AV)) : nrmV Tryz.prog 22 (.list s rows) = .list s (nrmRows Tryz.prog [3] rows) := by
  have h : Tryz.prog.underlying 22 = some (.slice 3) := by kernel_rfl
  have l : leafs Tryz.prog 3 = [3] := by kernel_rfl
  simp only [nrmV, h, l]
@[simp] theorem lf22 : leafs Tryz.prog 22 = [22] := by kernel_rfl
@[simp] theorem lf30 : leafs Tryz.prog 30 = [3, 3, 2] := by kernel_rfl
@[simp] theorem lf31 : leafs Tryz.prog 31 = [3, 3, 2] := by kernel_rfl
@[simp] theorem nvn32 : nrmV Tryz.prog 32 .nils = .list 41 [] := by kernel_rfl
@[simp] theorem nvl32 (s : Nat) (rows : List (List AV)) : nrmV Tryz.prog 32 (.list s rows) = .list s (nrmRows Tryz.prog [23, 3, 23, 3, 3, 3, 23, 38, 68, 69, 3, 3, 2, 2, 2, 2, 2, 2, 2, 2, 75, 76, 2, 2, 2, 79, 80, 3, 23, 3, 3, 38, 80, 80, 3, 3, 2, 83, 3, 4, 4] rows) := by
  have h : Tryz.prog.underlying 32 = some (.slice 95) := by kernel_rfl
  have l : leafs Tryz.prog 95 = [23, 3, 23, 3, 3, 3, 23, 38, 68, 69, 3, 3, 2, 2, 2, 2, 2, 2, 2, 2, 75, 76, 2, 2, 2, 79, 80, 3, 23, 3, 3, 38, 80, 80, 3, 3, 2, 83, 3, 4, 4] := by kernel_rfl
  simp only [nrmV, h, l]
@[simp] theorem lf32 : leafs Tryz.prog 32 = [32] := by kernel_rfl
@[simp] theorem lf33 : leafs Tryz.prog 33 = [3, 32] := by kernel_rfl
@[simp] theorem lf34 : leafs Tryz.prog 34 = [3, 32] := by kernel_rfl
@[simp] theorem nvn35 : nrmV Tryz.prog 35 .nils = .list 41 [] := by kernel_rfl
@[simp] theorem nvl35 (s : Nat) (rows : List (List AV)) : nrmV Tryz.prog 35 (.list s rows) = .list s (nrmRows Tryz.prog [23, 3, 22, 23, 3, 3, 3, 23, 38, 68, 69, 3, 3, 2, 2, 2, 2, 2, 2, 2, 2, 75, 76, 2, 2, 2, 79, 80, 3, 23, 3, 3, 38, 80, 80, 3, 3, 2, 83, 22, 99] rows) := by
  have h : Tryz.prog.underlying 35 = some (.slice 101) := by kernel_rfl
  have l : leafs Tryz.prog 101 = [23, 3, 22, 23, 3, 3, 3, 23, 38, 68, 69, 3, 3, 2, 2, 2, 2, 2, 2, 2, 2, 75, 76, 2, 2, 2, 79, 80, 3, 23, 3, 3, 38, 80, 80, 3, 3, 2, 83, 22, 99] := by kernel_rfl
  simp only [nrmV, h, l]
@[simp] theorem lf35 : leafs Tryz.prog 35 = [35] := by kernel_rfl
@[simp] theorem lf36 : leafs Tryz.prog 36 = [3, 35] := by kernel_rfl
@[simp] theorem lf37 : leafs Tryz.prog 37 = [3, 35] := by kernel_rfl
@[simp] theorem nvn38 : nrmV Tryz.prog 38 .nils = .list 1 [] := by kernel_rfl
@[simp] theorem nvl38 (s : Nat) (rows : List (List AV)) : nrmV Tryz.prog 38 (.list s rows) = .list s (nrmRows Tryz.prog [23] rows) := by
  have h : Tryz.prog.underlying 38 = some (.slice 23) := by kernel_rfl
  have l : leafs Tryz.prog 23 = [23] := by kernel_rfl
  simp only [nrmV, h, l]
@[simp] theorem lf38 : leafs Tryz.prog 38 = [38] := by kernel_rfl
@[simp] theorem nvn39 : nrmV Tryz.prog 39 .nils = .list 2 [] := by kernel_rfl
@[simp] theorem nvl39 (s : Nat) (rows : List (List AV)) : nrmV Tryz.prog 39 (.list s rows) = .list s (nrmRows Tryz.prog [23, 3] rows) := by
  have h : Tryz.prog.underlying 39 = some (.slice 64) := by kernel_rfl
  have l : leafs Tryz.prog 64 = [23, 3] := by kernel_rfl
  simp only [nrmV, h, l]
@[simp] theorem lf39 : leafs Tryz.prog 39 = [39] := by kernel_rfl
@[simp] theorem lf40 : leafs Tryz.prog 40 = [23, 39, 3, 4] := by kernel_rfl
@[simp] theorem lf41 : leafs Tryz.prog 41 = [23, 39, 3, 4] := by kernel_rfl
@[simp] theorem lf42 : leafs Tryz.prog 42 = [3, 3, 3, 3, 2, 3, 32, 3, 35, 38, 23, 23, 39, 3, 4] := by kernel_rfl
@[simp] theorem lf43 : leafs Tryz.prog 43 = [3, 3, 3, 3, 2, 3, 32, 3, 35, 38, 23, 23, 39, 3, 4] := by kernel_rfl
@[simp] theorem nvn47 : nrmV Tryz.prog 47 .nils = .list 45 [] := by kernel_rfl
@[simp] theorem nvl47 (s : Nat) (rows : List (List AV)) : nrmV Tryz.prog 47 (.list s rows) = .list s (nrmRows Tryz.prog [3, 3, 3, 23, 3, 23, 3, 3, 3, 23, 38, 68, 69, 3, 3, 2, 2, 2, 2, 2, 2, 2, 2, 75, 76, 2, 2, 2, 79, 80, 3, 23, 3, 3, 38, 80, 80, 3, 3, 2, 83, 23, 2, 23, 3] rows) := by
  have h : Tryz.prog.underlying 47 = some (.slice 143) := by kernel_rfl
  have l : leafs Tryz.prog 143 = [3, 3, 3, 23, 3, 23, 3, 3, 3, 23, 38, 68, 69, 3, 3, 2, 2, 2, 2, 2, 2, 2, 2, 75, 76, 2, 2, 2, 79, 80, 3, 23, 3, 3, 38, 80, 80, 3, 3, 2, 83, 23, 2, 23, 3] := by kernel_rfl
  simp only [nrmV, h, l]
@[simp] theorem lf47 : leafs Tryz.prog 47 = [47] := by kernel_rfl
@[simp] theorem lf51 : leafs Tryz.prog 51 = [22, 3] := by kernel_rfl
@[simp] theorem lf52 : leafs Tryz.prog 52 = [22, 3] := by kernel_rfl
@[simp] theorem lf58 : leafs Tryz.prog 58 = [3, 3, 3, 3, 2, 3, 32, 3, 35, 38, 23, 23, 39, 3, 4, 22, 47, 4] := by kernel_rfl
@[simp] theorem lf59 : leafs Tryz.prog 59 = [3, 3, 3, 3, 2, 3, 32, 3, 35, 38, 23, 23, 39, 3, 4, 22, 47, 4] := by kernel_rfl
@[simp] theorem lf63 : leafs Tryz.prog 63 = [23, 3] := by kernel_rfl
@[simp] theorem lf64 : leafs Tryz.prog 64 = [23, 3] := by kernel_rfl
@[simp] theorem nvn68 : nrmV Tryz.prog 68 .nils = .list 4 [] := by kernel_rfl
@[simp] theorem nvl68 (s : Nat) (rows : List (List AV)) : nrmV Tryz.prog 68 (.list s rows) = .list s (nrmRows Tryz.prog [3, 3, 3, 3] rows) := by
  have h : Tryz.prog.underlying 68 = some (.slice 177) := by kernel_rfl
  have l : leafs Tryz.prog 177 = [3, 3, 3, 3] := by kernel_rfl
  simp only [nrmV, h, l]
@[simp] theorem lf68 : leafs Tryz.prog 68 = [68] := by kernel_rfl
@[simp] theorem nvn69 : nrmV Tryz.prog 69 .nils = .list 1 [] := by kernel_rfl
@[simp] theorem nvl69 (s : Nat) (rows : List (List AV)) : nrmV Tryz.prog 69 (.list s rows) = .list s (nrmRows Tryz.prog [9] rows) := by
  have h : Tryz.prog.underlying 69 = some (.slice 9) := by kernel_rfl
  have l : leafs Tryz.prog 9 = [9] := by kernel_rfl
  simp only [nrmV, h, l]
@[simp] theorem lf69 : leafs Tryz.prog 69 = [69] := by kernel_rfl
@[simp] theorem lf70 : leafs Tryz.prog 70 = [68, 69, 3] := by kernel_rfl
@[simp] theorem lf71 : leafs Tryz.prog 71 = [68, 69, 3] := by kernel_rfl
@[simp] theorem lf72 : leafs Tryz.prog 72 = [2, 2, 2, 2, 2, 2, 2, 2] := by kernel_rfl
@[simp] theorem lf73 : leafs Tryz.prog 73 = [3, 2, 2, 2, 2, 2, 2, 2, 2] := by kernel_rfl
@[simp] theorem lf74 : leafs Tryz.prog 74 = [3, 2, 2, 2, 2, 2, 2, 2, 2] := by kernel_rfl
@[simp] theorem nvn75 : nrmV Tryz.prog 75 .nils = .list 2 [] := by kernel_rfl
@[simp] theorem nvl75 (s : Nat) (rows : List (List AV)) : nrmV Tryz.prog 75 (.list s rows) = .list s (nrmRows Tryz.prog [23, 4] rows) := by
  have h : Tryz.prog.underlying 75 = some (.slice 126) := by kernel_rfl
  have l : leafs Tryz.prog 126 = [23, 4] := by kernel_rfl
  simp only [nrmV, h, l]
@[simp] theorem lf75 : leafs Tryz.prog 75 = [75] := by kernel_rfl
@[simp] theorem nvn76 : nrmV Tryz.prog 76 .nils = .list 4 [] := by kernel_rfl
@[simp] theorem nvl76 (s : Nat) (rows : List (List AV)) : nrmV Tryz.prog 76 (.list s rows) = .list s (nrmRows Tryz.prog [3, 23, 23, 3] rows) := by
  have h : Tryz.prog.underlying 76 = some (.slice 129) := by kernel_rfl
  have l : leafs Tryz.prog 129 = [3, 23, 23, 3] := by kernel_rfl
  simp only [nrmV, h, l]
@[simp] theorem lf76 : leafs Tryz.prog 76 = [76] := by kernel_rfl
@[simp] theorem lf77 : leafs Tryz.prog 77 = [3, 23, 38, 68, 69, 3, 3, 2, 2, 2, 2, 2, 2, 2, 2, 75, 76, 2, 2, 2] := by kernel_rfl
@[simp] theorem lf78 : leafs Tryz.prog 78 = [3, 23, 38, 68, 69, 3, 3, 2, 2, 2, 2, 2, 2, 2, 2, 75, 76, 2, 2, 2] := by kernel_rfl
@[simp] theorem nvn79 : nrmV Tryz.prog 79 .nils = .list 1 [] := by kernel_rfl
@[simp] theorem nvl79 (s : Nat) (rows : List (List AV)) : nrmV Tryz.prog 79 (.list s rows) = .list s (nrmRows Tryz.prog [2] rows) := by
  have h : Tryz.prog.underlying 79 = some (.slice 2) := by kernel_rfl
  have l : leafs Tryz.prog 2 = [2] := by kernel_rfl
  simp only [nrmV, h, l]
@[simp] theorem lf79 : leafs Tryz.prog 79 = [79] := by kernel_rfl
@[simp] theorem nvn80 : nrmV Tryz.prog 80 .nils = .list 1 [] := by kernel_rfl
@[simp] theorem nvl80 (s : Nat) (rows : List (List AV)) : nrmV Tryz.prog 80 (.list s rows) = .list s (nrmRows Tryz.prog [5] rows) := by
  have h : Tryz.prog.underlying 80 = some (.slice 5) := by kernel_rfl
  have l : leafs Tryz.prog 5 = [5] := by kernel_rfl
  simp only [nrmV, h, l]
@[simp] theorem lf80 : leafs Tryz.prog 80 = [80] := by kernel_rfl
@[simp] theorem lf81 : leafs Tryz.prog 81 = [80, 80] := by kernel_rfl
@[simp] theorem lf82 : leafs Tryz.prog 82 = [3, 3] := by kernel_rfl
@[simp] theorem nvn83 : nrmV Tryz.prog 83 .nils = .list 3 [] := by kernel_rfl
@[simp] theorem nvl83 (s : Nat) (rows : List (List AV)) : nrmV Tryz.prog 83 (.list s rows) = .list s (nrmRows Tryz.prog [9, 3, 38] rows) := by
  have h : Tryz.prog.underlying 83 = some (.slice 135) := by kernel_rfl
  have l : leafs Tryz.prog 135 = [9, 3, 38] := by kernel_rfl
  simp only [nrmV, h, l]
@[simp] theorem lf83 : leafs Tryz.prog 83 = [83] := by kernel_rfl
@[simp] theorem lf84 : leafs Tryz.prog 84 = [23, 3, 3, 3, 23, 38, 68, 69, 3, 3, 2, 2, 2, 2, 2, 2, 2, 2, 75, 76, 2, 2, 2, 79, 80, 3, 23, 3, 3, 38, 80, 80, 3, 3, 2, 83] := by kernel_rfl
@[simp] theorem lf85 : leafs Tryz.prog 85 = [23, 3, 3, 3, 23, 38, 68, 69, 3, 3, 2, 2, 2, 2, 2, 2, 2, 2, 75, 76, 2, 2, 2, 79, 80, 3, 23, 3, 3, 38, 80, 80, 3, 3, 2, 83] := by kernel_rfl
@[simp] theorem lf94 : leafs Tryz.prog 94 = [23, 3, 23, 3, 3, 3, 23, 38, 68, 69, 3, 3, 2, 2, 2, 2, 2, 2, 2, 2, 75, 76, 2, 2, 2, 79, 80, 3, 23, 3, 3, 38, 80, 80, 3, 3, 2, 83, 3, 4, 4] := by kernel_rfl
@[simp] theorem lf95 : leafs Tryz.prog 95 = [23, 3, 23, 3, 3, 3, 23, 38, 68, 69, 3, 3, 2, 2, 2, 2, 2, 2, 2, 2, 75, 76, 2, 2, 2, 79, 80, 3, 23, 3, 3, 38, 80, 80, 3, 3, 2, 83, 3, 4, 4] := by kernel_rfl
@[simp] theorem nvn99 : nrmV Tryz.prog 99 .nils = .list 2 [] := by kernel_rfl
@[simp] theorem nvl99 (s : Nat) (rows : List (List AV)) : nrmV Tryz.prog 99 (.list s rows) = .list s (nrmRows Tryz.prog [3, 3] rows) := by
  have h : Tryz.prog.underlying 99 = some (.slice 105) := by kernel_rfl
  have l : leafs Tryz.prog 105 = [3, 3] := by kernel_rfl
  simp only [nrmV, h, l]
@[simp] theorem lf99 : leafs Tryz.prog 99 = [99] := by kernel_rfl
@[simp] theorem lf100 : leafs Tryz.prog 100 = [23, 3, 22, 23, 3, 3, 3, 23, 38, 68, 69, 3, 3, 2, 2, 2, 2, 2, 2, 2, 2, 75, 76, 2, 2, 2, 79, 80, 3, 23, 3, 3, 38, 80, 80, 3, 3, 2, 83, 22, 99] := by kernel_rfl
@[simp] theorem lf101 : leafs Tryz.prog 101 = [23, 3, 22, 23, 3, 3, 3, 23, 38, 68, 69, 3, 3, 2, 2, 2, 2, 2, 2, 2, 2, 75, 76, 2, 2, 2, 79, 80, 3, 23, 3, 3, 38, 80, 80, 3, 3, 2, 83, 22, 99] := by kernel_rfl
@[simp] theorem lf104 : leafs Tryz.prog 104 = [3, 3] := by kernel_rfl
@[simp] theorem lf105 : leafs Tryz.prog 105 = [3, 3] := by kernel_rfl
@[simp] theorem lf125 : leafs Tryz.prog 125 = [23, 4] := by kernel_rfl
@[simp] theorem lf126 : leafs Tryz.prog 126 = [23, 4] := by kernel_rfl
@[simp] theorem lf128 : leafs Tryz.prog 128 = [3, 23, 23, 3] := by kernel_rfl
@[simp] theorem lf129 : leafs Tryz.prog 129 = [3, 23, 23, 3] := by kernel_rfl
@[simp] theorem lf134 : leafs Tryz.prog 134 = [9, 3, 38] := by kernel_rfl
@[simp] theorem lf135 : leafs Tryz.prog 135 = [9, 3, 38] := by kernel_rfl
@[simp] theorem lf142 : leafs Tryz.prog 142 = [3, 3, 3, 23, 3, 23, 3, 3, 3, 23, 38, 68, 69, 3, 3, 2, 2, 2, 2, 2, 2, 2, 2, 75, 76, 2, 2, 2, 79, 80, 3, 23, 3, 3, 38, 80, 80, 3, 3, 2, 83, 23, 2, 23, 3] := by kernel_rfl
@[simp] theorem lf143 : leafs Tryz.prog 143 = [3, 3, 3, 23, 3, 23, 3, 3, 3, 23, 38, 68, 69, 3, 3, 2, 2, 2, 2, 2, 2, 2, 2, 75, 76, 2, 2, 2, 79, 80, 3, 23, 3, 3, 38, 80, 80, 3, 3, 2, 83, 23, 2, 23, 3] := by kernel_rfl
@[simp] theorem lf145 : leafs Tryz.prog 145 = [2, 2, 2] := by kernel_rfl
@[simp] theorem lf146 : leafs Tryz.prog 146 = [3, 2, 3, 2, 3, 2, 2, 2] := by kernel_rfl
@[simp] theorem lf147 : leafs Tryz.prog 147 = [3, 2, 3, 2, 3, 2, 2, 2] := by kernel_rfl
@[simp] theorem lf156 : leafs Tryz.prog 156 = [3, 23, 38, 68, 69, 3, 3, 2, 2, 2, 2, 2, 2, 2, 2, 75, 76, 2, 2, 2, 3, 2, 3, 2, 3, 2, 2, 2, 39] := by kernel_rfl
@[simp] theorem lf157 : leafs Tryz.prog 157 = [3, 23, 38, 68, 69, 3, 3, 2, 2, 2, 2, 2, 2, 2, 2, 75, 76, 2, 2, 2, 3, 2, 3, 2, 3, 2, 2, 2, 39] := by kernel_rfl
@[simp] theorem lf176 : leafs Tryz.prog 176 = [3, 3, 3, 3] := by kernel_rfl
@[simp] theorem lf177 : leafs Tryz.prog 177 = [3, 3, 3, 3] := by kernel_rfl
@[simp] theorem nvn197 : nrmV Tryz.prog 197 .nils = .list 1 [] := by kernel_rfl
@[simp] theorem nvl197 (s : Nat) (rows : List (List AV)) : nrmV Tryz.prog 197 (.list s rows) = .list s (nrmRows Tryz.prog [39] rows) := by
  have h : Tryz.prog.underlying 197 = some (.slice 39) := by kernel_rfl
  have l : leafs Tryz.prog 39 = [39] := by kernel_rfl
  simp only [nrmV, h, l]
@[simp] theorem lf197 : leafs Tryz.prog 197 = [197] := by kernel_rfl
@[simp] theorem lf231 : leafs Tryz.prog 231 = [9, 9] := by kernel_rfl
@[simp] theorem lf232 : leafs Tryz.prog 232 = [9, 9] := by kernel_rfl
@[simp] theorem lf233 : leafs Tryz.prog 233 = [9, 9, 9, 9, 9, 9, 9, 9, 9, 9, 9, 9, 9, 9, 9, 9, 9, 9, 9, 9, 9, 9, 9, 9, 9, 9] := by kernel_rfl
@[simp] theorem lf234 : leafs Tryz.prog 234 = [3, 3, 3] := by kernel_rfl
@[simp] theorem lf261 : leafs Tryz.prog 261 = [17, 17, 17, 9] := by kernel_rfl
@[simp] theorem lf262 : leafs Tryz.prog 262 = [17, 17, 17, 9] := by kernel_rfl
@[simp] theorem lf263 : leafs Tryz.prog 263 = [] := by kernel_rfl
@[simp] theorem lf264 : leafs Tryz.prog 264 = [] := by kernel_rfl
@[simp] theorem lf265 : leafs Tryz.prog 265 = [] := by kernel_rfl
@[simp] theorem lf272 : leafs Tryz.prog 272 = [12, 12, 247, 266, 5, 5, 267, 268, 269, 270, 271] := by kernel_rfl
@[simp] theorem lf273 : leafs Tryz.prog 273 = [12, 12, 247, 266, 5, 5, 267, 268, 269, 270, 271] := by kernel_rfl
attribute [simp] runL runG stopG newF List.findIdx?_cons List.findIdx?_nil List.idxOf?_cons List.idxOf?_nil headG stepA execA_eq skipA run_ret run_fail run_get run_put run_asm num lk st lk_st putA AS.ev ofValue ofFlat mkv splice fieldAddrA buildA fillA runF gdst pickA unOpA extractA resVs resV pack frzT inlT inlV frzV frzVs frzL frz1 newId AV.cellsOf AV.flat AV.flat2 specOf loadA_runR capA copyA copyTo srcA sliceCA slice3A appendZA extA AV.place lenCA clearA clearTo expG expB3 List.zipWith renL fF handB renB AV.ren backF backL idsOf freshIds refsL refsB AV.refs List.range List.range.loop placesA sliceRows rowsOf convertA sliceArrA sliceA bndA nilCheckA arrayAtA mmA lookupA keyOf keyOK findA keyEqA foundA makeMapA mapUpdateA appendA rowsA indexA partA fieldA retE2 frqT frqV frqVs frqL frq1 reachE blkRefs outE nodupE firstE seqO expB2 expF
end Go.Abs.Nh
namespace Go.Abs.Nh
open Go Go.Proofs Go.Abs
set_option maxRecDepth 100000
set_option maxHeartbeats 4000000
set_option linter.unusedSimpArgs false
set_option linter.unusedVariables false
theorem tm : Tryz.prog.follows .mixedOrders = true := by kernel_rfl
theorem map_inj {α : Type} {f : α → List AV} (hf : ∀ x y, f x = f y → x = y) {l m : List α} (h : l.map f = m.map f) : l = m :=
  (List.map_inj_right (fun a b h => hf a b h)).1 h
theorem take_len_map {α β : Type} (f : α → β) (l : List α) : (l.map f).take l.length = l.map f := List.take_of_length_le (by simp)
attribute [local simp] take_len_map
def encMd (x : { x : Int × Int // 0 < x.2 ∧ x.2 ≤ 4294967296 }) : List AV := [.int .i64 x.1.1, .int .i64 x.1.2]
theorem encMd_inj {β : Type} {f : { x : Int × Int // 0 < x.2 ∧ x.2 ≤ 4294967296 } → β} : ∀ x y, encMd x = encMd y → f x = f y := fun x y h => by
  simp only [encMd, List.cons.injEq, AV.int.injEq, true_and, and_true] at h
  rw [Subtype.ext (Prod.ext h.1 h.2)]
noncomputable def modS : SpecFn := mkS encMd fun x => (.int .i64 (x.1.1 % x.1.2), [])
theorem modS_eq (x m : Int) (h0 : 0 < m) (h1 : m ≤ 4294967296) : modS [.int .i64 x, .int .i64 m] [] = some (.int .i64 (x % m), []) := mkS_eq (enc := encMd) encMd_inj ⟨(x, m), h0, h1⟩
theorem tmod_neg {x m : Int} (h0 : 0 < m) (h : x.tmod m < 0) : x.tmod m + m = x % m := by
  rw [Int.emod_eq_tmod]
  have hx : ¬ 0 ≤ x := fun hx => by have := Int.tmod_nonneg m hx; omega
  have hd : ¬ m ∣ x := fun hd => by rw [Int.tmod_eq_zero_of_dvd hd] at h; omega
  rw [if_neg (by simp [hx, hd])]
  omega
theorem tmod_pos {x m : Int} (h0 : 0 < m) (h : ¬ x.tmod m < 0) : x.tmod m = x % m := by
  rw [Int.emod_eq_tmod]
  by_cases hx : 0 ≤ x
  · simp [hx]
  · by_cases hd : m ∣ x
    · simp [hd]
    · exfalso
      have h1 : 0 ≤ (-x).tmod m := Int.tmod_nonneg m (by omega)
      rw [Int.neg_tmod] at h1
      have h2 : x.tmod m ≠ 0 := fun e => hd (Int.dvd_of_tmod_eq_zero e)
      omega
theorem mod_ok : FnC Tryz.prog 16 modS := by
  refine FnC.walk 16 (fn := Tryz.f16) Tryz.func16 rfl (by kernel_rfl) fun x => ?_
  obtain ⟨⟨x, m⟩, h0, h1⟩ := x
  change W _ _ _ _ ⟨15, [(0, .int .i64 x), (1, .int .i64 m)], []⟩
  dsimp only at h0 h1
  have hm : m ≠ 0 := by omega
  by_cases h : x.tmod m < 0
  · have e := tmod_neg h0 h
    have hw : IntKind.i64.wrap (x.tmod m + m) = x % m := by
      rw [e]
      have := Int.emod_nonneg x hm
      have := Int.emod_lt_of_pos x h0
      exact w64 (by omega) (by omega)
    repeat (first | refine ZS ?_ | refine ZK tm no_specs rfl (by conv => lhs; simp [hm, h, hw]) fun _ => ?_ | refine ZL tm no_specs rfl (by conv => lhs; simp [hm, h, hw]) fun _ => ?_)
    first | exact Ret.dataR rfl (by conv => lhs; simp) (by conv => lhs; simp) (by first | rfl | simp [inlT, inlV]) | fail "no return here"
  · have e := tmod_pos h0 h
    repeat (first | refine ZS ?_ | refine ZK tm no_specs rfl (by conv => lhs; simp [hm, h]) fun _ => ?_ | refine ZL tm no_specs rfl (by conv => lhs; simp [hm, h]) fun _ => ?_)
    simp only [e]
    first | exact Ret.dataR rfl (by conv => lhs; simp) (by conv => lhs; simp) (by first | rfl | simp [inlT, inlV]) | fail "no return here"
def ic (n : Int) : List AV := [.int .i64 n]
theorem ic_inj (x y : Int) (h : ic x = ic y) : x = y := by simpa [ic] using h
attribute [local simp] take_len_map List.findIdx?_cons List.findIdx?_nil
def dkB (L : List Int) (k : Nat) : ABlk := { gen := 0, kind := 2, elem := 52, size := 2, inl := false, rows := [[.list 1 (L.map ic), .int .i64 (k : Nat)]] }
theorem dkB_inj {L L' : List Int} {k k' : Nat} (h : dkB L k = dkB L' k') : L = L' ∧ k = k' := by
  simp only [dkB, ABlk.mk.injEq, List.cons.injEq, AV.list.injEq, AV.int.injEq, true_and, and_true, Int.natCast_inj] at h
  exact ⟨map_inj ic_inj h.1, h.2⟩
def encN (L : List Int) : List AV × List ABlk := ([.list 1 (L.map ic)], [])
theorem encN_inj {β : Type} {f : List Int → β} : ∀ x y, encN x = encN y → f x = f y := fun x y h => by
  simp only [encN, Prod.mk.injEq, List.cons.injEq, AV.list.injEq, true_and, and_true] at h
  rw [map_inj ic_inj h]
noncomputable def newS : SpecFn := mkS2 encN fun L => (.ptr 0 0 0 0, [dkB L 0])
theorem newS_eq (L : List Int) : newS [.list 1 (L.map ic)] [] = some (.ptr 0 0 0 0, [{ gen := 0, kind := 2, elem := 52, size := 2, inl := false, rows := [[.list 1 (L.map ic), .int .i64 0]] }]) := mkS2_eq (enc := encN) encN_inj L
theorem new_ok : FnC Tryz.prog 6 newS := by
  refine FnC.walkB 6 (fn := Tryz.f6) Tryz.func6 rfl (by kernel_rfl) (fun x b hb => by simp [encN] at hb) fun L => ?_
  change W _ (RetB _ _ 0 _ _) _ _ ⟨6, [(0, .list 1 (L.map ic))], []⟩
  repeat (first | refine ZS ?_ | refine ZK tm no_specs rfl (by conv => lhs; simp) fun _ => ?_ | refine ZL tm no_specs rfl (by conv => lhs; simp) fun _ => ?_)
  simp only [dkB, Int.ofNat_zero, Int.natCast_zero]
  first | exact retE2_ok false (by conv => lhs; simp [retE2, frqT, frqV, frqVs, frqL, frq1, reachE, blkRefs, outE, nodupE, firstE, seqO, expB2, expF, refsB, refsL, AV.refs, AV.ren, renL, renB, List.range, List.range.loop, resVs, resV, pack]) | fail "no return here"
def encLf (x : List Int × Nat) : List AV × List ABlk := ([.ptr 0 0 0 0], [dkB x.1 x.2])
theorem encLf_inj {β : Type} {f : List Int × Nat → β} : ∀ x y, encLf x = encLf y → f x = f y := fun x y h => by
  simp only [encLf, Prod.mk.injEq, List.cons.injEq, true_and, and_true] at h
  obtain ⟨h1, h2⟩ := dkB_inj h
  rw [Prod.ext h1 h2]
noncomputable def leftS : SpecFn := mkS2 encLf fun x => (.bool (decide (x.2 < x.1.length)), [dkB x.1 x.2])
theorem leftS_eq (L : List Int) (k : Nat) : leftS [.ptr 0 0 0 0] [{ gen := 0, kind := 2, elem := 52, size := 2, inl := false, rows := [[.list 1 (L.map ic), .int .i64 (k : Nat)]] }] = some (.bool (decide (k < L.length)), [{ gen := 0, kind := 2, elem := 52, size := 2, inl := false, rows := [[.list 1 (L.map ic), .int .i64 (k : Nat)]] }]) := mkS2_eq (enc := encLf) encLf_inj (L, k)
theorem left_ok : FnC Tryz.prog 15 leftS := by
  refine FnC.walkB 15 (fn := Tryz.f15) Tryz.func15 rfl (by kernel_rfl) (fun x b hb => by simp [encLf] at hb; rw [hb]; rfl) fun x => ?_
  obtain ⟨L, k⟩ := x
  change W _ (RetB _ _ 1 _ _) _ _ ⟨13, [(0, .ptr 0 0 0 0)], [(0, dkB L k)]⟩
  repeat (first | refine ZS ?_ | refine ZK tm no_specs rfl (by conv => lhs; simp [dkB]) fun _ => ?_ | refine ZL tm no_specs rfl (by conv => lhs; simp [dkB]) fun _ => ?_)
  simp only [dkB]
  first | exact retE2_ok false (by conv => lhs; simp [retE2, frqT, frqV, frqVs, frqL, frq1, reachE, blkRefs, outE, nodupE, firstE, seqO, expB2, expF, refsB, refsL, AV.refs, AV.ren, renL, renB, List.range, List.range.loop, resVs, resV, pack]) | fail "no return here"
def nx (L : List Int) (k : Nat) (n : Int) : Int := if h : k < L.length then L[k] % n else 0
def nk (L : List Int) (k : Nat) : Nat := if k < L.length then k + 1 else k
theorem nk_le {L : List Int} {k : Nat} (h : k ≤ L.length) : nk L k ≤ L.length := by unfold nk; split <;> omega
def NxI := { x : List Int × Nat × Int // x.1.length ≤ maxLen ∧ x.2.1 ≤ x.1.length ∧ 0 < x.2.2 ∧ x.2.2 ≤ 4294967296 }
def encNx (x : NxI) : List AV × List ABlk := ([.ptr 0 0 0 0, .int .i64 x.1.2.2], [dkB x.1.1 x.1.2.1])
theorem encNx_inj {β : Type} {f : NxI → β} : ∀ x y, encNx x = encNx y → f x = f y := fun x y h => by
  simp only [encNx, Prod.mk.injEq, List.cons.injEq, AV.int.injEq, true_and, and_true] at h
  obtain ⟨h1, h2⟩ := dkB_inj h.2
  rw [Subtype.ext (Prod.ext h1 (Prod.ext h2 h.1))]
noncomputable def nextS : SpecFn := mkS2 encNx fun x => (.int .i64 (nx x.1.1 x.1.2.1 x.1.2.2), [dkB x.1.1 (nk x.1.1 x.1.2.1)])
theorem nextS_eq (L : List Int) (k : Nat) (n : Int) (h0 : L.length ≤ maxLen) (h1 : k ≤ L.length) (h2 : 0 < n) (h3 : n ≤ 4294967296) : nextS [.ptr 0 0 0 0, .int .i64 n] [{ gen := 0, kind := 2, elem := 52, size := 2, inl := false, rows := [[.list 1 (L.map ic), .int .i64 (k : Nat)]] }] =
    some (.int .i64 (nx L k n), [{ gen := 0, kind := 2, elem := 52, size := 2, inl := false, rows := [[.list 1 (L.map ic), .int .i64 (nk L k : Nat)]] }]) := mkS2_eq (enc := encNx) encNx_inj ⟨(L, k, n), h0, h1, h2, h3⟩
noncomputable def nx_specs : NL Spec := [(15, ⟨3, leftS⟩), (16, ⟨0, modS⟩)]
theorem nx_specs_ok : ∀ p ∈ nx_specs, FnC Tryz.prog p.1 p.2.fn := by
  simp only [nx_specs, List.mem_cons, List.not_mem_nil, or_false]
  rintro p (rfl | rfl)
  · exact left_ok
  · exact mod_ok
attribute [local simp] nx_specs leftS_eq
theorem next_ok : FnC Tryz.prog 10 nextS := by
  refine FnC.walkB 10 (fn := Tryz.f10) Tryz.func10 rfl (by kernel_rfl) (fun x b hb => by simp [encNx] at hb; rw [hb]; rfl) fun x => ?_
  obtain ⟨⟨L, k, n⟩, h0, h1, h2, h3⟩ := x
  dsimp only at h0 h1 h2 h3
  change W _ (RetB _ _ 1 _ _) _ _ ⟨28, [(0, .ptr 0 0 0 0), (1, .int .i64 n)], [(0, dkB L k)]⟩
  by_cases hk : k < L.length
  · have hm := modS_eq L[k] n h2 h3
    have hx : nx L k n = L[k] % n := by simp [nx, hk]
    have hn : nk L k = k + 1 := by simp [nk, hk]
    simp only [hx, hn]
    have hw := w64_succ hk h0
    rw [Int.natCast_add] at hw
    have hwk : IntKind.i64.wrap (k : Int) = k := w64_nat rfl h1 h0
    repeat (first | refine ZS ?_ | refine ZK tm nx_specs_ok rfl (by conv => lhs; simp [dkB, hk, hm, ic, hw, hwk]) fun _ => ?_ | refine ZL tm nx_specs_ok rfl (by conv => lhs; simp [dkB, hk, hm, ic, hw, hwk]) fun _ => ?_)
    simp only [dkB, Int.natCast_add, Int.natCast_one]
    first | exact retE2_ok false (by conv => lhs; simp [retE2, frqT, frqV, frqVs, frqL, frq1, reachE, blkRefs, outE, nodupE, firstE, seqO, expB2, expF, refsB, refsL, AV.refs, AV.ren, renL, renB, List.range, List.range.loop, resVs, resV, pack]) | fail "no return here"
  · have hx : nx L k n = 0 := by simp [nx, hk]
    have hn : nk L k = k := by simp [nk, hk]
    simp only [hx, hn]
    repeat (first | refine ZS ?_ | refine ZK tm nx_specs_ok rfl (by conv => lhs; simp [dkB, hk]) fun _ => ?_ | refine ZL tm nx_specs_ok rfl (by conv => lhs; simp [dkB, hk]) fun _ => ?_)
    simp only [dkB]
    first | exact retE2_ok false (by conv => lhs; simp [retE2, frqT, frqV, frqVs, frqL, frq1, reachE, blkRefs, outE, nodupE, firstE, seqO, expB2, expF, refsB, refsL, AV.refs, AV.ren, renL, renB, List.range, List.range.loop, resVs, resV, pack]) | fail "no return here"
end Go.Abs.Nh
