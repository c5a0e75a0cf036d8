/- Facts about types. Conditions: none. -/
import Derived.Test.YtkalkcgbecbgpaaAb7
import Derived.Test.YtkalkcgbecbgpaaProg
import Derived.KernelRfl
import Derived.Test.YtkalkcgbecbgpaaAb8
namespace Go.Abs.Po
open Go Go.Proofs Go.Abs
set_option maxRecDepth 100000
@[simp] theorem sz0 : szOf Try.prog 0 = some 1 := by kernel_rfl
@[simp] theorem ag0 : aggT Try.prog 0 = some false := by kernel_rfl
@[simp] theorem sz1 : szOf Try.prog 1 = some 1 := by kernel_rfl
@[simp] theorem ag1 : aggT Try.prog 1 = some false := by kernel_rfl
@[simp] theorem zz1 : zeroA Try.prog 1 = some (.nilf) := by kernel_rfl
@[simp] theorem sz2 : szOf Try.prog 2 = some 1 := by kernel_rfl
@[simp] theorem ag2 : aggT Try.prog 2 = some false := by kernel_rfl
@[simp] theorem zz2 : zeroA Try.prog 2 = some (.int .i64 0) := by kernel_rfl
@[simp] theorem sz3 : szOf Try.prog 3 = some 1 := by kernel_rfl
@[simp] theorem ag3 : aggT Try.prog 3 = some false := by kernel_rfl
@[simp] theorem zz3 : zeroA Try.prog 3 = some (.int .i64 0) := by kernel_rfl
@[simp] theorem sz4 : szOf Try.prog 4 = some 1 := by kernel_rfl
@[simp] theorem ag4 : aggT Try.prog 4 = some false := by kernel_rfl
@[simp] theorem zz4 : zeroA Try.prog 4 = some (.bool false) := by kernel_rfl
@[simp] theorem sz5 : szOf Try.prog 5 = some 1 := by kernel_rfl
@[simp] theorem ag5 : aggT Try.prog 5 = some false := by kernel_rfl
@[simp] theorem zz5 : zeroA Try.prog 5 = some (.int .u8 0) := by kernel_rfl
@[simp] theorem sz6 : szOf Try.prog 6 = some 1 := by kernel_rfl
@[simp] theorem ag6 : aggT Try.prog 6 = some false := by kernel_rfl
@[simp] theorem zz6 : zeroA Try.prog 6 = some (.int .u8 0) := by kernel_rfl
@[simp] theorem sz7 : szOf Try.prog 7 = some 4 := by kernel_rfl
@[simp] theorem ag7 : aggT Try.prog 7 = some true := by kernel_rfl
@[simp] theorem zz7 : zeroA Try.prog 7 = some (.agg [.int .i64 0, .int .i64 0, .bool false, .int .u8 0]) := by kernel_rfl
@[simp] theorem sz8 : szOf Try.prog 8 = some 4 := by kernel_rfl
@[simp] theorem ag8 : aggT Try.prog 8 = some true := by kernel_rfl
@[simp] theorem zz8 : zeroA Try.prog 8 = some (.agg [.int .i64 0, .int .i64 0, .bool false, .int .u8 0]) := by kernel_rfl
@[simp] theorem sz9 : szOf Try.prog 9 = some 1 := by kernel_rfl
@[simp] theorem ag9 : aggT Try.prog 9 = some false := by kernel_rfl
@[simp] theorem zz9 : zeroA Try.prog 9 = some (.str ByteArray.empty) := by kernel_rfl
@[simp] theorem sz10 : szOf Try.prog 10 = some 1 := by kernel_rfl
@[simp] theorem ag10 : aggT Try.prog 10 = some false := by kernel_rfl
@[simp] theorem zz10 : zeroA Try.prog 10 = some (.str ByteArray.empty) := by kernel_rfl
@[simp] theorem sz11 : szOf Try.prog 11 = some 1 := by kernel_rfl
@[simp] theorem ag11 : aggT Try.prog 11 = some false := by kernel_rfl
@[simp] theorem zz11 : zeroA Try.prog 11 = some (.str ByteArray.empty) := by kernel_rfl
@[simp] theorem sz12 : szOf Try.prog 12 = some 1 := by kernel_rfl
@[simp] theorem ag12 : aggT Try.prog 12 = some false := by kernel_rfl
@[simp] theorem zz12 : zeroA Try.prog 12 = some (.int .u64 0) := by kernel_rfl
@[simp] theorem sz13 : szOf Try.prog 13 = some 2 := by kernel_rfl
@[simp] theorem ag13 : aggT Try.prog 13 = some true := by kernel_rfl
@[simp] theorem zz13 : zeroA Try.prog 13 = some (.agg [.str ByteArray.empty, .int .u64 0]) := by kernel_rfl
@[simp] theorem sz14 : szOf Try.prog 14 = some 2 := by kernel_rfl
@[simp] theorem ag14 : aggT Try.prog 14 = some true := by kernel_rfl
@[simp] theorem zz14 : zeroA Try.prog 14 = some (.agg [.str ByteArray.empty, .int .u64 0]) := by kernel_rfl
@[simp] theorem sz15 : szOf Try.prog 15 = some 1 := by kernel_rfl
@[simp] theorem ag15 : aggT Try.prog 15 = some false := by kernel_rfl
@[simp] theorem zz15 : zeroA Try.prog 15 = some (.nilp) := by kernel_rfl
@[simp] theorem sz16 : szOf Try.prog 16 = some 1 := by kernel_rfl
@[simp] theorem ag16 : aggT Try.prog 16 = some false := by kernel_rfl
@[simp] theorem zz16 : zeroA Try.prog 16 = some (.nilp) := by kernel_rfl
@[simp] theorem sz17 : szOf Try.prog 17 = some 1 := by kernel_rfl
@[simp] theorem ag17 : aggT Try.prog 17 = some false := by kernel_rfl
@[simp] theorem zz17 : zeroA Try.prog 17 = some (.nilp) := by kernel_rfl
@[simp] theorem sz18 : szOf Try.prog 18 = some 1 := by kernel_rfl
@[simp] theorem ag18 : aggT Try.prog 18 = some true := by kernel_rfl
@[simp] theorem zz18 : zeroA Try.prog 18 = some (.agg [.nilp]) := by kernel_rfl
@[simp] theorem sz19 : szOf Try.prog 19 = some 1 := by kernel_rfl
@[simp] theorem ag19 : aggT Try.prog 19 = some true := by kernel_rfl
@[simp] theorem zz19 : zeroA Try.prog 19 = some (.agg [.nilp]) := by kernel_rfl
@[simp] theorem sz20 : szOf Try.prog 20 = some 1 := by kernel_rfl
@[simp] theorem ag20 : aggT Try.prog 20 = some false := by kernel_rfl
@[simp] theorem sz21 : szOf Try.prog 21 = some 1 := by kernel_rfl
@[simp] theorem ag21 : aggT Try.prog 21 = some false := by kernel_rfl
@[simp] theorem zz21 : zeroA Try.prog 21 = some (.int .i32 0) := by kernel_rfl
@[simp] theorem sz22 : szOf Try.prog 22 = some 1 := by kernel_rfl
@[simp] theorem ag22 : aggT Try.prog 22 = some false := by kernel_rfl
@[simp] theorem zz22 : zeroA Try.prog 22 = some (.nils) := by kernel_rfl
@[simp] theorem sz23 : szOf Try.prog 23 = some 1 := by kernel_rfl
@[simp] theorem ag23 : aggT Try.prog 23 = some false := by kernel_rfl
@[simp] theorem zz23 : zeroA Try.prog 23 = some (.nils) := by kernel_rfl
@[simp] theorem sz24 : szOf Try.prog 24 = some 1 := by kernel_rfl
@[simp] theorem ag24 : aggT Try.prog 24 = some false := by kernel_rfl
@[simp] theorem zz24 : zeroA Try.prog 24 = some (.nils) := by kernel_rfl
@[simp] theorem sz25 : szOf Try.prog 25 = some 3 := by kernel_rfl
@[simp] theorem ag25 : aggT Try.prog 25 = some true := by kernel_rfl
@[simp] theorem zz25 : zeroA Try.prog 25 = some (.agg [.int .i64 0, .int .i64 0, .int .i64 0]) := by kernel_rfl
@[simp] theorem sz26 : szOf Try.prog 26 = some 3 := by kernel_rfl
@[simp] theorem ag26 : aggT Try.prog 26 = some true := by kernel_rfl
@[simp] theorem zz26 : zeroA Try.prog 26 = some (.agg [.int .i64 0, .int .i64 0, .int .i64 0]) := by kernel_rfl
@[simp] theorem sz27 : szOf Try.prog 27 = some 1 := by kernel_rfl
@[simp] theorem ag27 : aggT Try.prog 27 = some false := by kernel_rfl
@[simp] theorem zz27 : zeroA Try.prog 27 = some (.nilf) := by kernel_rfl
@[simp] theorem sz28 : szOf Try.prog 28 = some 3 := by kernel_rfl
@[simp] theorem ag28 : aggT Try.prog 28 = some true := by kernel_rfl
@[simp] theorem zz28 : zeroA Try.prog 28 = some (.agg [.int .i64 0, .int .i64 0, .int .i64 0]) := by kernel_rfl
@[simp] theorem sz29 : szOf Try.prog 29 = some 3 := by kernel_rfl
@[simp] theorem ag29 : aggT Try.prog 29 = some true := by kernel_rfl
@[simp] theorem zz29 : zeroA Try.prog 29 = some (.agg [.int .i64 0, .int .i64 0, .int .i64 0]) := by kernel_rfl
@[simp] theorem sz30 : szOf Try.prog 30 = some 1 := by kernel_rfl
@[simp] theorem ag30 : aggT Try.prog 30 = some false := by kernel_rfl
@[simp] theorem zz30 : zeroA Try.prog 30 = some (.nils) := by kernel_rfl
@[simp] theorem sz31 : szOf Try.prog 31 = some 1 := by kernel_rfl
@[simp] theorem ag31 : aggT Try.prog 31 = some false := by kernel_rfl
@[simp] theorem zz31 : zeroA Try.prog 31 = some (.nils) := by kernel_rfl
@[simp] theorem sz32 : szOf Try.prog 32 = some 1 := by kernel_rfl
@[simp] theorem ag32 : aggT Try.prog 32 = some true := by kernel_rfl
@[simp] theorem zz32 : zeroA Try.prog 32 = some (.agg [.nils]) := by kernel_rfl
@[simp] theorem sz33 : szOf Try.prog 33 = some 1 := by kernel_rfl
@[simp] theorem ag33 : aggT Try.prog 33 = some true := by kernel_rfl
@[simp] theorem zz33 : zeroA Try.prog 33 = some (.agg [.nils]) := by kernel_rfl
@[simp] theorem sz34 : szOf Try.prog 34 = some 1 := by kernel_rfl
@[simp] theorem ag34 : aggT Try.prog 34 = some false := by kernel_rfl
@[simp] theorem zz34 : zeroA Try.prog 34 = some (.nils) := by kernel_rfl
@[simp] theorem sz35 : szOf Try.prog 35 = some 1 := by kernel_rfl
@[simp] theorem ag35 : aggT Try.prog 35 = some false := by kernel_rfl
@[simp] theorem zz35 : zeroA Try.prog 35 = some (.nils) := by kernel_rfl
@[simp] theorem sz36 : szOf Try.prog 36 = some 1 := by kernel_rfl
@[simp] theorem ag36 : aggT Try.prog 36 = some false := by kernel_rfl
@[simp] theorem zz36 : zeroA Try.prog 36 = some (.nils) := by kernel_rfl
@[simp] theorem sz37 : szOf Try.prog 37 = some 6 := by kernel_rfl
@[simp] theorem ag37 : aggT Try.prog 37 = some true := by kernel_rfl
@[simp] theorem zz37 : zeroA Try.prog 37 = some (.agg [.int .i64 0, .nils, .nils, .nils, .nils, .nils]) := by kernel_rfl
@[simp] theorem sz38 : szOf Try.prog 38 = some 6 := by kernel_rfl
@[simp] theorem ag38 : aggT Try.prog 38 = some true := by kernel_rfl
@[simp] theorem zz38 : zeroA Try.prog 38 = some (.agg [.int .i64 0, .nils, .nils, .nils, .nils, .nils]) := by kernel_rfl
@[simp] theorem sz39 : szOf Try.prog 39 = some 1 := by kernel_rfl
@[simp] theorem ag39 : aggT Try.prog 39 = some false := by kernel_rfl
@[simp] theorem sz40 : szOf Try.prog 40 = some 1 := by kernel_rfl
@[simp] theorem ag40 : aggT Try.prog 40 = some false := by kernel_rfl
@[simp] theorem zz40 : zeroA Try.prog 40 = some (.nilf) := by kernel_rfl
@[simp] theorem sz41 : szOf Try.prog 41 = some 1 := by kernel_rfl
@[simp] theorem ag41 : aggT Try.prog 41 = some false := by kernel_rfl
@[simp] theorem zz41 : zeroA Try.prog 41 = some (.nilf) := by kernel_rfl
@[simp] theorem sz42 : szOf Try.prog 42 = some 1 := by kernel_rfl
@[simp] theorem ag42 : aggT Try.prog 42 = some false := by kernel_rfl
@[simp] theorem zz42 : zeroA Try.prog 42 = some (.nilf) := by kernel_rfl
@[simp] theorem sz43 : szOf Try.prog 43 = some 1 := by kernel_rfl
@[simp] theorem ag43 : aggT Try.prog 43 = some false := by kernel_rfl
@[simp] theorem zz43 : zeroA Try.prog 43 = some (.nilf) := by kernel_rfl
@[simp] theorem sz44 : szOf Try.prog 44 = some 1 := by kernel_rfl
@[simp] theorem ag44 : aggT Try.prog 44 = some false := by kernel_rfl
@[simp] theorem zz44 : zeroA Try.prog 44 = some (.nils) := by kernel_rfl
@[simp] theorem sz45 : szOf Try.prog 45 = some 1 := by kernel_rfl
@[simp] theorem ag45 : aggT Try.prog 45 = some false := by kernel_rfl
@[simp] theorem zz45 : zeroA Try.prog 45 = some (.nils) := by kernel_rfl
@[simp] theorem sz46 : szOf Try.prog 46 = some 1 := by kernel_rfl
@[simp] theorem ag46 : aggT Try.prog 46 = some false := by kernel_rfl
@[simp] theorem zz46 : zeroA Try.prog 46 = some (.nils) := by kernel_rfl
@[simp] theorem sz47 : szOf Try.prog 47 = some 1 := by kernel_rfl
@[simp] theorem ag47 : aggT Try.prog 47 = some false := by kernel_rfl
@[simp] theorem zz47 : zeroA Try.prog 47 = some (.nils) := by kernel_rfl
@[simp] theorem sz48 : szOf Try.prog 48 = some 1 := by kernel_rfl
@[simp] theorem ag48 : aggT Try.prog 48 = some false := by kernel_rfl
@[simp] theorem zz48 : zeroA Try.prog 48 = some (.nilf) := by kernel_rfl
@[simp] theorem sz49 : szOf Try.prog 49 = some 1 := by kernel_rfl
@[simp] theorem ag49 : aggT Try.prog 49 = some false := by kernel_rfl
@[simp] theorem zz49 : zeroA Try.prog 49 = some (.nilf) := by kernel_rfl
@[simp] theorem sz50 : szOf Try.prog 50 = some 1 := by kernel_rfl
@[simp] theorem ag50 : aggT Try.prog 50 = some false := by kernel_rfl
@[simp] theorem zz50 : zeroA Try.prog 50 = some (.nilf) := by kernel_rfl
@[simp] theorem sz51 : szOf Try.prog 51 = some 1 := by kernel_rfl
@[simp] theorem ag51 : aggT Try.prog 51 = some false := by kernel_rfl
@[simp] theorem zz51 : zeroA Try.prog 51 = some (.nilf) := by kernel_rfl
@[simp] theorem sz52 : szOf Try.prog 52 = some 1 := by kernel_rfl
@[simp] theorem ag52 : aggT Try.prog 52 = some false := by kernel_rfl
@[simp] theorem sz53 : szOf Try.prog 53 = some 1 := by kernel_rfl
@[simp] theorem ag53 : aggT Try.prog 53 = some false := by kernel_rfl
@[simp] theorem zz53 : zeroA Try.prog 53 = some (.nilf) := by kernel_rfl
@[simp] theorem sz54 : szOf Try.prog 54 = some 1 := by kernel_rfl
@[simp] theorem ag54 : aggT Try.prog 54 = some false := by kernel_rfl
@[simp] theorem zz54 : zeroA Try.prog 54 = some (.nilf) := by kernel_rfl
@[simp] theorem sz55 : szOf Try.prog 55 = some 1 := by kernel_rfl
@[simp] theorem ag55 : aggT Try.prog 55 = some false := by kernel_rfl
@[simp] theorem zz55 : zeroA Try.prog 55 = some (.int .u64 0) := by kernel_rfl
@[simp] theorem sz56 : szOf Try.prog 56 = some 2 := by kernel_rfl
@[simp] theorem ag56 : aggT Try.prog 56 = some true := by kernel_rfl
@[simp] theorem zz56 : zeroA Try.prog 56 = some (.agg [.int .u64 0, .int .i64 0]) := by kernel_rfl
@[simp] theorem sz57 : szOf Try.prog 57 = some 2 := by kernel_rfl
@[simp] theorem ag57 : aggT Try.prog 57 = some true := by kernel_rfl
@[simp] theorem zz57 : zeroA Try.prog 57 = some (.agg [.int .u64 0, .int .i64 0]) := by kernel_rfl
@[simp] theorem sz58 : szOf Try.prog 58 = some 1 := by kernel_rfl
@[simp] theorem ag58 : aggT Try.prog 58 = some false := by kernel_rfl
@[simp] theorem zz58 : zeroA Try.prog 58 = some (.nilf) := by kernel_rfl
@[simp] theorem sz59 : szOf Try.prog 59 = some 1 := by kernel_rfl
@[simp] theorem ag59 : aggT Try.prog 59 = some false := by kernel_rfl
@[simp] theorem zz59 : zeroA Try.prog 59 = some (.nilf) := by kernel_rfl
@[simp] theorem sz60 : szOf Try.prog 60 = some 1 := by kernel_rfl
@[simp] theorem ag60 : aggT Try.prog 60 = some false := by kernel_rfl
@[simp] theorem zz60 : zeroA Try.prog 60 = some (.nilf) := by kernel_rfl
@[simp] theorem sz61 : szOf Try.prog 61 = some 3 := by kernel_rfl
@[simp] theorem ag61 : aggT Try.prog 61 = some true := by kernel_rfl
@[simp] theorem zz61 : zeroA Try.prog 61 = some (.agg [.int .u64 0, .int .i64 0, .int .i64 0]) := by kernel_rfl
@[simp] theorem sz62 : szOf Try.prog 62 = some 3 := by kernel_rfl
@[simp] theorem ag62 : aggT Try.prog 62 = some true := by kernel_rfl
@[simp] theorem zz62 : zeroA Try.prog 62 = some (.agg [.int .u64 0, .int .i64 0, .int .i64 0]) := by kernel_rfl
@[simp] theorem sz63 : szOf Try.prog 63 = some 1 := by kernel_rfl
@[simp] theorem ag63 : aggT Try.prog 63 = some false := by kernel_rfl
@[simp] theorem sz64 : szOf Try.prog 64 = some 1 := by kernel_rfl
@[simp] theorem ag64 : aggT Try.prog 64 = some false := by kernel_rfl
@[simp] theorem zz64 : zeroA Try.prog 64 = some (.nilf) := by kernel_rfl
@[simp] theorem sz65 : szOf Try.prog 65 = some 1 := by kernel_rfl
@[simp] theorem ag65 : aggT Try.prog 65 = some false := by kernel_rfl
@[simp] theorem zz65 : zeroA Try.prog 65 = some (.nilf) := by kernel_rfl
@[simp] theorem sz66 : szOf Try.prog 66 = some 1 := by kernel_rfl
@[simp] theorem ag66 : aggT Try.prog 66 = some false := by kernel_rfl
@[simp] theorem zz66 : zeroA Try.prog 66 = some (.nilf) := by kernel_rfl
@[simp] theorem sz67 : szOf Try.prog 67 = some 1 := by kernel_rfl
@[simp] theorem ag67 : aggT Try.prog 67 = some false := by kernel_rfl
@[simp] theorem zz67 : zeroA Try.prog 67 = some (.nilp) := by kernel_rfl
@[simp] theorem sz68 : szOf Try.prog 68 = some 1 := by kernel_rfl
@[simp] theorem ag68 : aggT Try.prog 68 = some false := by kernel_rfl
@[simp] theorem zz68 : zeroA Try.prog 68 = some (.nilf) := by kernel_rfl
@[simp] theorem sz69 : szOf Try.prog 69 = some 1 := by kernel_rfl
@[simp] theorem ag69 : aggT Try.prog 69 = some false := by kernel_rfl
@[simp] theorem zz69 : zeroA Try.prog 69 = some (.nilf) := by kernel_rfl
@[simp] theorem sz70 : szOf Try.prog 70 = some 1 := by kernel_rfl
@[simp] theorem ag70 : aggT Try.prog 70 = some false := by kernel_rfl
@[simp] theorem zz70 : zeroA Try.prog 70 = some (.nilf) := by kernel_rfl
@[simp] theorem sz71 : szOf Try.prog 71 = some 1 := by kernel_rfl
@[simp] theorem ag71 : aggT Try.prog 71 = some false := by kernel_rfl
@[simp] theorem zz71 : zeroA Try.prog 71 = some (.nils) := by kernel_rfl
@[simp] theorem sz72 : szOf Try.prog 72 = some 1 := by kernel_rfl
@[simp] theorem ag72 : aggT Try.prog 72 = some false := by kernel_rfl
@[simp] theorem zz72 : zeroA Try.prog 72 = some (.nilf) := by kernel_rfl
@[simp] theorem sz73 : szOf Try.prog 73 = some 1 := by kernel_rfl
@[simp] theorem ag73 : aggT Try.prog 73 = some false := by kernel_rfl
@[simp] theorem zz73 : zeroA Try.prog 73 = some (.nilf) := by kernel_rfl
@[simp] theorem sz74 : szOf Try.prog 74 = some 1 := by kernel_rfl
@[simp] theorem ag74 : aggT Try.prog 74 = some false := by kernel_rfl
@[simp] theorem zz74 : zeroA Try.prog 74 = some (.nilf) := by kernel_rfl
@[simp] theorem sz75 : szOf Try.prog 75 = some 1 := by kernel_rfl
@[simp] theorem ag75 : aggT Try.prog 75 = some false := by kernel_rfl
@[simp] theorem zz75 : zeroA Try.prog 75 = some (.nilf) := by kernel_rfl
@[simp] theorem sz76 : szOf Try.prog 76 = some 1 := by kernel_rfl
@[simp] theorem ag76 : aggT Try.prog 76 = some false := by kernel_rfl
@[simp] theorem sz77 : szOf Try.prog 77 = some 1 := by kernel_rfl
@[simp] theorem ag77 : aggT Try.prog 77 = some false := by kernel_rfl
@[simp] theorem zz77 : zeroA Try.prog 77 = some (.nilf) := by kernel_rfl
@[simp] theorem sz78 : szOf Try.prog 78 = some 1 := by kernel_rfl
@[simp] theorem ag78 : aggT Try.prog 78 = some false := by kernel_rfl
@[simp] theorem zz78 : zeroA Try.prog 78 = some (.nilf) := by kernel_rfl
@[simp] theorem sz79 : szOf Try.prog 79 = some 1 := by kernel_rfl
@[simp] theorem ag79 : aggT Try.prog 79 = some false := by kernel_rfl
@[simp] theorem zz79 : zeroA Try.prog 79 = some (.nilf) := by kernel_rfl
@[simp] theorem sz80 : szOf Try.prog 80 = some 1 := by kernel_rfl
@[simp] theorem ag80 : aggT Try.prog 80 = some false := by kernel_rfl
@[simp] theorem zz80 : zeroA Try.prog 80 = some (.nilf) := by kernel_rfl
@[simp] theorem sz81 : szOf Try.prog 81 = some 1 := by kernel_rfl
@[simp] theorem ag81 : aggT Try.prog 81 = some false := by kernel_rfl
@[simp] theorem zz81 : zeroA Try.prog 81 = some (.nilf) := by kernel_rfl
@[simp] theorem sz82 : szOf Try.prog 82 = some 1 := by kernel_rfl
@[simp] theorem ag82 : aggT Try.prog 82 = some false := by kernel_rfl
@[simp] theorem zz82 : zeroA Try.prog 82 = some (.nilf) := by kernel_rfl
@[simp] theorem sz83 : szOf Try.prog 83 = some 2 := by kernel_rfl
@[simp] theorem ag83 : aggT Try.prog 83 = some true := by kernel_rfl
@[simp] theorem zz83 : zeroA Try.prog 83 = some (.agg [.int .i64 0, .int .i64 0]) := by kernel_rfl
@[simp] theorem sz84 : szOf Try.prog 84 = some 2 := by kernel_rfl
@[simp] theorem ag84 : aggT Try.prog 84 = some true := by kernel_rfl
@[simp] theorem zz84 : zeroA Try.prog 84 = some (.agg [.int .i64 0, .int .i64 0]) := by kernel_rfl
@[simp] theorem sz85 : szOf Try.prog 85 = some 1 := by kernel_rfl
@[simp] theorem ag85 : aggT Try.prog 85 = some false := by kernel_rfl
@[simp] theorem zz85 : zeroA Try.prog 85 = some (.nilf) := by kernel_rfl
@[simp] theorem sz86 : szOf Try.prog 86 = some 1 := by kernel_rfl
@[simp] theorem ag86 : aggT Try.prog 86 = some false := by kernel_rfl
@[simp] theorem zz86 : zeroA Try.prog 86 = some (.nils) := by kernel_rfl
@[simp] theorem sz87 : szOf Try.prog 87 = some 1 := by kernel_rfl
@[simp] theorem ag87 : aggT Try.prog 87 = some false := by kernel_rfl
@[simp] theorem zz87 : zeroA Try.prog 87 = some (.nils) := by kernel_rfl
@[simp] theorem sz88 : szOf Try.prog 88 = some 3 := by kernel_rfl
@[simp] theorem ag88 : aggT Try.prog 88 = some true := by kernel_rfl
@[simp] theorem zz88 : zeroA Try.prog 88 = some (.agg [.nils, .nils, .int .i64 0]) := by kernel_rfl
@[simp] theorem sz89 : szOf Try.prog 89 = some 3 := by kernel_rfl
@[simp] theorem ag89 : aggT Try.prog 89 = some true := by kernel_rfl
@[simp] theorem zz89 : zeroA Try.prog 89 = some (.agg [.nils, .nils, .int .i64 0]) := by kernel_rfl
@[simp] theorem sz90 : szOf Try.prog 90 = some 8 := by kernel_rfl
@[simp] theorem ag90 : aggT Try.prog 90 = some true := by kernel_rfl
@[simp] theorem zz90 : zeroA Try.prog 90 = some (.agg [.int .i64 0, .int .i64 0, .int .i64 0, .int .i64 0, .int .i64 0, .int .i64 0, .int .i64 0, .int .i64 0]) := by kernel_rfl
@[simp] theorem sz91 : szOf Try.prog 91 = some 9 := by kernel_rfl
@[simp] theorem ag91 : aggT Try.prog 91 = some true := by kernel_rfl
@[simp] theorem zz91 : zeroA Try.prog 91 = some (.agg [.int .i64 0, .int .i64 0, .int .i64 0, .int .i64 0, .int .i64 0, .int .i64 0, .int .i64 0, .int .i64 0, .int .i64 0]) := by kernel_rfl
@[simp] theorem sz92 : szOf Try.prog 92 = some 9 := by kernel_rfl
@[simp] theorem ag92 : aggT Try.prog 92 = some true := by kernel_rfl
@[simp] theorem zz92 : zeroA Try.prog 92 = some (.agg [.int .i64 0, .int .i64 0, .int .i64 0, .int .i64 0, .int .i64 0, .int .i64 0, .int .i64 0, .int .i64 0, .int .i64 0]) := by kernel_rfl
@[simp] theorem sz93 : szOf Try.prog 93 = some 1 := by kernel_rfl
@[simp] theorem ag93 : aggT Try.prog 93 = some false := by kernel_rfl
@[simp] theorem zz93 : zeroA Try.prog 93 = some (.nils) := by kernel_rfl
@[simp] theorem sz94 : szOf Try.prog 94 = some 1 := by kernel_rfl
@[simp] theorem ag94 : aggT Try.prog 94 = some false := by kernel_rfl
@[simp] theorem zz94 : zeroA Try.prog 94 = some (.nils) := by kernel_rfl
@[simp] theorem sz95 : szOf Try.prog 95 = some 20 := by kernel_rfl
@[simp] theorem ag95 : aggT Try.prog 95 = some true := by kernel_rfl
@[simp] theorem zz95 : zeroA Try.prog 95 = some (.agg [.int .i64 0, .int .u64 0, .nils, .nils, .nils, .int .i64 0, .int .i64 0, .int .i64 0, .int .i64 0, .int .i64 0, .int .i64 0, .int .i64 0, .int .i64 0, .int .i64 0, .int .i64 0, .nils, .nils, .int .i64 0, .int .i64 0, .int .i64 0]) := by kernel_rfl
@[simp] theorem sz96 : szOf Try.prog 96 = some 20 := by kernel_rfl
@[simp] theorem ag96 : aggT Try.prog 96 = some true := by kernel_rfl
@[simp] theorem zz96 : zeroA Try.prog 96 = some (.agg [.int .i64 0, .int .u64 0, .nils, .nils, .nils, .int .i64 0, .int .i64 0, .int .i64 0, .int .i64 0, .int .i64 0, .int .i64 0, .int .i64 0, .int .i64 0, .int .i64 0, .int .i64 0, .nils, .nils, .int .i64 0, .int .i64 0, .int .i64 0]) := by kernel_rfl
@[simp] theorem sz97 : szOf Try.prog 97 = some 1 := by kernel_rfl
@[simp] theorem ag97 : aggT Try.prog 97 = some false := by kernel_rfl
@[simp] theorem zz97 : zeroA Try.prog 97 = some (.nils) := by kernel_rfl
@[simp] theorem sz98 : szOf Try.prog 98 = some 1 := by kernel_rfl
@[simp] theorem ag98 : aggT Try.prog 98 = some false := by kernel_rfl
@[simp] theorem zz98 : zeroA Try.prog 98 = some (.nils) := by kernel_rfl
@[simp] theorem sz99 : szOf Try.prog 99 = some 2 := by kernel_rfl
@[simp] theorem ag99 : aggT Try.prog 99 = some true := by kernel_rfl
@[simp] theorem zz99 : zeroA Try.prog 99 = some (.agg [.nils, .nils]) := by kernel_rfl
@[simp] theorem sz100 : szOf Try.prog 100 = some 2 := by kernel_rfl
@[simp] theorem ag100 : aggT Try.prog 100 = some true := by kernel_rfl
@[simp] theorem zz100 : zeroA Try.prog 100 = some (.agg [.int .i64 0, .int .i64 0]) := by kernel_rfl
@[simp] theorem sz101 : szOf Try.prog 101 = some 1 := by kernel_rfl
@[simp] theorem ag101 : aggT Try.prog 101 = some false := by kernel_rfl
@[simp] theorem zz101 : zeroA Try.prog 101 = some (.nils) := by kernel_rfl
@[simp] theorem sz102 : szOf Try.prog 102 = some 36 := by kernel_rfl
@[simp] theorem ag102 : aggT Try.prog 102 = some true := by kernel_rfl
@[simp] theorem zz102 : zeroA Try.prog 102 = some (.agg [.int .u64 0, .int .i64 0, .int .i64 0, .int .i64 0, .int .u64 0, .nils, .nils, .nils, .int .i64 0, .int .i64 0, .int .i64 0, .int .i64 0, .int .i64 0, .int .i64 0, .int .i64 0, .int .i64 0, .int .i64 0, .int .i64 0, .nils, .nils, .int .i64 0, .int .i64 0, .int .i64 0, .nils, .nils, .int .i64 0, .int .u64 0, .int .i64 0, .int .i64 0, .nils, .nils, .nils, .int .i64 0, .int .i64 0, .int .i64 0, .nils]) := by kernel_rfl
@[simp] theorem sz103 : szOf Try.prog 103 = some 36 := by kernel_rfl
@[simp] theorem ag103 : aggT Try.prog 103 = some true := by kernel_rfl
@[simp] theorem zz103 : zeroA Try.prog 103 = some (.agg [.int .u64 0, .int .i64 0, .int .i64 0, .int .i64 0, .int .u64 0, .nils, .nils, .nils, .int .i64 0, .int .i64 0, .int .i64 0, .int .i64 0, .int .i64 0, .int .i64 0, .int .i64 0, .int .i64 0, .int .i64 0, .int .i64 0, .nils, .nils, .int .i64 0, .int .i64 0, .int .i64 0, .nils, .nils, .int .i64 0, .int .u64 0, .int .i64 0, .int .i64 0, .nils, .nils, .nils, .int .i64 0, .int .i64 0, .int .i64 0, .nils]) := by kernel_rfl
@[simp] theorem sz104 : szOf Try.prog 104 = some 38 := by kernel_rfl
@[simp] theorem ag104 : aggT Try.prog 104 = some true := by kernel_rfl
@[simp] theorem zz104 : zeroA Try.prog 104 = some (.agg [.int .u64 0, .int .i64 0, .int .i64 0, .int .i64 0, .int .u64 0, .nils, .nils, .nils, .int .i64 0, .int .i64 0, .int .i64 0, .int .i64 0, .int .i64 0, .int .i64 0, .int .i64 0, .int .i64 0, .int .i64 0, .int .i64 0, .nils, .nils, .int .i64 0, .int .i64 0, .int .i64 0, .nils, .nils, .int .i64 0, .int .u64 0, .int .i64 0, .int .i64 0, .nils, .nils, .nils, .int .i64 0, .int .i64 0, .int .i64 0, .nils, .nils, .nils]) := by kernel_rfl
@[simp] theorem sz105 : szOf Try.prog 105 = some 38 := by kernel_rfl
@[simp] theorem ag105 : aggT Try.prog 105 = some true := by kernel_rfl
@[simp] theorem zz105 : zeroA Try.prog 105 = some (.agg [.int .u64 0, .int .i64 0, .int .i64 0, .int .i64 0, .int .u64 0, .nils, .nils, .nils, .int .i64 0, .int .i64 0, .int .i64 0, .int .i64 0, .int .i64 0, .int .i64 0, .int .i64 0, .int .i64 0, .int .i64 0, .int .i64 0, .nils, .nils, .int .i64 0, .int .i64 0, .int .i64 0, .nils, .nils, .int .i64 0, .int .u64 0, .int .i64 0, .int .i64 0, .nils, .nils, .nils, .int .i64 0, .int .i64 0, .int .i64 0, .nils, .nils, .nils]) := by kernel_rfl
@[simp] theorem sz106 : szOf Try.prog 106 = some 1 := by kernel_rfl
@[simp] theorem ag106 : aggT Try.prog 106 = some false := by kernel_rfl
@[simp] theorem zz106 : zeroA Try.prog 106 = some (.nilf) := by kernel_rfl
@[simp] theorem sz107 : szOf Try.prog 107 = some 1 := by kernel_rfl
@[simp] theorem ag107 : aggT Try.prog 107 = some false := by kernel_rfl
@[simp] theorem zz107 : zeroA Try.prog 107 = some (.nilf) := by kernel_rfl
@[simp] theorem sz108 : szOf Try.prog 108 = some 2 := by kernel_rfl
@[simp] theorem ag108 : aggT Try.prog 108 = some true := by kernel_rfl
@[simp] theorem zz108 : zeroA Try.prog 108 = some (.agg [.nils, .int .i64 0]) := by kernel_rfl
@[simp] theorem sz109 : szOf Try.prog 109 = some 2 := by kernel_rfl
@[simp] theorem ag109 : aggT Try.prog 109 = some true := by kernel_rfl
@[simp] theorem zz109 : zeroA Try.prog 109 = some (.agg [.nils, .int .i64 0]) := by kernel_rfl
@[simp] theorem sz110 : szOf Try.prog 110 = some 3 := by kernel_rfl
@[simp] theorem ag110 : aggT Try.prog 110 = some true := by kernel_rfl
@[simp] theorem zz110 : zeroA Try.prog 110 = some (.agg [.int .u64 0, .int .u64 0, .int .i64 0]) := by kernel_rfl
@[simp] theorem sz111 : szOf Try.prog 111 = some 3 := by kernel_rfl
@[simp] theorem ag111 : aggT Try.prog 111 = some true := by kernel_rfl
@[simp] theorem zz111 : zeroA Try.prog 111 = some (.agg [.int .u64 0, .int .u64 0, .int .i64 0]) := by kernel_rfl
@[simp] theorem sz112 : szOf Try.prog 112 = some 1 := by kernel_rfl
@[simp] theorem ag112 : aggT Try.prog 112 = some false := by kernel_rfl
@[simp] theorem zz112 : zeroA Try.prog 112 = some (.nilf) := by kernel_rfl
@[simp] theorem sz113 : szOf Try.prog 113 = some 1 := by kernel_rfl
@[simp] theorem ag113 : aggT Try.prog 113 = some false := by kernel_rfl
@[simp] theorem zz113 : zeroA Try.prog 113 = some (.nilf) := by kernel_rfl
@[simp] theorem sz114 : szOf Try.prog 114 = some 1 := by kernel_rfl
@[simp] theorem ag114 : aggT Try.prog 114 = some false := by kernel_rfl
@[simp] theorem zz114 : zeroA Try.prog 114 = some (.nilf) := by kernel_rfl
@[simp] theorem sz115 : szOf Try.prog 115 = some 1 := by kernel_rfl
@[simp] theorem ag115 : aggT Try.prog 115 = some false := by kernel_rfl
@[simp] theorem zz115 : zeroA Try.prog 115 = some (.nilf) := by kernel_rfl
@[simp] theorem sz116 : szOf Try.prog 116 = some 1 := by kernel_rfl
@[simp] theorem ag116 : aggT Try.prog 116 = some false := by kernel_rfl
@[simp] theorem zz116 : zeroA Try.prog 116 = some (.nilf) := by kernel_rfl
@[simp] theorem sz117 : szOf Try.prog 117 = some 1 := by kernel_rfl
@[simp] theorem ag117 : aggT Try.prog 117 = some false := by kernel_rfl
@[simp] theorem zz117 : zeroA Try.prog 117 = some (.nilf) := by kernel_rfl
@[simp] theorem sz118 : szOf Try.prog 118 = some 1 := by kernel_rfl
@[simp] theorem ag118 : aggT Try.prog 118 = some false := by kernel_rfl
@[simp] theorem zz118 : zeroA Try.prog 118 = some (.nilf) := by kernel_rfl
@[simp] theorem sz119 : szOf Try.prog 119 = some 1 := by kernel_rfl
@[simp] theorem ag119 : aggT Try.prog 119 = some false := by kernel_rfl
@[simp] theorem zz119 : zeroA Try.prog 119 = some (.nilf) := by kernel_rfl
@[simp] theorem sz120 : szOf Try.prog 120 = some 1 := by kernel_rfl
@[simp] theorem ag120 : aggT Try.prog 120 = some false := by kernel_rfl
@[simp] theorem zz120 : zeroA Try.prog 120 = some (.nilf) := by kernel_rfl
@[simp] theorem sz121 : szOf Try.prog 121 = some 1 := by kernel_rfl
@[simp] theorem ag121 : aggT Try.prog 121 = some false := by kernel_rfl
@[simp] theorem zz121 : zeroA Try.prog 121 = some (.nilf) := by kernel_rfl
@[simp] theorem sz122 : szOf Try.prog 122 = some 1 := by kernel_rfl
@[simp] theorem ag122 : aggT Try.prog 122 = some false := by kernel_rfl
@[simp] theorem zz122 : zeroA Try.prog 122 = some (.nilf) := by kernel_rfl
@[simp] theorem sz123 : szOf Try.prog 123 = some 1 := by kernel_rfl
@[simp] theorem ag123 : aggT Try.prog 123 = some false := by kernel_rfl
@[simp] theorem zz123 : zeroA Try.prog 123 = some (.nilf) := by kernel_rfl
@[simp] theorem sz124 : szOf Try.prog 124 = some 1 := by kernel_rfl
@[simp] theorem ag124 : aggT Try.prog 124 = some false := by kernel_rfl
@[simp] theorem zz124 : zeroA Try.prog 124 = some (.nilf) := by kernel_rfl
@[simp] theorem sz125 : szOf Try.prog 125 = some 1 := by kernel_rfl
@[simp] theorem ag125 : aggT Try.prog 125 = some false := by kernel_rfl
@[simp] theorem zz125 : zeroA Try.prog 125 = some (.nilf) := by kernel_rfl
@[simp] theorem sz126 : szOf Try.prog 126 = some 1 := by kernel_rfl
@[simp] theorem ag126 : aggT Try.prog 126 = some false := by kernel_rfl
@[simp] theorem zz126 : zeroA Try.prog 126 = some (.nilf) := by kernel_rfl
@[simp] theorem sz127 : szOf Try.prog 127 = some 1 := by kernel_rfl
@[simp] theorem ag127 : aggT Try.prog 127 = some false := by kernel_rfl
@[simp] theorem zz127 : zeroA Try.prog 127 = some (.nilf) := by kernel_rfl
@[simp] theorem sz128 : szOf Try.prog 128 = some 1 := by kernel_rfl
@[simp] theorem ag128 : aggT Try.prog 128 = some false := by kernel_rfl
@[simp] theorem zz128 : zeroA Try.prog 128 = some (.nilf) := by kernel_rfl
@[simp] theorem sz129 : szOf Try.prog 129 = some 1 := by kernel_rfl
@[simp] theorem ag129 : aggT Try.prog 129 = some false := by kernel_rfl
@[simp] theorem zz129 : zeroA Try.prog 129 = some (.nilf) := by kernel_rfl
@[simp] theorem sz130 : szOf Try.prog 130 = some 1 := by kernel_rfl
@[simp] theorem ag130 : aggT Try.prog 130 = some false := by kernel_rfl
@[simp] theorem zz130 : zeroA Try.prog 130 = some (.nilm) := by kernel_rfl
@[simp] theorem sz131 : szOf Try.prog 131 = some 1 := by kernel_rfl
@[simp] theorem ag131 : aggT Try.prog 131 = some false := by kernel_rfl
@[simp] theorem zz131 : zeroA Try.prog 131 = some (.nilf) := by kernel_rfl
@[simp] theorem sz132 : szOf Try.prog 132 = some 1 := by kernel_rfl
@[simp] theorem ag132 : aggT Try.prog 132 = some false := by kernel_rfl
@[simp] theorem zz132 : zeroA Try.prog 132 = some (.nilf) := by kernel_rfl
@[simp] theorem sz133 : szOf Try.prog 133 = some 1 := by kernel_rfl
@[simp] theorem ag133 : aggT Try.prog 133 = some false := by kernel_rfl
@[simp] theorem zz133 : zeroA Try.prog 133 = some (.nilf) := by kernel_rfl
@[simp] theorem sz134 : szOf Try.prog 134 = some 1 := by kernel_rfl
@[simp] theorem ag134 : aggT Try.prog 134 = some false := by kernel_rfl
@[simp] theorem zz134 : zeroA Try.prog 134 = some (.nilf) := by kernel_rfl
@[simp] theorem sz135 : szOf Try.prog 135 = some 1 := by kernel_rfl
@[simp] theorem ag135 : aggT Try.prog 135 = some false := by kernel_rfl
@[simp] theorem zz135 : zeroA Try.prog 135 = some (.nilf) := by kernel_rfl
@[simp] theorem sz136 : szOf Try.prog 136 = some 1 := by kernel_rfl
@[simp] theorem ag136 : aggT Try.prog 136 = some false := by kernel_rfl
@[simp] theorem zz136 : zeroA Try.prog 136 = some (.nilf) := by kernel_rfl
@[simp] theorem sz137 : szOf Try.prog 137 = some 1 := by kernel_rfl
@[simp] theorem ag137 : aggT Try.prog 137 = some false := by kernel_rfl
@[simp] theorem zz137 : zeroA Try.prog 137 = some (.nilf) := by kernel_rfl
@[simp] theorem sz138 : szOf Try.prog 138 = some 1 := by kernel_rfl
@[simp] theorem ag138 : aggT Try.prog 138 = some false := by kernel_rfl
@[simp] theorem zz138 : zeroA Try.prog 138 = some (.nilf) := by kernel_rfl
@[simp] theorem sz139 : szOf Try.prog 139 = some 1 := by kernel_rfl
@[simp] theorem ag139 : aggT Try.prog 139 = some false := by kernel_rfl
@[simp] theorem zz139 : zeroA Try.prog 139 = some (.nilf) := by kernel_rfl
@[simp] theorem sz140 : szOf Try.prog 140 = some 1 := by kernel_rfl
@[simp] theorem ag140 : aggT Try.prog 140 = some false := by kernel_rfl
@[simp] theorem zz140 : zeroA Try.prog 140 = some (.nilf) := by kernel_rfl
@[simp] theorem sz141 : szOf Try.prog 141 = some 1 := by kernel_rfl
@[simp] theorem ag141 : aggT Try.prog 141 = some false := by kernel_rfl
@[simp] theorem zz141 : zeroA Try.prog 141 = some (.nilf) := by kernel_rfl
@[simp] theorem sz142 : szOf Try.prog 142 = some 1 := by kernel_rfl
@[simp] theorem ag142 : aggT Try.prog 142 = some false := by kernel_rfl
@[simp] theorem zz142 : zeroA Try.prog 142 = some (.nilf) := by kernel_rfl
@[simp] theorem sz143 : szOf Try.prog 143 = some 1 := by kernel_rfl
@[simp] theorem ag143 : aggT Try.prog 143 = some false := by kernel_rfl
@[simp] theorem zz143 : zeroA Try.prog 143 = some (.nilf) := by kernel_rfl
@[simp] theorem sz144 : szOf Try.prog 144 = some 1 := by kernel_rfl
@[simp] theorem ag144 : aggT Try.prog 144 = some false := by kernel_rfl
@[simp] theorem zz144 : zeroA Try.prog 144 = some (.nilf) := by kernel_rfl
@[simp] theorem sz145 : szOf Try.prog 145 = some 1 := by kernel_rfl
@[simp] theorem ag145 : aggT Try.prog 145 = some false := by kernel_rfl
@[simp] theorem zz145 : zeroA Try.prog 145 = some (.nilf) := by kernel_rfl
@[simp] theorem sz146 : szOf Try.prog 146 = some 1 := by kernel_rfl
@[simp] theorem ag146 : aggT Try.prog 146 = some false := by kernel_rfl
@[simp] theorem zz146 : zeroA Try.prog 146 = some (.nilf) := by kernel_rfl
@[simp] theorem sz147 : szOf Try.prog 147 = some 1 := by kernel_rfl
@[simp] theorem ag147 : aggT Try.prog 147 = some false := by kernel_rfl
@[simp] theorem zz147 : zeroA Try.prog 147 = some (.nilf) := by kernel_rfl
@[simp] theorem sz148 : szOf Try.prog 148 = some 1 := by kernel_rfl
@[simp] theorem ag148 : aggT Try.prog 148 = some false := by kernel_rfl
@[simp] theorem zz148 : zeroA Try.prog 148 = some (.nilf) := by kernel_rfl
@[simp] theorem sz149 : szOf Try.prog 149 = some 3 := by kernel_rfl
@[simp] theorem ag149 : aggT Try.prog 149 = some true := by kernel_rfl
@[simp] theorem zz149 : zeroA Try.prog 149 = some (.agg [.str ByteArray.empty, .int .i64 0, .nils]) := by kernel_rfl
@[simp] theorem sz150 : szOf Try.prog 150 = some 3 := by kernel_rfl
@[simp] theorem ag150 : aggT Try.prog 150 = some true := by kernel_rfl
@[simp] theorem zz150 : zeroA Try.prog 150 = some (.agg [.str ByteArray.empty, .int .i64 0, .nils]) := by kernel_rfl
@[simp] theorem sz151 : szOf Try.prog 151 = some 1 := by kernel_rfl
@[simp] theorem ag151 : aggT Try.prog 151 = some false := by kernel_rfl
@[simp] theorem zz151 : zeroA Try.prog 151 = some (.nilf) := by kernel_rfl
@[simp] theorem sz152 : szOf Try.prog 152 = some 1 := by kernel_rfl
@[simp] theorem ag152 : aggT Try.prog 152 = some false := by kernel_rfl
@[simp] theorem zz152 : zeroA Try.prog 152 = some (.nilp) := by kernel_rfl
@[simp] theorem sz153 : szOf Try.prog 153 = some 1 := by kernel_rfl
@[simp] theorem ag153 : aggT Try.prog 153 = some false := by kernel_rfl
@[simp] theorem zz153 : zeroA Try.prog 153 = some (.nilf) := by kernel_rfl
@[simp] theorem sz154 : szOf Try.prog 154 = some 2 := by kernel_rfl
@[simp] theorem ag154 : aggT Try.prog 154 = some true := by kernel_rfl
@[simp] theorem zz154 : zeroA Try.prog 154 = some (.agg [.int .u64 0, .bool false]) := by kernel_rfl
@[simp] theorem sz155 : szOf Try.prog 155 = some 2 := by kernel_rfl
@[simp] theorem ag155 : aggT Try.prog 155 = some true := by kernel_rfl
@[simp] theorem zz155 : zeroA Try.prog 155 = some (.agg [.int .u64 0, .bool false]) := by kernel_rfl
@[simp] theorem sz156 : szOf Try.prog 156 = some 1 := by kernel_rfl
@[simp] theorem ag156 : aggT Try.prog 156 = some false := by kernel_rfl
@[simp] theorem zz156 : zeroA Try.prog 156 = some (.nilf) := by kernel_rfl
@[simp] theorem sz157 : szOf Try.prog 157 = some 4 := by kernel_rfl
@[simp] theorem ag157 : aggT Try.prog 157 = some true := by kernel_rfl
@[simp] theorem zz157 : zeroA Try.prog 157 = some (.agg [.int .i64 0, .int .u64 0, .int .u64 0, .int .i64 0]) := by kernel_rfl
@[simp] theorem sz158 : szOf Try.prog 158 = some 4 := by kernel_rfl
@[simp] theorem ag158 : aggT Try.prog 158 = some true := by kernel_rfl
@[simp] theorem zz158 : zeroA Try.prog 158 = some (.agg [.int .i64 0, .int .u64 0, .int .u64 0, .int .i64 0]) := by kernel_rfl
@[simp] theorem sz159 : szOf Try.prog 159 = some 1 := by kernel_rfl
@[simp] theorem ag159 : aggT Try.prog 159 = some false := by kernel_rfl
@[simp] theorem zz159 : zeroA Try.prog 159 = some (.nilf) := by kernel_rfl
@[simp] theorem sz160 : szOf Try.prog 160 = some 1 := by kernel_rfl
@[simp] theorem ag160 : aggT Try.prog 160 = some false := by kernel_rfl
@[simp] theorem zz160 : zeroA Try.prog 160 = some (.nilf) := by kernel_rfl
@[simp] theorem sz161 : szOf Try.prog 161 = some 1 := by kernel_rfl
@[simp] theorem ag161 : aggT Try.prog 161 = some false := by kernel_rfl
@[simp] theorem zz161 : zeroA Try.prog 161 = some (.nilf) := by kernel_rfl
@[simp] theorem sz162 : szOf Try.prog 162 = some 1 := by kernel_rfl
@[simp] theorem ag162 : aggT Try.prog 162 = some false := by kernel_rfl
@[simp] theorem zz162 : zeroA Try.prog 162 = some (.nilf) := by kernel_rfl
@[simp] theorem sz163 : szOf Try.prog 163 = some 1 := by kernel_rfl
@[simp] theorem ag163 : aggT Try.prog 163 = some false := by kernel_rfl
@[simp] theorem zz163 : zeroA Try.prog 163 = some (.nilf) := by kernel_rfl
@[simp] theorem sz164 : szOf Try.prog 164 = some 1 := by kernel_rfl
@[simp] theorem ag164 : aggT Try.prog 164 = some false := by kernel_rfl
@[simp] theorem zz164 : zeroA Try.prog 164 = some (.nilf) := by kernel_rfl
@[simp] theorem sz165 : szOf Try.prog 165 = some 4 := by kernel_rfl
@[simp] theorem ag165 : aggT Try.prog 165 = some true := by kernel_rfl
@[simp] theorem zz165 : zeroA Try.prog 165 = some (.agg [.int .i64 0, .int .i64 0, .int .i64 0, .int .i64 0]) := by kernel_rfl
@[simp] theorem sz166 : szOf Try.prog 166 = some 4 := by kernel_rfl
@[simp] theorem ag166 : aggT Try.prog 166 = some true := by kernel_rfl
@[simp] theorem zz166 : zeroA Try.prog 166 = some (.agg [.int .i64 0, .int .i64 0, .int .i64 0, .int .i64 0]) := by kernel_rfl
@[simp] theorem sz167 : szOf Try.prog 167 = some 1 := by kernel_rfl
@[simp] theorem ag167 : aggT Try.prog 167 = some false := by kernel_rfl
@[simp] theorem zz167 : zeroA Try.prog 167 = some (.nilf) := by kernel_rfl
@[simp] theorem sz168 : szOf Try.prog 168 = some 1 := by kernel_rfl
@[simp] theorem ag168 : aggT Try.prog 168 = some false := by kernel_rfl
@[simp] theorem zz168 : zeroA Try.prog 168 = some (.nilf) := by kernel_rfl
@[simp] theorem sz169 : szOf Try.prog 169 = some 1 := by kernel_rfl
@[simp] theorem ag169 : aggT Try.prog 169 = some false := by kernel_rfl
@[simp] theorem zz169 : zeroA Try.prog 169 = some (.nilf) := by kernel_rfl
@[simp] theorem sz170 : szOf Try.prog 170 = some 1 := by kernel_rfl
@[simp] theorem ag170 : aggT Try.prog 170 = some false := by kernel_rfl
@[simp] theorem zz170 : zeroA Try.prog 170 = some (.nilf) := by kernel_rfl
@[simp] theorem sz171 : szOf Try.prog 171 = some 1 := by kernel_rfl
@[simp] theorem ag171 : aggT Try.prog 171 = some false := by kernel_rfl
@[simp] theorem zz171 : zeroA Try.prog 171 = some (.nilf) := by kernel_rfl
@[simp] theorem sz172 : szOf Try.prog 172 = some 4 := by kernel_rfl
@[simp] theorem ag172 : aggT Try.prog 172 = some true := by kernel_rfl
@[simp] theorem zz172 : zeroA Try.prog 172 = some (.agg [.nilp, .nilp, .nilp, .str ByteArray.empty]) := by kernel_rfl
@[simp] theorem sz173 : szOf Try.prog 173 = some 4 := by kernel_rfl
@[simp] theorem ag173 : aggT Try.prog 173 = some true := by kernel_rfl
@[simp] theorem zz173 : zeroA Try.prog 173 = some (.agg [.nilp, .nilp, .nilp, .str ByteArray.empty]) := by kernel_rfl
@[simp] theorem sz174 : szOf Try.prog 174 = some 0 := by kernel_rfl
@[simp] theorem ag174 : aggT Try.prog 174 = some true := by kernel_rfl
@[simp] theorem zz174 : zeroA Try.prog 174 = some (.agg []) := by kernel_rfl
@[simp] theorem sz175 : szOf Try.prog 175 = some 0 := by kernel_rfl
@[simp] theorem ag175 : aggT Try.prog 175 = some true := by kernel_rfl
@[simp] theorem zz175 : zeroA Try.prog 175 = some (.agg []) := by kernel_rfl
@[simp] theorem sz176 : szOf Try.prog 176 = some 0 := by kernel_rfl
@[simp] theorem ag176 : aggT Try.prog 176 = some true := by kernel_rfl
@[simp] theorem zz176 : zeroA Try.prog 176 = some (.agg []) := by kernel_rfl
@[simp] theorem sz177 : szOf Try.prog 177 = some 1 := by kernel_rfl
@[simp] theorem ag177 : aggT Try.prog 177 = some false := by kernel_rfl
@[simp] theorem zz177 : zeroA Try.prog 177 = some (.nilf) := by kernel_rfl
@[simp] theorem sz178 : szOf Try.prog 178 = some 1 := by kernel_rfl
@[simp] theorem ag178 : aggT Try.prog 178 = some false := by kernel_rfl
@[simp] theorem zz178 : zeroA Try.prog 178 = some (.int .u32 0) := by kernel_rfl
@[simp] theorem sz179 : szOf Try.prog 179 = some 1 := by kernel_rfl
@[simp] theorem ag179 : aggT Try.prog 179 = some false := by kernel_rfl
@[simp] theorem zz179 : zeroA Try.prog 179 = some (.int .u8 0) := by kernel_rfl
@[simp] theorem sz180 : szOf Try.prog 180 = some 1 := by kernel_rfl
@[simp] theorem ag180 : aggT Try.prog 180 = some false := by kernel_rfl
@[simp] theorem zz180 : zeroA Try.prog 180 = some (.int .u8 0) := by kernel_rfl
@[simp] theorem sz181 : szOf Try.prog 181 = some 1 := by kernel_rfl
@[simp] theorem ag181 : aggT Try.prog 181 = some false := by kernel_rfl
@[simp] theorem zz181 : zeroA Try.prog 181 = some (.nilf) := by kernel_rfl
@[simp] theorem sz182 : szOf Try.prog 182 = some 1 := by kernel_rfl
@[simp] theorem ag182 : aggT Try.prog 182 = some false := by kernel_rfl
@[simp] theorem zz182 : zeroA Try.prog 182 = some (.nilp) := by kernel_rfl
@[simp] theorem sz183 : szOf Try.prog 183 = some 1 := by kernel_rfl
@[simp] theorem ag183 : aggT Try.prog 183 = some false := by kernel_rfl
@[simp] theorem zz183 : zeroA Try.prog 183 = some (.int .i32 0) := by kernel_rfl
@[simp] theorem sz184 : szOf Try.prog 184 = some 1 := by kernel_rfl
@[simp] theorem ag184 : aggT Try.prog 184 = some false := by kernel_rfl
@[simp] theorem zz184 : zeroA Try.prog 184 = some (.int .i32 0) := by kernel_rfl
@[simp] theorem sz185 : szOf Try.prog 185 = some 11 := by kernel_rfl
@[simp] theorem ag185 : aggT Try.prog 185 = some true := by kernel_rfl
@[simp] theorem zz185 : zeroA Try.prog 185 = some (.agg [.int .u64 0, .int .u64 0, .int .u32 0, .int .u8 0, .int .u8 0, .int .u8 0, .int .u8 0, .nilf, .nilp, .int .i32 0, .int .i32 0]) := by kernel_rfl
@[simp] theorem sz186 : szOf Try.prog 186 = some 11 := by kernel_rfl
@[simp] theorem ag186 : aggT Try.prog 186 = some true := by kernel_rfl
@[simp] theorem zz186 : zeroA Try.prog 186 = some (.agg [.int .u64 0, .int .u64 0, .int .u32 0, .int .u8 0, .int .u8 0, .int .u8 0, .int .u8 0, .nilf, .nilp, .int .i32 0, .int .i32 0]) := by kernel_rfl
@[simp] theorem sz187 : szOf Try.prog 187 = some 1 := by kernel_rfl
@[simp] theorem ag187 : aggT Try.prog 187 = some false := by kernel_rfl
@[simp] theorem zz187 : zeroA Try.prog 187 = some (.nilp) := by kernel_rfl
@[simp] theorem ap22 : apT Try.prog 22 = some (3, 1, 8) := by kernel_rfl
@[simp] theorem ap23 : apT Try.prog 23 = some (30, 1, 24) := by kernel_rfl
@[simp] theorem ap24 : apT Try.prog 24 = some (29, 3, 24) := by kernel_rfl
@[simp] theorem ap30 : apT Try.prog 30 = some (55, 1, 8) := by kernel_rfl
@[simp] theorem ap31 : apT Try.prog 31 = some (103, 36, 464) := by kernel_rfl
@[simp] theorem ap34 : apT Try.prog 34 = some (57, 2, 16) := by kernel_rfl
@[simp] theorem ap35 : apT Try.prog 35 = some (84, 2, 16) := by kernel_rfl
@[simp] theorem ap36 : apT Try.prog 36 = some (105, 38, 512) := by kernel_rfl
@[simp] theorem ap44 : apT Try.prog 44 = some (24, 1, 24) := by kernel_rfl
@[simp] theorem ap45 : apT Try.prog 45 = some (23, 1, 24) := by kernel_rfl
@[simp] theorem ap46 : apT Try.prog 46 = some (26, 3, 24) := by kernel_rfl
@[simp] theorem ap47 : apT Try.prog 47 = some (62, 3, 24) := by kernel_rfl
@[simp] theorem ap71 : apT Try.prog 71 = some (111, 3, 24) := by kernel_rfl
@[simp] theorem ap86 : apT Try.prog 86 = some (166, 4, 32) := by kernel_rfl
@[simp] theorem ap87 : apT Try.prog 87 = some (9, 1, 16) := by kernel_rfl
@[simp] theorem ap93 : apT Try.prog 93 = some (155, 2, 16) := by kernel_rfl
@[simp] theorem ap94 : apT Try.prog 94 = some (158, 4, 32) := by kernel_rfl
@[simp] theorem ap97 : apT Try.prog 97 = some (2, 1, 8) := by kernel_rfl
@[simp] theorem ap98 : apT Try.prog 98 = some (5, 1, 1) := by kernel_rfl
@[simp] theorem ap101 : apT Try.prog 101 = some (150, 3, 48) := by kernel_rfl
@[simp] theorem bt4 : boolT Try.prog 4 = true := by kernel_rfl
end Go.Abs.Po
namespace Go.Abs.Po
open Go Go.Proofs Go.Abs
set_option maxRecDepth 100000
set_option maxHeartbeats 4000000
set_option linter.unusedSimpArgs false
set_option linter.unusedVariables false
theorem tm : Try.prog.follows .mixedOrders = true := by kernel_rfl
theorem tN : Try.prog.funcs.all (fun fn => !(fn.name == "runtime.NumGoroutine")) = true := by kernel_rfl
attribute [local simp] runL stepA execA_eq skipA run_ret run_fail run_get run_put run_asm num lk st lk_st putA AS.ev ofValue ofFlat mkv splice fieldAddrA buildA fillA runF gdst pickA unOpA extractA resVs resV pack frzT inlT inlV frzV frzVs frzL frz1 newId AV.cellsOf AV.flat AV.flat2 specOf loadA_runR capA copyA copyTo srcA sliceCA slice3A appendZA extA AV.place lenCA clearA clearTo expG expB3 List.zipWith renL fF handB renB AV.ren backF backL idsOf freshIds refsL refsB AV.refs List.range List.range.loop placesA sliceRows rowsOf convertA sliceArrA sliceA bndA nilCheckA arrayAtA mmA lookupA keyOf keyOK findA keyEqA foundA makeMapA mapUpdateA appendA rowsA indexA partA fieldA retE2 frqT frqV frqVs frqL frq1 reachE blkRefs outE nodupE firstE seqO expB2 expF slice3A slice3C instA
theorem clone61_ok : FnC Try.prog 61 (cloneC 3 1 8) := by
  refine FnC.ofV 61 (fn := Try.f61) Try.func61 rfl (by kernel_rfl) fun args B r B' hS => ?_
  unfold cloneC at hS
  split at hS
  · simp only [Option.some.injEq, Prod.mk.injEq] at hS
    obtain ⟨rfl, rfl⟩ := hS
    refine ⟨by simp, ?_⟩
    change V _ (RetM _ _ 0 _ _) _ _ ⟨8, [(0, .nils)], []⟩
    repeat (first | refine NV.seq ?_ | refine NV.blk ?_ | refine V.seq rfl ?_ | refine V.block rfl ?_ | refine V.skip rfl ?_ | refine V.ret rfl ?_ | refine NV.nil ?_ | refine NV.loop ?_ | refine V.exit rfl ?_ | refine XV.seq ?_ | refine XV.loop ?_ | refine XV.hit ?_ | refine XV.pass (by decide) ?_ | refine V.condT rfl (by rfl) ?_ | refine V.condF rfl (by rfl) ?_ | refine V.region tm no_specs rfl (by conv => lhs; simp) fun _ => ?_ | refine V.regionD tm no_specs rfl (by conv => lhs; simp) (by conv => lhs; simp) (by kernel_rfl) fun _ => ?_)
    refine retM2_ok false [] [] ?_
    simp [retM2, movedOK, oldOK, frqT, frqV, frqVs, frqL, frq1, expG, expB3, renB, AV.ren, renL, List.range, List.range.loop, resVs, resV, pack, List.zipWith, List.idxOf?, List.findIdx?, List.findIdx?.go]
  · rename_i s rows
    split at hS
    · rename_i hc
      obtain ⟨rfl, h1, h1', h2⟩ := hc
      simp only [Option.some.injEq, Prod.mk.injEq] at hS
      obtain ⟨rfl, rfl⟩ := hS
      refine ⟨by simp, ?_⟩
      change V _ (RetM _ _ 0 _ _) _ _ ⟨8, [(0, .list 1 rows)], []⟩
      cases rows with
      | nil =>
        refine V.nilCase (t := 0) (s := 1) 0 rfl rfl ?_ ?_
        · repeat (first | refine NV.seq ?_ | refine NV.blk ?_ | refine V.seq rfl ?_ | refine V.block rfl ?_ | refine V.skip rfl ?_ | refine NV.nil ?_ | refine NV.loop ?_ | refine V.exit rfl ?_ | refine XV.seq ?_ | refine XV.loop ?_ | refine XV.hit ?_ | refine XV.pass (by decide) ?_ | refine V.condT rfl (by rfl) ?_ | refine V.condF rfl (by rfl) ?_ | refine V.region tm no_specs rfl (by conv => lhs; simp) fun _ => ?_ | refine V.regionD tm no_specs rfl (by conv => lhs; simp) (by conv => lhs; simp) (by kernel_rfl) fun _ => ?_)
          refine V.phantom (t := 2) 100 3 1 rfl rfl (by decide) ?_
          repeat (first | refine NV.seq ?_ | refine NV.blk ?_ | refine V.seq rfl ?_ | refine V.block rfl ?_ | refine V.skip rfl ?_ | refine V.ret rfl ?_ | refine NV.nil ?_ | refine NV.loop ?_ | refine V.exit rfl ?_ | refine XV.seq ?_ | refine XV.loop ?_ | refine XV.hit ?_ | refine XV.pass (by decide) ?_ | refine V.condT rfl (by rfl) ?_ | refine V.condF rfl (by rfl) ?_ | refine V.region tm no_specs rfl (by conv => lhs; simp) fun _ => ?_ | refine V.regionD tm no_specs rfl (by conv => lhs; simp) (by conv => lhs; simp) (by kernel_rfl) fun _ => ?_)
          simp only [List.length_nil, rowB]
          refine retM2_ok false [100] [0] ?_
          simp [retM2, movedOK, oldOK, frqT, frqV, frqVs, frqL, frq1, expG, expB3, renB, AV.ren, renL, List.range, List.range.loop, resVs, resV, pack, List.zipWith, List.idxOf?, List.findIdx?, List.findIdx?.go]
        · repeat (first | refine NV.seq ?_ | refine NV.blk ?_ | refine V.seq rfl ?_ | refine V.block rfl ?_ | refine V.skip rfl ?_ | refine V.ret rfl ?_ | refine NV.nil ?_ | refine NV.loop ?_ | refine V.exit rfl ?_ | refine XV.seq ?_ | refine XV.loop ?_ | refine XV.hit ?_ | refine XV.pass (by decide) ?_ | refine V.condT rfl (by rfl) ?_ | refine V.condF rfl (by rfl) ?_ | refine V.region tm no_specs rfl (by conv => lhs; simp) fun _ => ?_ | refine V.regionD tm no_specs rfl (by conv => lhs; simp) (by conv => lhs; simp) (by kernel_rfl) fun _ => ?_)
          simp only [List.length_nil, rowB]
          refine retM2_ok false [96] [0] ?_
          simp [retM2, movedOK, oldOK, frqT, frqV, frqVs, frqL, frq1, expG, expB3, renB, AV.ren, renL, List.range, List.range.loop, resVs, resV, pack, List.zipWith, List.idxOf?, List.findIdx?, List.findIdx?.go]
      | cons x rows =>
        simp only [List.length_cons] at h1 h2 h1'
        repeat (first | refine NV.seq ?_ | refine NV.blk ?_ | refine V.seq rfl ?_ | refine V.block rfl ?_ | refine V.skip rfl ?_ | refine V.ret rfl ?_ | refine NV.nil ?_ | refine NV.loop ?_ | refine V.exit rfl ?_ | refine XV.seq ?_ | refine XV.loop ?_ | refine XV.hit ?_ | refine XV.pass (by decide) ?_ | refine V.condT rfl (by rfl) ?_ | refine V.condF rfl (by rfl) ?_ | refine V.region tm no_specs rfl (by conv => lhs; simp [h1, h2, h1']) fun _ => ?_ | refine V.regionD tm no_specs rfl (by conv => lhs; simp [h1, h2, h1']) (by conv => lhs; simp) (by kernel_rfl) fun _ => ?_)
        simp only [List.length_cons, rowB]
        refine retM2_ok false [96] [0] ?_
        simp [retM2, movedOK, oldOK, frqT, frqV, frqVs, frqL, frq1, expG, expB3, renB, AV.ren, renL, List.range, List.range.loop, resVs, resV, pack, List.zipWith, List.idxOf?, List.findIdx?, List.findIdx?.go]
    · cases hS
  · rename_i len b
    split at hS
    · rename_i hc
      obtain ⟨hb, rfl, h1, h2⟩ := hc
      simp only [Option.some.injEq, Prod.mk.injEq] at hS
      obtain ⟨rfl, rfl⟩ := hS
      rw [okB_eq hb]
      generalize b.rows = rows at h1 h2 ⊢
      refine ⟨by simp, ?_⟩
      change V _ (RetM _ _ 1 _ _) _ _ ⟨8, [(0, .sl 0 0 0 rows.length)], [(0, { gen := 0, kind := 2, elem := 3, size := 1, inl := true, rows })]⟩
      cases rows with
      | nil =>
        refine V.slNil (t := 0) 1 rfl rfl rfl rfl ?_ ?_
        · repeat (first | refine NV.seq ?_ | refine NV.blk ?_ | refine V.seq rfl ?_ | refine V.block rfl ?_ | refine V.skip rfl ?_ | refine NV.nil ?_ | refine NV.loop ?_ | refine V.exit rfl ?_ | refine XV.seq ?_ | refine XV.loop ?_ | refine XV.hit ?_ | refine XV.pass (by decide) ?_ | refine V.condT rfl (by rfl) ?_ | refine V.condF rfl (by rfl) ?_ | refine V.region tm no_specs rfl (by conv => lhs; simp) fun _ => ?_ | refine V.regionD tm no_specs rfl (by conv => lhs; simp) (by conv => lhs; simp) (by kernel_rfl) fun _ => ?_)
          refine V.phantom (t := 2) 100 3 1 rfl rfl (by decide) ?_
          repeat (first | refine NV.seq ?_ | refine NV.blk ?_ | refine V.seq rfl ?_ | refine V.block rfl ?_ | refine V.skip rfl ?_ | refine V.ret rfl ?_ | refine NV.nil ?_ | refine NV.loop ?_ | refine V.exit rfl ?_ | refine XV.seq ?_ | refine XV.loop ?_ | refine XV.hit ?_ | refine XV.pass (by decide) ?_ | refine V.condT rfl (by rfl) ?_ | refine V.condF rfl (by rfl) ?_ | refine V.region tm no_specs rfl (by conv => lhs; simp) fun _ => ?_ | refine V.regionD tm no_specs rfl (by conv => lhs; simp) (by conv => lhs; simp) (by kernel_rfl) fun _ => ?_)
          simp only [List.length_nil, rowB]
          refine retM2_ok false [0, 100] [0, 0] ?_
          simp [retM2, movedOK, oldOK, frqT, frqV, frqVs, frqL, frq1, expG, expB3, renB, AV.ren, renL, List.range, List.range.loop, resVs, resV, pack, List.zipWith, List.idxOf?, List.findIdx?, List.findIdx?.go]
        · repeat (first | refine NV.seq ?_ | refine NV.blk ?_ | refine V.seq rfl ?_ | refine V.block rfl ?_ | refine V.skip rfl ?_ | refine V.ret rfl ?_ | refine NV.nil ?_ | refine NV.loop ?_ | refine V.exit rfl ?_ | refine XV.seq ?_ | refine XV.loop ?_ | refine XV.hit ?_ | refine XV.pass (by decide) ?_ | refine V.condT rfl (by rfl) ?_ | refine V.condF rfl (by rfl) ?_ | refine V.region tm no_specs rfl (by conv => lhs; simp) fun _ => ?_ | refine V.regionD tm no_specs rfl (by conv => lhs; simp) (by conv => lhs; simp) (by kernel_rfl) fun _ => ?_)
          simp only [List.length_nil, rowB]
          refine retM2_ok false [0, 96] [0, 0] ?_
          simp [retM2, movedOK, oldOK, frqT, frqV, frqVs, frqL, frq1, expG, expB3, renB, AV.ren, renL, List.range, List.range.loop, resVs, resV, pack, List.zipWith, List.idxOf?, List.findIdx?, List.findIdx?.go]
      | cons x rows =>
        simp only [List.length_cons] at h1 h2
        repeat (first | refine NV.seq ?_ | refine NV.blk ?_ | refine V.seq rfl ?_ | refine V.block rfl ?_ | refine V.skip rfl ?_ | refine V.ret rfl ?_ | refine NV.nil ?_ | refine NV.loop ?_ | refine V.exit rfl ?_ | refine XV.seq ?_ | refine XV.loop ?_ | refine XV.hit ?_ | refine XV.pass (by decide) ?_ | refine V.condT rfl (by rfl) ?_ | refine V.condF rfl (by rfl) ?_ | refine V.region tm no_specs rfl (by conv => lhs; simp [h1, h2]) fun _ => ?_ | refine V.regionD tm no_specs rfl (by conv => lhs; simp [h1, h2]) (by conv => lhs; simp) (by kernel_rfl) fun _ => ?_)
        simp only [List.length_cons, rowB]
        refine retM2_ok false [0, 96] [0, 0] ?_
        simp [retM2, movedOK, oldOK, frqT, frqV, frqVs, frqL, frq1, expG, expB3, renB, AV.ren, renL, List.range, List.range.loop, resVs, resV, pack, List.zipWith, List.idxOf?, List.findIdx?, List.findIdx?.go]
    · cases hS
  · cases hS
theorem clone63_ok : FnC Try.prog 63 (cloneC 57 2 16) := by
  refine FnC.ofV 63 (fn := Try.f63) Try.func63 rfl (by kernel_rfl) fun args B r B' hS => ?_
  unfold cloneC at hS
  split at hS
  · simp only [Option.some.injEq, Prod.mk.injEq] at hS
    obtain ⟨rfl, rfl⟩ := hS
    refine ⟨by simp, ?_⟩
    change V _ (RetM _ _ 0 _ _) _ _ ⟨8, [(0, .nils)], []⟩
    repeat (first | refine NV.seq ?_ | refine NV.blk ?_ | refine V.seq rfl ?_ | refine V.block rfl ?_ | refine V.skip rfl ?_ | refine V.ret rfl ?_ | refine NV.nil ?_ | refine NV.loop ?_ | refine V.exit rfl ?_ | refine XV.seq ?_ | refine XV.loop ?_ | refine XV.hit ?_ | refine XV.pass (by decide) ?_ | refine V.condT rfl (by rfl) ?_ | refine V.condF rfl (by rfl) ?_ | refine V.region tm no_specs rfl (by conv => lhs; simp) fun _ => ?_ | refine V.regionD tm no_specs rfl (by conv => lhs; simp) (by conv => lhs; simp) (by kernel_rfl) fun _ => ?_)
    refine retM2_ok false [] [] ?_
    simp [retM2, movedOK, oldOK, frqT, frqV, frqVs, frqL, frq1, expG, expB3, renB, AV.ren, renL, List.range, List.range.loop, resVs, resV, pack, List.zipWith, List.idxOf?, List.findIdx?, List.findIdx?.go]
  · rename_i s rows
    split at hS
    · rename_i hc
      obtain ⟨rfl, h1, h1', h2⟩ := hc
      simp only [Option.some.injEq, Prod.mk.injEq] at hS
      obtain ⟨rfl, rfl⟩ := hS
      refine ⟨by simp, ?_⟩
      change V _ (RetM _ _ 0 _ _) _ _ ⟨8, [(0, .list 2 rows)], []⟩
      cases rows with
      | nil =>
        refine V.nilCase (t := 0) (s := 2) 0 rfl rfl ?_ ?_
        · repeat (first | refine NV.seq ?_ | refine NV.blk ?_ | refine V.seq rfl ?_ | refine V.block rfl ?_ | refine V.skip rfl ?_ | refine NV.nil ?_ | refine NV.loop ?_ | refine V.exit rfl ?_ | refine XV.seq ?_ | refine XV.loop ?_ | refine XV.hit ?_ | refine XV.pass (by decide) ?_ | refine V.condT rfl (by rfl) ?_ | refine V.condF rfl (by rfl) ?_ | refine V.region tm no_specs rfl (by conv => lhs; simp) fun _ => ?_ | refine V.regionD tm no_specs rfl (by conv => lhs; simp) (by conv => lhs; simp) (by kernel_rfl) fun _ => ?_)
          refine V.phantom (t := 2) 100 57 2 rfl rfl (by decide) ?_
          repeat (first | refine NV.seq ?_ | refine NV.blk ?_ | refine V.seq rfl ?_ | refine V.block rfl ?_ | refine V.skip rfl ?_ | refine V.ret rfl ?_ | refine NV.nil ?_ | refine NV.loop ?_ | refine V.exit rfl ?_ | refine XV.seq ?_ | refine XV.loop ?_ | refine XV.hit ?_ | refine XV.pass (by decide) ?_ | refine V.condT rfl (by rfl) ?_ | refine V.condF rfl (by rfl) ?_ | refine V.region tm no_specs rfl (by conv => lhs; simp) fun _ => ?_ | refine V.regionD tm no_specs rfl (by conv => lhs; simp) (by conv => lhs; simp) (by kernel_rfl) fun _ => ?_)
          simp only [List.length_nil, rowB]
          refine retM2_ok false [100] [0] ?_
          simp [retM2, movedOK, oldOK, frqT, frqV, frqVs, frqL, frq1, expG, expB3, renB, AV.ren, renL, List.range, List.range.loop, resVs, resV, pack, List.zipWith, List.idxOf?, List.findIdx?, List.findIdx?.go]
        · repeat (first | refine NV.seq ?_ | refine NV.blk ?_ | refine V.seq rfl ?_ | refine V.block rfl ?_ | refine V.skip rfl ?_ | refine V.ret rfl ?_ | refine NV.nil ?_ | refine NV.loop ?_ | refine V.exit rfl ?_ | refine XV.seq ?_ | refine XV.loop ?_ | refine XV.hit ?_ | refine XV.pass (by decide) ?_ | refine V.condT rfl (by rfl) ?_ | refine V.condF rfl (by rfl) ?_ | refine V.region tm no_specs rfl (by conv => lhs; simp) fun _ => ?_ | refine V.regionD tm no_specs rfl (by conv => lhs; simp) (by conv => lhs; simp) (by kernel_rfl) fun _ => ?_)
          simp only [List.length_nil, rowB]
          refine retM2_ok false [96] [0] ?_
          simp [retM2, movedOK, oldOK, frqT, frqV, frqVs, frqL, frq1, expG, expB3, renB, AV.ren, renL, List.range, List.range.loop, resVs, resV, pack, List.zipWith, List.idxOf?, List.findIdx?, List.findIdx?.go]
      | cons x rows =>
        simp only [List.length_cons] at h1 h2 h1'
        repeat (first | refine NV.seq ?_ | refine NV.blk ?_ | refine V.seq rfl ?_ | refine V.block rfl ?_ | refine V.skip rfl ?_ | refine V.ret rfl ?_ | refine NV.nil ?_ | refine NV.loop ?_ | refine V.exit rfl ?_ | refine XV.seq ?_ | refine XV.loop ?_ | refine XV.hit ?_ | refine XV.pass (by decide) ?_ | refine V.condT rfl (by rfl) ?_ | refine V.condF rfl (by rfl) ?_ | refine V.region tm no_specs rfl (by conv => lhs; simp [h1, h2, h1']) fun _ => ?_ | refine V.regionD tm no_specs rfl (by conv => lhs; simp [h1, h2, h1']) (by conv => lhs; simp) (by kernel_rfl) fun _ => ?_)
        simp only [List.length_cons, rowB]
        refine retM2_ok false [96] [0] ?_
        simp [retM2, movedOK, oldOK, frqT, frqV, frqVs, frqL, frq1, expG, expB3, renB, AV.ren, renL, List.range, List.range.loop, resVs, resV, pack, List.zipWith, List.idxOf?, List.findIdx?, List.findIdx?.go]
    · cases hS
  · rename_i len b
    split at hS
    · rename_i hc
      obtain ⟨hb, rfl, h1, h2⟩ := hc
      simp only [Option.some.injEq, Prod.mk.injEq] at hS
      obtain ⟨rfl, rfl⟩ := hS
      rw [okB_eq hb]
      generalize b.rows = rows at h1 h2 ⊢
      refine ⟨by simp, ?_⟩
      change V _ (RetM _ _ 1 _ _) _ _ ⟨8, [(0, .sl 0 0 0 rows.length)], [(0, { gen := 0, kind := 2, elem := 57, size := 2, inl := true, rows })]⟩
      cases rows with
      | nil =>
        refine V.slNil (t := 0) 1 rfl rfl rfl rfl ?_ ?_
        · repeat (first | refine NV.seq ?_ | refine NV.blk ?_ | refine V.seq rfl ?_ | refine V.block rfl ?_ | refine V.skip rfl ?_ | refine NV.nil ?_ | refine NV.loop ?_ | refine V.exit rfl ?_ | refine XV.seq ?_ | refine XV.loop ?_ | refine XV.hit ?_ | refine XV.pass (by decide) ?_ | refine V.condT rfl (by rfl) ?_ | refine V.condF rfl (by rfl) ?_ | refine V.region tm no_specs rfl (by conv => lhs; simp) fun _ => ?_ | refine V.regionD tm no_specs rfl (by conv => lhs; simp) (by conv => lhs; simp) (by kernel_rfl) fun _ => ?_)
          refine V.phantom (t := 2) 100 57 2 rfl rfl (by decide) ?_
          repeat (first | refine NV.seq ?_ | refine NV.blk ?_ | refine V.seq rfl ?_ | refine V.block rfl ?_ | refine V.skip rfl ?_ | refine V.ret rfl ?_ | refine NV.nil ?_ | refine NV.loop ?_ | refine V.exit rfl ?_ | refine XV.seq ?_ | refine XV.loop ?_ | refine XV.hit ?_ | refine XV.pass (by decide) ?_ | refine V.condT rfl (by rfl) ?_ | refine V.condF rfl (by rfl) ?_ | refine V.region tm no_specs rfl (by conv => lhs; simp) fun _ => ?_ | refine V.regionD tm no_specs rfl (by conv => lhs; simp) (by conv => lhs; simp) (by kernel_rfl) fun _ => ?_)
          simp only [List.length_nil, rowB]
          refine retM2_ok false [0, 100] [0, 0] ?_
          simp [retM2, movedOK, oldOK, frqT, frqV, frqVs, frqL, frq1, expG, expB3, renB, AV.ren, renL, List.range, List.range.loop, resVs, resV, pack, List.zipWith, List.idxOf?, List.findIdx?, List.findIdx?.go]
        · repeat (first | refine NV.seq ?_ | refine NV.blk ?_ | refine V.seq rfl ?_ | refine V.block rfl ?_ | refine V.skip rfl ?_ | refine V.ret rfl ?_ | refine NV.nil ?_ | refine NV.loop ?_ | refine V.exit rfl ?_ | refine XV.seq ?_ | refine XV.loop ?_ | refine XV.hit ?_ | refine XV.pass (by decide) ?_ | refine V.condT rfl (by rfl) ?_ | refine V.condF rfl (by rfl) ?_ | refine V.region tm no_specs rfl (by conv => lhs; simp) fun _ => ?_ | refine V.regionD tm no_specs rfl (by conv => lhs; simp) (by conv => lhs; simp) (by kernel_rfl) fun _ => ?_)
          simp only [List.length_nil, rowB]
          refine retM2_ok false [0, 96] [0, 0] ?_
          simp [retM2, movedOK, oldOK, frqT, frqV, frqVs, frqL, frq1, expG, expB3, renB, AV.ren, renL, List.range, List.range.loop, resVs, resV, pack, List.zipWith, List.idxOf?, List.findIdx?, List.findIdx?.go]
      | cons x rows =>
        simp only [List.length_cons] at h1 h2
        repeat (first | refine NV.seq ?_ | refine NV.blk ?_ | refine V.seq rfl ?_ | refine V.block rfl ?_ | refine V.skip rfl ?_ | refine V.ret rfl ?_ | refine NV.nil ?_ | refine NV.loop ?_ | refine V.exit rfl ?_ | refine XV.seq ?_ | refine XV.loop ?_ | refine XV.hit ?_ | refine XV.pass (by decide) ?_ | refine V.condT rfl (by rfl) ?_ | refine V.condF rfl (by rfl) ?_ | refine V.region tm no_specs rfl (by conv => lhs; simp [h1, h2]) fun _ => ?_ | refine V.regionD tm no_specs rfl (by conv => lhs; simp [h1, h2]) (by conv => lhs; simp) (by kernel_rfl) fun _ => ?_)
        simp only [List.length_cons, rowB]
        refine retM2_ok false [0, 96] [0, 0] ?_
        simp [retM2, movedOK, oldOK, frqT, frqV, frqVs, frqL, frq1, expG, expB3, renB, AV.ren, renL, List.range, List.range.loop, resVs, resV, pack, List.zipWith, List.idxOf?, List.findIdx?, List.findIdx?.go]
    · cases hS
  · cases hS
/-- A copy of nothing. -/
def nilS : SpecFn := fun args B => match args, B with
  | [.nils], [] => some (.nils, [])
  | _, _ => none
/-- A deep copy of nothing. -/
def nil2S : SpecFn := fun args B => match args, B with
  | [.nils, .fn (.func _) [] []], [] => some (.nils, [])
  | _, _ => none
theorem clone64_ok : FnC Try.prog 64 nilS := by
  refine FnC.ofV 64 (fn := Try.f64) Try.func64 rfl (by kernel_rfl) fun args B r B' hS => ?_
  unfold nilS at hS
  split at hS
  · simp only [Option.some.injEq, Prod.mk.injEq] at hS
    obtain ⟨rfl, rfl⟩ := hS
    refine ⟨by simp, ?_⟩
    change V _ (RetM _ _ 0 _ _) _ _ ⟨8, [(0, .nils)], []⟩
    repeat (first | refine NV.seq ?_ | refine NV.blk ?_ | refine V.seq rfl ?_ | refine V.block rfl ?_ | refine V.skip rfl ?_ | refine V.ret rfl ?_ | refine NV.nil ?_ | refine NV.loop ?_ | refine V.exit rfl ?_ | refine XV.seq ?_ | refine XV.loop ?_ | refine XV.hit ?_ | refine XV.pass (by decide) ?_ | refine V.condT rfl (by rfl) ?_ | refine V.condF rfl (by rfl) ?_ | refine V.region tm no_specs rfl (by conv => lhs; simp) fun _ => ?_ | refine V.regionD tm no_specs rfl (by conv => lhs; simp) (by conv => lhs; simp) (by kernel_rfl) fun _ => ?_)
    refine retM2_ok false [] [] ?_
    simp [retM2, movedOK, oldOK, frqT, frqV, frqVs, frqL, frq1, expG, expB3, renB, AV.ren, renL, List.range, List.range.loop, resVs, resV, pack, List.zipWith, List.idxOf?, List.findIdx?, List.findIdx?.go]
  · cases hS
theorem clone81_ok : FnC Try.prog 81 nilS := by
  refine FnC.ofV 81 (fn := Try.f81) Try.func81 rfl (by kernel_rfl) fun args B r B' hS => ?_
  unfold nilS at hS
  split at hS
  · simp only [Option.some.injEq, Prod.mk.injEq] at hS
    obtain ⟨rfl, rfl⟩ := hS
    refine ⟨by simp, ?_⟩
    change V _ (RetM _ _ 0 _ _) _ _ ⟨8, [(0, .nils)], []⟩
    repeat (first | refine NV.seq ?_ | refine NV.blk ?_ | refine V.seq rfl ?_ | refine V.block rfl ?_ | refine V.skip rfl ?_ | refine V.ret rfl ?_ | refine NV.nil ?_ | refine NV.loop ?_ | refine V.exit rfl ?_ | refine XV.seq ?_ | refine XV.loop ?_ | refine XV.hit ?_ | refine XV.pass (by decide) ?_ | refine V.condT rfl (by rfl) ?_ | refine V.condF rfl (by rfl) ?_ | refine V.region tm no_specs rfl (by conv => lhs; simp) fun _ => ?_ | refine V.regionD tm no_specs rfl (by conv => lhs; simp) (by conv => lhs; simp) (by kernel_rfl) fun _ => ?_)
    refine retM2_ok false [] [] ?_
    simp [retM2, movedOK, oldOK, frqT, frqV, frqVs, frqL, frq1, expG, expB3, renB, AV.ren, renL, List.range, List.range.loop, resVs, resV, pack, List.zipWith, List.idxOf?, List.findIdx?, List.findIdx?.go]
  · cases hS
theorem clone89_ok : FnC Try.prog 89 nilS := by
  refine FnC.ofV 89 (fn := Try.f89) Try.func89 rfl (by kernel_rfl) fun args B r B' hS => ?_
  unfold nilS at hS
  split at hS
  · simp only [Option.some.injEq, Prod.mk.injEq] at hS
    obtain ⟨rfl, rfl⟩ := hS
    refine ⟨by simp, ?_⟩
    change V _ (RetM _ _ 0 _ _) _ _ ⟨8, [(0, .nils)], []⟩
    repeat (first | refine NV.seq ?_ | refine NV.blk ?_ | refine V.seq rfl ?_ | refine V.block rfl ?_ | refine V.skip rfl ?_ | refine V.ret rfl ?_ | refine NV.nil ?_ | refine NV.loop ?_ | refine V.exit rfl ?_ | refine XV.seq ?_ | refine XV.loop ?_ | refine XV.hit ?_ | refine XV.pass (by decide) ?_ | refine V.condT rfl (by rfl) ?_ | refine V.condF rfl (by rfl) ?_ | refine V.region tm no_specs rfl (by conv => lhs; simp) fun _ => ?_ | refine V.regionD tm no_specs rfl (by conv => lhs; simp) (by conv => lhs; simp) (by kernel_rfl) fun _ => ?_)
    refine retM2_ok false [] [] ?_
    simp [retM2, movedOK, oldOK, frqT, frqV, frqVs, frqL, frq1, expG, expB3, renB, AV.ren, renL, List.range, List.range.loop, resVs, resV, pack, List.zipWith, List.idxOf?, List.findIdx?, List.findIdx?.go]
  · cases hS
noncomputable def e65_specs : NL Spec := [(81, ⟨1, nilS⟩)]
theorem e65_specs_ok : ∀ p ∈ e65_specs, FnC Try.prog p.1 p.2.fn := by
  simp only [e65_specs, List.mem_cons, List.not_mem_nil, or_false]
  rintro p rfl
  exact clone81_ok
attribute [local simp] e65_specs
theorem each65_ok : FnC Try.prog 65 nil2S := by
  refine FnC.ofV 65 (fn := Try.f65) Try.func65 rfl (by kernel_rfl) fun args B r B' hS => ?_
  unfold nil2S at hS
  split at hS
  · rename_i g
    simp only [Option.some.injEq, Prod.mk.injEq] at hS
    obtain ⟨rfl, rfl⟩ := hS
    refine ⟨by simp, ?_⟩
    change V _ (RetM _ _ 0 _ _) _ _ ⟨25, [(0, .nils), (1, .fn (.func g) [] [])], []⟩
    repeat (first | refine NV.seq ?_ | refine NV.blk ?_ | refine V.seq rfl ?_ | refine V.block rfl ?_ | refine V.skip rfl ?_ | refine V.ret rfl ?_ | refine NV.nil ?_ | refine NV.loop ?_ | refine V.exit rfl ?_ | refine XV.seq ?_ | refine XV.loop ?_ | refine XV.hit ?_ | refine XV.pass (by decide) ?_ | refine V.region tm e65_specs_ok rfl (by conv => lhs; simp [nilS]) fun _ => ?_ | refine V.regionD tm e65_specs_ok rfl (by conv => lhs; simp [nilS]) (by conv => lhs; simp) (by kernel_rfl) fun _ => ?_)
    refine V.loop rfl (ι := Unit) (fun _ => ⟨25, [(5, .nils), (10, .nils), (11, .int .i64 0), (12, .int .i64 0)], []⟩) (fun _ => 0) () (AS.le_of rfl ⟨rfl, rfl, rfl, rfl, trivial⟩ (fun _ => rfl)) fun _ => ?_
    repeat (first | refine NV.seq ?_ | refine NV.blk ?_ | refine V.seq rfl ?_ | refine V.block rfl ?_ | refine V.skip rfl ?_ | refine V.ret rfl ?_ | refine NV.nil ?_ | refine NV.loop ?_ | refine V.exit rfl ?_ | refine XV.seq ?_ | refine XV.loop ?_ | refine XV.hit ?_ | refine XV.pass (by decide) ?_ | refine V.condT rfl (by rfl) ?_ | refine V.condF rfl (by rfl) ?_ | refine V.region tm e65_specs_ok rfl (by conv => lhs; simp) fun _ => ?_ | refine V.regionD tm e65_specs_ok rfl (by conv => lhs; simp) (by conv => lhs; simp) (by kernel_rfl) fun _ => ?_)
    refine retM2_ok false [] [] ?_
    simp [retM2, movedOK, oldOK, frqT, frqV, frqVs, frqL, frq1, expG, expB3, renB, AV.ren, renL, List.range, List.range.loop, resVs, resV, pack, List.zipWith, List.idxOf?, List.findIdx?, List.findIdx?.go]
  · cases hS
noncomputable def e79_specs : NL Spec := [(89, ⟨1, nilS⟩)]
theorem e79_specs_ok : ∀ p ∈ e79_specs, FnC Try.prog p.1 p.2.fn := by
  simp only [e79_specs, List.mem_cons, List.not_mem_nil, or_false]
  rintro p rfl
  exact clone89_ok
attribute [local simp] e79_specs
theorem each79_ok : FnC Try.prog 79 nil2S := by
  refine FnC.ofV 79 (fn := Try.f79) Try.func79 rfl (by kernel_rfl) fun args B r B' hS => ?_
  unfold nil2S at hS
  split at hS
  · rename_i g
    simp only [Option.some.injEq, Prod.mk.injEq] at hS
    obtain ⟨rfl, rfl⟩ := hS
    refine ⟨by simp, ?_⟩
    change V _ (RetM _ _ 0 _ _) _ _ ⟨25, [(0, .nils), (1, .fn (.func g) [] [])], []⟩
    repeat (first | refine NV.seq ?_ | refine NV.blk ?_ | refine V.seq rfl ?_ | refine V.block rfl ?_ | refine V.skip rfl ?_ | refine V.ret rfl ?_ | refine NV.nil ?_ | refine NV.loop ?_ | refine V.exit rfl ?_ | refine XV.seq ?_ | refine XV.loop ?_ | refine XV.hit ?_ | refine XV.pass (by decide) ?_ | refine V.region tm e79_specs_ok rfl (by conv => lhs; simp [nilS]) fun _ => ?_ | refine V.regionD tm e79_specs_ok rfl (by conv => lhs; simp [nilS]) (by conv => lhs; simp) (by kernel_rfl) fun _ => ?_)
    refine V.loop rfl (ι := Unit) (fun _ => ⟨25, [(5, .nils), (10, .nils), (11, .int .i64 0), (12, .int .i64 0)], []⟩) (fun _ => 0) () (AS.le_of rfl ⟨rfl, rfl, rfl, rfl, trivial⟩ (fun _ => rfl)) fun _ => ?_
    repeat (first | refine NV.seq ?_ | refine NV.blk ?_ | refine V.seq rfl ?_ | refine V.block rfl ?_ | refine V.skip rfl ?_ | refine V.ret rfl ?_ | refine NV.nil ?_ | refine NV.loop ?_ | refine V.exit rfl ?_ | refine XV.seq ?_ | refine XV.loop ?_ | refine XV.hit ?_ | refine XV.pass (by decide) ?_ | refine V.condT rfl (by rfl) ?_ | refine V.condF rfl (by rfl) ?_ | refine V.region tm e79_specs_ok rfl (by conv => lhs; simp) fun _ => ?_ | refine V.regionD tm e79_specs_ok rfl (by conv => lhs; simp) (by conv => lhs; simp) (by kernel_rfl) fun _ => ?_)
    refine retM2_ok false [] [] ?_
    simp [retM2, movedOK, oldOK, frqT, frqV, frqVs, frqL, frq1, expG, expB3, renB, AV.ren, renL, List.range, List.range.loop, resVs, resV, pack, List.zipWith, List.idxOf?, List.findIdx?, List.findIdx?.go]
  · cases hS
noncomputable def st_specs : NL Spec := [(79, ⟨1, nil2S⟩)]
theorem st_specs_ok : ∀ p ∈ st_specs, FnC Try.prog p.1 p.2.fn := by
  simp only [st_specs, List.mem_cons, List.not_mem_nil, or_false]
  rintro p rfl
  exact each79_ok
attribute [local simp] st_specs
/-- A deep copy of an empty store. -/
def storeS : SpecFn := fun args B => match args, B with
  | [.agg [.nils]], [] => some (.agg [.nils], [])
  | _, _ => none
theorem store62_ok : FnC Try.prog 62 storeS := by
  refine FnC.ofV 62 (fn := Try.f62) Try.func62 rfl (by kernel_rfl) fun args B r B' hS => ?_
  unfold storeS at hS
  split at hS
  · simp only [Option.some.injEq, Prod.mk.injEq] at hS
    obtain ⟨rfl, rfl⟩ := hS
    refine ⟨by simp, ?_⟩
    change V _ (RetM _ _ 0 _ _) _ _ ⟨7, [(0, .agg [.nils])], []⟩
    repeat (first | refine NV.seq ?_ | refine NV.blk ?_ | refine V.seq rfl ?_ | refine V.block rfl ?_ | refine V.skip rfl ?_ | refine V.ret rfl ?_ | refine NV.nil ?_ | refine NV.loop ?_ | refine V.exit rfl ?_ | refine XV.seq ?_ | refine XV.loop ?_ | refine XV.hit ?_ | refine XV.pass (by decide) ?_ | refine V.condT rfl (by rfl) ?_ | refine V.condF rfl (by rfl) ?_ | refine V.region tm st_specs_ok rfl (by conv => lhs; simp [nil2S]) fun _ => ?_ | refine V.regionD tm st_specs_ok rfl (by conv => lhs; simp [nil2S]) (by conv => lhs; simp) (by kernel_rfl) fun _ => ?_)
    refine retM2_ok false [] [] ?_
    simp [retM2, movedOK, oldOK, frqT, frqV, frqVs, frqL, frq1, expG, expB3, renB, AV.ren, renL, List.range, List.range.loop, resVs, resV, pack, List.zipWith, List.idxOf?, List.findIdx?, List.findIdx?.go]
  · cases hS
end Go.Abs.Po
namespace Go.Abs.Po
open Go Go.Proofs Go.Abs
set_option maxRecDepth 100000
set_option maxHeartbeats 4000000
set_option linter.unusedSimpArgs false
set_option linter.unusedVariables false
theorem map_inj {α : Type} {f : α → List AV} (hf : ∀ x y, f x = f y → x = y) {l m : List α} (h : l.map f = m.map f) : l = m :=
  (List.map_inj_right (fun a b h => hf a b h)).1 h
theorem take_len_map {α β : Type} (f : α → β) (l : List α) : (l.map f).take l.length = l.map f := List.take_of_length_le (by simp)
attribute [local simp] runL stepA execA_eq skipA run_ret run_fail run_get run_put run_asm num lk st lk_st putA AS.ev ofValue ofFlat mkv splice fieldAddrA buildA fillA runF gdst pickA unOpA extractA resVs resV pack frzT inlT inlV frzV frzVs frzL frz1 newId AV.cellsOf AV.flat AV.flat2 specOf loadA_runR capA copyA copyTo srcA sliceCA slice3A appendZA extA AV.place lenCA clearA clearTo expG expB3 List.zipWith renL fF handB renB AV.ren backF backL idsOf freshIds refsL refsB AV.refs List.range List.range.loop placesA sliceRows rowsOf convertA sliceArrA sliceA bndA nilCheckA arrayAtA mmA lookupA keyOf keyOK findA keyEqA foundA makeMapA mapUpdateA appendA rowsA indexA partA fieldA retE2 frqT frqV frqVs frqL frq1 reachE blkRefs outE nodupE firstE seqO expB2 expF take_len_map
/-! ### Modulo -/
def encMd (x : { x : Int × Int // 0 < x.2 ∧ x.2 ≤ 4294967296 }) : List AV := [.int .i64 x.1.1, .int .i64 x.1.2]
theorem encMd_inj {β : Type} {f : { x : Int × Int // 0 < x.2 ∧ x.2 ≤ 4294967296 } → β} : ∀ x y, encMd x = encMd y → f x = f y := fun x y h => by
  simp only [encMd, List.cons.injEq, AV.int.injEq, true_and, and_true] at h
  rw [Subtype.ext (Prod.ext h.1 h.2)]
noncomputable def modS : SpecFn := mkS encMd fun x => (.int .i64 (x.1.1 % x.1.2), [])
theorem modS_eq (x m : Int) (h0 : 0 < m) (h1 : m ≤ 4294967296) : modS [.int .i64 x, .int .i64 m] [] = some (.int .i64 (x % m), []) := mkS_eq (enc := encMd) encMd_inj ⟨(x, m), h0, h1⟩
theorem tmod_neg {x m : Int} (h0 : 0 < m) (h : x.tmod m < 0) : x.tmod m + m = x % m := by
  rw [Int.emod_eq_tmod]
  have hx : ¬ 0 ≤ x := fun hx => by have := Int.tmod_nonneg m hx; omega
  have hd : ¬ m ∣ x := fun hd => by rw [Int.tmod_eq_zero_of_dvd hd] at h; omega
  rw [if_neg (by simp [hx, hd])]
  omega
theorem tmod_pos {x m : Int} (h0 : 0 < m) (h : ¬ x.tmod m < 0) : x.tmod m = x % m := by
  rw [Int.emod_eq_tmod]
  by_cases hx : 0 ≤ x
  · simp [hx]
  · by_cases hd : m ∣ x
    · simp [hd]
    · exfalso
      have h1 : 0 ≤ (-x).tmod m := Int.tmod_nonneg m (by omega)
      rw [Int.neg_tmod] at h1
      have h2 : x.tmod m ≠ 0 := fun e => hd (Int.dvd_of_tmod_eq_zero e)
      omega
theorem mod_ok : FnC Try.prog 48 modS := by
  refine FnC.walk 48 (fn := Try.f48) Try.func48 rfl (by kernel_rfl) fun x => ?_
  obtain ⟨⟨x, m⟩, h0, h1⟩ := x
  change W _ _ _ _ ⟨15, [(0, .int .i64 x), (1, .int .i64 m)], []⟩
  dsimp only at h0 h1
  have hm : m ≠ 0 := by omega
  by_cases h : x.tmod m < 0
  · have e := tmod_neg h0 h
    have hw : IntKind.i64.wrap (x.tmod m + m) = x % m := by
      rw [e]
      have := Int.emod_nonneg x hm
      have := Int.emod_lt_of_pos x h0
      exact w64 (by omega) (by omega)
    repeat (first | refine N.seq ?_ | refine N.blk ?_ | refine W.seq rfl ?_ | refine W.block rfl ?_ | refine W.skip rfl ?_ | refine W.ret rfl ?_ | refine N.nil ?_ | refine N.loop ?_ | refine W.exit rfl ?_ | refine X.seq ?_ | refine X.loop ?_ | refine X.hit ?_ | refine X.pass (by decide) ?_ | refine W.condT rfl (by rfl) ?_ | refine W.condF rfl (by rfl) ?_ | refine W.region tm no_specs rfl (by conv => lhs; simp [hm, h, hw]) fun _ => ?_ | refine W.regionD tm no_specs rfl (by conv => lhs; simp [hm, h, hw]) (by conv => lhs; simp) (by kernel_rfl) fun _ => ?_)
    first | exact Ret.dataR rfl (by conv => lhs; simp) (by conv => lhs; simp) (by first | rfl | simp [inlT, inlV]) | fail "no return here"
  · have e := tmod_pos h0 h
    repeat (first | refine N.seq ?_ | refine N.blk ?_ | refine W.seq rfl ?_ | refine W.block rfl ?_ | refine W.skip rfl ?_ | refine W.ret rfl ?_ | refine N.nil ?_ | refine N.loop ?_ | refine W.exit rfl ?_ | refine X.seq ?_ | refine X.loop ?_ | refine X.hit ?_ | refine X.pass (by decide) ?_ | refine W.condT rfl (by rfl) ?_ | refine W.condF rfl (by rfl) ?_ | refine W.region tm no_specs rfl (by conv => lhs; simp [hm, h]) fun _ => ?_ | refine W.regionD tm no_specs rfl (by conv => lhs; simp [hm, h]) (by conv => lhs; simp) (by kernel_rfl) fun _ => ?_)
    simp only [e]
    first | exact Ret.dataR rfl (by conv => lhs; simp) (by conv => lhs; simp) (by first | rfl | simp [inlT, inlV]) | fail "no return here"
def ic (n : Int) : List AV := [.int .i64 n]
theorem ic_inj (x y : Int) (h : ic x = ic y) : x = y := by simpa [ic] using h
attribute [local simp] runL stepA execA_eq skipA run_ret run_fail run_get run_put run_asm num lk st lk_st putA AS.ev ofValue ofFlat mkv splice fieldAddrA buildA fillA runF gdst pickA unOpA extractA resVs resV pack frzT inlT inlV frzV frzVs frzL frz1 newId AV.cellsOf AV.flat AV.flat2 specOf loadA_runR capA copyA copyTo srcA sliceCA slice3A appendZA extA AV.place lenCA clearA clearTo expG expB3 List.zipWith renL fF handB renB AV.ren backF backL idsOf freshIds refsL refsB AV.refs List.range List.range.loop placesA sliceRows rowsOf convertA sliceArrA sliceA bndA nilCheckA arrayAtA mmA lookupA keyOf keyOK findA keyEqA foundA makeMapA mapUpdateA appendA rowsA indexA partA fieldA retE2 frqT frqV frqVs frqL frq1 reachE blkRefs outE nodupE firstE seqO expB2 expF take_len_map List.findIdx?_cons List.findIdx?_nil
def dkB (L : List Int) (k : Nat) : ABlk := { gen := 0, kind := 2, elem := 109, size := 2, inl := false, rows := [[.list 1 (L.map ic), .int .i64 (k : Nat)]] }
theorem dkB_inj {L L' : List Int} {k k' : Nat} (h : dkB L k = dkB L' k') : L = L' ∧ k = k' := by
  simp only [dkB, ABlk.mk.injEq, List.cons.injEq, AV.list.injEq, AV.int.injEq, true_and, and_true, Int.natCast_inj] at h
  exact ⟨map_inj ic_inj h.1, h.2⟩
def encN (L : List Int) : List AV × List ABlk := ([.list 1 (L.map ic)], [])
theorem encN_inj {β : Type} {f : List Int → β} : ∀ x y, encN x = encN y → f x = f y := fun x y h => by
  simp only [encN, Prod.mk.injEq, List.cons.injEq, AV.list.injEq, true_and, and_true] at h
  rw [map_inj ic_inj h]
noncomputable def newS : SpecFn := mkS2 encN fun L => (.ptr 0 0 0 0, [dkB L 0])
theorem newS_eq (L : List Int) : newS [.list 1 (L.map ic)] [] = some (.ptr 0 0 0 0, [{ gen := 0, kind := 2, elem := 109, size := 2, inl := false, rows := [[.list 1 (L.map ic), .int .i64 0]] }]) := mkS2_eq (enc := encN) encN_inj L
theorem new_ok : FnC Try.prog 25 newS := by
  refine FnC.walkB 25 (fn := Try.f25) Try.func25 rfl (by kernel_rfl) (fun x b hb => by simp [encN] at hb) fun L => ?_
  change W _ (RetB _ _ 0 _ _) _ _ ⟨6, [(0, .list 1 (L.map ic))], []⟩
  repeat (first | refine N.seq ?_ | refine N.blk ?_ | refine W.seq rfl ?_ | refine W.block rfl ?_ | refine W.skip rfl ?_ | refine W.ret rfl ?_ | refine N.nil ?_ | refine N.loop ?_ | refine W.exit rfl ?_ | refine X.seq ?_ | refine X.loop ?_ | refine X.hit ?_ | refine X.pass (by decide) ?_ | refine W.condT rfl (by rfl) ?_ | refine W.condF rfl (by rfl) ?_ | refine W.region tm no_specs rfl (by conv => lhs; simp) fun _ => ?_ | refine W.regionD tm no_specs rfl (by conv => lhs; simp) (by conv => lhs; simp) (by kernel_rfl) fun _ => ?_)
  simp only [dkB, Int.ofNat_zero, Int.natCast_zero]
  first | exact retE2_ok false (by conv => lhs; simp [retE2, frqT, frqV, frqVs, frqL, frq1, reachE, blkRefs, outE, nodupE, firstE, seqO, expB2, expF, refsB, refsL, AV.refs, AV.ren, renL, renB, List.range, List.range.loop, resVs, resV, pack]) | fail "no return here"
def encLf (x : List Int × Nat) : List AV × List ABlk := ([.ptr 0 0 0 0], [dkB x.1 x.2])
theorem encLf_inj {β : Type} {f : List Int × Nat → β} : ∀ x y, encLf x = encLf y → f x = f y := fun x y h => by
  simp only [encLf, Prod.mk.injEq, List.cons.injEq, true_and, and_true] at h
  obtain ⟨h1, h2⟩ := dkB_inj h
  rw [Prod.ext h1 h2]
noncomputable def leftS : SpecFn := mkS2 encLf fun x => (.bool (decide (x.2 < x.1.length)), [dkB x.1 x.2])
theorem leftS_eq (L : List Int) (k : Nat) : leftS [.ptr 0 0 0 0] [{ gen := 0, kind := 2, elem := 109, size := 2, inl := false, rows := [[.list 1 (L.map ic), .int .i64 (k : Nat)]] }] = some (.bool (decide (k < L.length)), [{ gen := 0, kind := 2, elem := 109, size := 2, inl := false, rows := [[.list 1 (L.map ic), .int .i64 (k : Nat)]] }]) := mkS2_eq (enc := encLf) encLf_inj (L, k)
theorem left_ok : FnC Try.prog 47 leftS := by
  refine FnC.walkB 47 (fn := Try.f47) Try.func47 rfl (by kernel_rfl) (fun x b hb => by simp [encLf] at hb; rw [hb]; rfl) fun x => ?_
  obtain ⟨L, k⟩ := x
  change W _ (RetB _ _ 1 _ _) _ _ ⟨13, [(0, .ptr 0 0 0 0)], [(0, dkB L k)]⟩
  repeat (first | refine N.seq ?_ | refine N.blk ?_ | refine W.seq rfl ?_ | refine W.block rfl ?_ | refine W.skip rfl ?_ | refine W.ret rfl ?_ | refine N.nil ?_ | refine N.loop ?_ | refine W.exit rfl ?_ | refine X.seq ?_ | refine X.loop ?_ | refine X.hit ?_ | refine X.pass (by decide) ?_ | refine W.condT rfl (by rfl) ?_ | refine W.condF rfl (by rfl) ?_ | refine W.region tm no_specs rfl (by conv => lhs; simp [dkB]) fun _ => ?_ | refine W.regionD tm no_specs rfl (by conv => lhs; simp [dkB]) (by conv => lhs; simp) (by kernel_rfl) fun _ => ?_)
  simp only [dkB]
  first | exact retE2_ok false (by conv => lhs; simp [retE2, frqT, frqV, frqVs, frqL, frq1, reachE, blkRefs, outE, nodupE, firstE, seqO, expB2, expF, refsB, refsL, AV.refs, AV.ren, renL, renB, List.range, List.range.loop, resVs, resV, pack]) | fail "no return here"
def nx (L : List Int) (k : Nat) (n : Int) : Int := if h : k < L.length then L[k] % n else 0
def nk (L : List Int) (k : Nat) : Nat := if k < L.length then k + 1 else k
theorem nk_le {L : List Int} {k : Nat} (h : k ≤ L.length) : nk L k ≤ L.length := by unfold nk; split <;> omega
theorem nx_nonneg (L : List Int) (k : Nat) {n : Int} (h : 0 < n) : 0 ≤ nx L k n := by
  unfold nx; split
  · exact Int.emod_nonneg _ (by omega)
  · omega
theorem nx_lt (L : List Int) (k : Nat) {n : Int} (h : 0 < n) : nx L k n < n := by
  unfold nx; split
  · exact Int.emod_lt_of_pos _ h
  · exact h
def NxI := { x : List Int × Nat × Int // x.1.length ≤ maxLen ∧ x.2.1 ≤ x.1.length ∧ 0 < x.2.2 ∧ x.2.2 ≤ 4294967296 }
def encNx (x : NxI) : List AV × List ABlk := ([.ptr 0 0 0 0, .int .i64 x.1.2.2], [dkB x.1.1 x.1.2.1])
theorem encNx_inj {β : Type} {f : NxI → β} : ∀ x y, encNx x = encNx y → f x = f y := fun x y h => by
  simp only [encNx, Prod.mk.injEq, List.cons.injEq, AV.int.injEq, true_and, and_true] at h
  obtain ⟨h1, h2⟩ := dkB_inj h.2
  rw [Subtype.ext (Prod.ext h1 (Prod.ext h2 h.1))]
noncomputable def nextS : SpecFn := mkS2 encNx fun x => (.int .i64 (nx x.1.1 x.1.2.1 x.1.2.2), [dkB x.1.1 (nk x.1.1 x.1.2.1)])
theorem nextS_eq (L : List Int) (k : Nat) (n : Int) (h0 : L.length ≤ maxLen) (h1 : k ≤ L.length) (h2 : 0 < n) (h3 : n ≤ 4294967296) : nextS [.ptr 0 0 0 0, .int .i64 n] [{ gen := 0, kind := 2, elem := 109, size := 2, inl := false, rows := [[.list 1 (L.map ic), .int .i64 (k : Nat)]] }] =
    some (.int .i64 (nx L k n), [{ gen := 0, kind := 2, elem := 109, size := 2, inl := false, rows := [[.list 1 (L.map ic), .int .i64 (nk L k : Nat)]] }]) := mkS2_eq (enc := encNx) encNx_inj ⟨(L, k, n), h0, h1, h2, h3⟩
noncomputable def nx_specs : NL Spec := [(47, ⟨3, leftS⟩), (48, ⟨0, modS⟩)]
theorem nx_specs_ok : ∀ p ∈ nx_specs, FnC Try.prog p.1 p.2.fn := by
  simp only [nx_specs, List.mem_cons, List.not_mem_nil, or_false]
  rintro p (rfl | rfl)
  · exact left_ok
  · exact mod_ok
attribute [local simp] nx_specs leftS_eq
theorem next_ok : FnC Try.prog 27 nextS := by
  refine FnC.walkB 27 (fn := Try.f27) Try.func27 rfl (by kernel_rfl) (fun x b hb => by simp [encNx] at hb; rw [hb]; rfl) fun x => ?_
  obtain ⟨⟨L, k, n⟩, h0, h1, h2, h3⟩ := x
  dsimp only at h0 h1 h2 h3
  change W _ (RetB _ _ 1 _ _) _ _ ⟨28, [(0, .ptr 0 0 0 0), (1, .int .i64 n)], [(0, dkB L k)]⟩
  by_cases hk : k < L.length
  · have hm := modS_eq L[k] n h2 h3
    have hx : nx L k n = L[k] % n := by simp [nx, hk]
    have hn : nk L k = k + 1 := by simp [nk, hk]
    simp only [hx, hn]
    have hw := w64_succ hk h0
    rw [Int.natCast_add] at hw
    have hwk : IntKind.i64.wrap (k : Int) = k := w64_nat rfl h1 h0
    repeat (first | refine N.seq ?_ | refine N.blk ?_ | refine W.seq rfl ?_ | refine W.block rfl ?_ | refine W.skip rfl ?_ | refine W.ret rfl ?_ | refine N.nil ?_ | refine N.loop ?_ | refine W.exit rfl ?_ | refine X.seq ?_ | refine X.loop ?_ | refine X.hit ?_ | refine X.pass (by decide) ?_ | refine W.condT rfl (by rfl) ?_ | refine W.condF rfl (by rfl) ?_ | refine W.region tm nx_specs_ok rfl (by conv => lhs; simp [dkB, hk, hm, ic, hw, hwk]) fun _ => ?_ | refine W.regionD tm nx_specs_ok rfl (by conv => lhs; simp [dkB, hk, hm, ic, hw, hwk]) (by conv => lhs; simp) (by kernel_rfl) fun _ => ?_)
    simp only [dkB, Int.natCast_add, Int.natCast_one]
    first | exact retE2_ok false (by conv => lhs; simp [retE2, frqT, frqV, frqVs, frqL, frq1, reachE, blkRefs, outE, nodupE, firstE, seqO, expB2, expF, refsB, refsL, AV.refs, AV.ren, renL, renB, List.range, List.range.loop, resVs, resV, pack]) | fail "no return here"
  · have hx : nx L k n = 0 := by simp [nx, hk]
    have hn : nk L k = k := by simp [nk, hk]
    simp only [hx, hn]
    repeat (first | refine N.seq ?_ | refine N.blk ?_ | refine W.seq rfl ?_ | refine W.block rfl ?_ | refine W.skip rfl ?_ | refine W.ret rfl ?_ | refine N.nil ?_ | refine N.loop ?_ | refine W.exit rfl ?_ | refine X.seq ?_ | refine X.loop ?_ | refine X.hit ?_ | refine X.pass (by decide) ?_ | refine W.condT rfl (by rfl) ?_ | refine W.condF rfl (by rfl) ?_ | refine W.region tm nx_specs_ok rfl (by conv => lhs; simp [dkB, hk]) fun _ => ?_ | refine W.regionD tm nx_specs_ok rfl (by conv => lhs; simp [dkB, hk]) (by conv => lhs; simp) (by kernel_rfl) fun _ => ?_)
    simp only [dkB]
    first | exact retE2_ok false (by conv => lhs; simp [retE2, frqT, frqV, frqVs, frqL, frq1, reachE, blkRefs, outE, nodupE, firstE, seqO, expB2, expF, refsB, refsL, AV.refs, AV.ren, renL, renB, List.range, List.range.loop, resVs, resV, pack]) | fail "no return here"
end Go.Abs.Po
