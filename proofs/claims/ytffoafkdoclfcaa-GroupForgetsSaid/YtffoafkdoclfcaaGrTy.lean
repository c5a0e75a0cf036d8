/- Facts about types. Conditions: none. -/
import Derived.Test.YtffoafkdoclfcaaAbsU
import Derived.Test.YtffoafkdoclfcaaProg
import Derived.KernelRfl
namespace Go.Abs.Gr
open Go Go.Proofs Go.Abs
set_option maxRecDepth 100000
@[simp] theorem sz0 : szOf Try.prog 0 = some 1 := by kernel_rfl
@[simp] theorem ag0 : aggT Try.prog 0 = some false := by kernel_rfl
@[simp] theorem sz1 : szOf Try.prog 1 = some 1 := by kernel_rfl
@[simp] theorem ag1 : aggT Try.prog 1 = some false := by kernel_rfl
@[simp] theorem zz1 : zeroA Try.prog 1 = some (.nilf) := by kernel_rfl
@[simp] theorem sz2 : szOf Try.prog 2 = some 1 := by kernel_rfl
@[simp] theorem ag2 : aggT Try.prog 2 = some false := by kernel_rfl
@[simp] theorem zz2 : zeroA Try.prog 2 = some (.int .i64 0) := by kernel_rfl
@[simp] theorem sz3 : szOf Try.prog 3 = some 1 := by kernel_rfl
@[simp] theorem ag3 : aggT Try.prog 3 = some false := by kernel_rfl
@[simp] theorem zz3 : zeroA Try.prog 3 = some (.int .i64 0) := by kernel_rfl
@[simp] theorem sz4 : szOf Try.prog 4 = some 1 := by kernel_rfl
@[simp] theorem ag4 : aggT Try.prog 4 = some false := by kernel_rfl
@[simp] theorem zz4 : zeroA Try.prog 4 = some (.bool false) := by kernel_rfl
@[simp] theorem sz5 : szOf Try.prog 5 = some 1 := by kernel_rfl
@[simp] theorem ag5 : aggT Try.prog 5 = some false := by kernel_rfl
@[simp] theorem zz5 : zeroA Try.prog 5 = some (.int .u8 0) := by kernel_rfl
@[simp] theorem sz6 : szOf Try.prog 6 = some 1 := by kernel_rfl
@[simp] theorem ag6 : aggT Try.prog 6 = some false := by kernel_rfl
@[simp] theorem zz6 : zeroA Try.prog 6 = some (.int .u8 0) := by kernel_rfl
@[simp] theorem sz7 : szOf Try.prog 7 = some 4 := by kernel_rfl
@[simp] theorem ag7 : aggT Try.prog 7 = some true := by kernel_rfl
@[simp] theorem zz7 : zeroA Try.prog 7 = some (.agg [.int .i64 0, .int .i64 0, .bool false, .int .u8 0]) := by kernel_rfl
@[simp] theorem sz8 : szOf Try.prog 8 = some 4 := by kernel_rfl
@[simp] theorem ag8 : aggT Try.prog 8 = some true := by kernel_rfl
@[simp] theorem zz8 : zeroA Try.prog 8 = some (.agg [.int .i64 0, .int .i64 0, .bool false, .int .u8 0]) := by kernel_rfl
@[simp] theorem sz9 : szOf Try.prog 9 = some 1 := by kernel_rfl
@[simp] theorem ag9 : aggT Try.prog 9 = some false := by kernel_rfl
@[simp] theorem zz9 : zeroA Try.prog 9 = some (.str ByteArray.empty) := by kernel_rfl
@[simp] theorem sz10 : szOf Try.prog 10 = some 1 := by kernel_rfl
@[simp] theorem ag10 : aggT Try.prog 10 = some false := by kernel_rfl
@[simp] theorem zz10 : zeroA Try.prog 10 = some (.str ByteArray.empty) := by kernel_rfl
@[simp] theorem sz11 : szOf Try.prog 11 = some 1 := by kernel_rfl
@[simp] theorem ag11 : aggT Try.prog 11 = some false := by kernel_rfl
@[simp] theorem zz11 : zeroA Try.prog 11 = some (.str ByteArray.empty) := by kernel_rfl
@[simp] theorem sz12 : szOf Try.prog 12 = some 1 := by kernel_rfl
@[simp] theorem ag12 : aggT Try.prog 12 = some false := by kernel_rfl
@[simp] theorem zz12 : zeroA Try.prog 12 = some (.int .u64 0) := by kernel_rfl
@[simp] theorem sz13 : szOf Try.prog 13 = some 2 := by kernel_rfl
@[simp] theorem ag13 : aggT Try.prog 13 = some true := by kernel_rfl
@[simp] theorem zz13 : zeroA Try.prog 13 = some (.agg [.str ByteArray.empty, .int .u64 0]) := by kernel_rfl
@[simp] theorem sz14 : szOf Try.prog 14 = some 2 := by kernel_rfl
@[simp] theorem ag14 : aggT Try.prog 14 = some true := by kernel_rfl
@[simp] theorem zz14 : zeroA Try.prog 14 = some (.agg [.str ByteArray.empty, .int .u64 0]) := by kernel_rfl
@[simp] theorem sz15 : szOf Try.prog 15 = some 1 := by kernel_rfl
@[simp] theorem ag15 : aggT Try.prog 15 = some false := by kernel_rfl
@[simp] theorem zz15 : zeroA Try.prog 15 = some (.nilp) := by kernel_rfl
@[simp] theorem sz16 : szOf Try.prog 16 = some 1 := by kernel_rfl
@[simp] theorem ag16 : aggT Try.prog 16 = some false := by kernel_rfl
@[simp] theorem zz16 : zeroA Try.prog 16 = some (.nilp) := by kernel_rfl
@[simp] theorem sz17 : szOf Try.prog 17 = some 1 := by kernel_rfl
@[simp] theorem ag17 : aggT Try.prog 17 = some false := by kernel_rfl
@[simp] theorem zz17 : zeroA Try.prog 17 = some (.nilp) := by kernel_rfl
@[simp] theorem sz18 : szOf Try.prog 18 = some 1 := by kernel_rfl
@[simp] theorem ag18 : aggT Try.prog 18 = some true := by kernel_rfl
@[simp] theorem zz18 : zeroA Try.prog 18 = some (.agg [.nilp]) := by kernel_rfl
@[simp] theorem sz19 : szOf Try.prog 19 = some 1 := by kernel_rfl
@[simp] theorem ag19 : aggT Try.prog 19 = some true := by kernel_rfl
@[simp] theorem zz19 : zeroA Try.prog 19 = some (.agg [.nilp]) := by kernel_rfl
@[simp] theorem sz20 : szOf Try.prog 20 = some 1 := by kernel_rfl
@[simp] theorem ag20 : aggT Try.prog 20 = some false := by kernel_rfl
@[simp] theorem sz21 : szOf Try.prog 21 = some 1 := by kernel_rfl
@[simp] theorem ag21 : aggT Try.prog 21 = some false := by kernel_rfl
@[simp] theorem zz21 : zeroA Try.prog 21 = some (.int .i32 0) := by kernel_rfl
@[simp] theorem sz22 : szOf Try.prog 22 = some 1 := by kernel_rfl
@[simp] theorem ag22 : aggT Try.prog 22 = some false := by kernel_rfl
@[simp] theorem zz22 : zeroA Try.prog 22 = some (.int .u64 0) := by kernel_rfl
@[simp] theorem sz23 : szOf Try.prog 23 = some 1 := by kernel_rfl
@[simp] theorem ag23 : aggT Try.prog 23 = some false := by kernel_rfl
@[simp] theorem zz23 : zeroA Try.prog 23 = some (.nilf) := by kernel_rfl
@[simp] theorem sz24 : szOf Try.prog 24 = some 1 := by kernel_rfl
@[simp] theorem ag24 : aggT Try.prog 24 = some false := by kernel_rfl
@[simp] theorem zz24 : zeroA Try.prog 24 = some (.nils) := by kernel_rfl
@[simp] theorem sz25 : szOf Try.prog 25 = some 1 := by kernel_rfl
@[simp] theorem ag25 : aggT Try.prog 25 = some false := by kernel_rfl
@[simp] theorem zz25 : zeroA Try.prog 25 = some (.nilf) := by kernel_rfl
@[simp] theorem sz26 : szOf Try.prog 26 = some 3 := by kernel_rfl
@[simp] theorem ag26 : aggT Try.prog 26 = some true := by kernel_rfl
@[simp] theorem zz26 : zeroA Try.prog 26 = some (.agg [.int .u64 0, .int .u64 0, .int .i64 0]) := by kernel_rfl
@[simp] theorem sz27 : szOf Try.prog 27 = some 3 := by kernel_rfl
@[simp] theorem ag27 : aggT Try.prog 27 = some true := by kernel_rfl
@[simp] theorem zz27 : zeroA Try.prog 27 = some (.agg [.int .u64 0, .int .u64 0, .int .i64 0]) := by kernel_rfl
@[simp] theorem sz28 : szOf Try.prog 28 = some 2 := by kernel_rfl
@[simp] theorem ag28 : aggT Try.prog 28 = some true := by kernel_rfl
@[simp] theorem zz28 : zeroA Try.prog 28 = some (.agg [.int .u64 0, .int .u64 0]) := by kernel_rfl
@[simp] theorem sz29 : szOf Try.prog 29 = some 1 := by kernel_rfl
@[simp] theorem ag29 : aggT Try.prog 29 = some false := by kernel_rfl
@[simp] theorem zz29 : zeroA Try.prog 29 = some (.nils) := by kernel_rfl
@[simp] theorem sz30 : szOf Try.prog 30 = some 1 := by kernel_rfl
@[simp] theorem ag30 : aggT Try.prog 30 = some false := by kernel_rfl
@[simp] theorem zz30 : zeroA Try.prog 30 = some (.nilf) := by kernel_rfl
@[simp] theorem sz31 : szOf Try.prog 31 = some 1 := by kernel_rfl
@[simp] theorem ag31 : aggT Try.prog 31 = some false := by kernel_rfl
@[simp] theorem zz31 : zeroA Try.prog 31 = some (.nilf) := by kernel_rfl
@[simp] theorem sz32 : szOf Try.prog 32 = some 1 := by kernel_rfl
@[simp] theorem ag32 : aggT Try.prog 32 = some false := by kernel_rfl
@[simp] theorem zz32 : zeroA Try.prog 32 = some (.nilf) := by kernel_rfl
@[simp] theorem sz33 : szOf Try.prog 33 = some 1 := by kernel_rfl
@[simp] theorem ag33 : aggT Try.prog 33 = some false := by kernel_rfl
@[simp] theorem zz33 : zeroA Try.prog 33 = some (.nils) := by kernel_rfl
@[simp] theorem sz34 : szOf Try.prog 34 = some 1 := by kernel_rfl
@[simp] theorem ag34 : aggT Try.prog 34 = some false := by kernel_rfl
@[simp] theorem zz34 : zeroA Try.prog 34 = some (.nils) := by kernel_rfl
@[simp] theorem sz35 : szOf Try.prog 35 = some 1 := by kernel_rfl
@[simp] theorem ag35 : aggT Try.prog 35 = some false := by kernel_rfl
@[simp] theorem sz36 : szOf Try.prog 36 = some 1 := by kernel_rfl
@[simp] theorem ag36 : aggT Try.prog 36 = some false := by kernel_rfl
@[simp] theorem zz36 : zeroA Try.prog 36 = some (.nilf) := by kernel_rfl
@[simp] theorem sz37 : szOf Try.prog 37 = some 1 := by kernel_rfl
@[simp] theorem ag37 : aggT Try.prog 37 = some false := by kernel_rfl
@[simp] theorem zz37 : zeroA Try.prog 37 = some (.nils) := by kernel_rfl
@[simp] theorem sz38 : szOf Try.prog 38 = some 1 := by kernel_rfl
@[simp] theorem ag38 : aggT Try.prog 38 = some false := by kernel_rfl
@[simp] theorem zz38 : zeroA Try.prog 38 = some (.nils) := by kernel_rfl
@[simp] theorem sz39 : szOf Try.prog 39 = some 1 := by kernel_rfl
@[simp] theorem ag39 : aggT Try.prog 39 = some false := by kernel_rfl
@[simp] theorem zz39 : zeroA Try.prog 39 = some (.nilf) := by kernel_rfl
@[simp] theorem sz40 : szOf Try.prog 40 = some 1 := by kernel_rfl
@[simp] theorem ag40 : aggT Try.prog 40 = some false := by kernel_rfl
@[simp] theorem zz40 : zeroA Try.prog 40 = some (.nilf) := by kernel_rfl
@[simp] theorem sz41 : szOf Try.prog 41 = some 1 := by kernel_rfl
@[simp] theorem ag41 : aggT Try.prog 41 = some false := by kernel_rfl
@[simp] theorem zz41 : zeroA Try.prog 41 = some (.nilf) := by kernel_rfl
@[simp] theorem sz42 : szOf Try.prog 42 = some 1 := by kernel_rfl
@[simp] theorem ag42 : aggT Try.prog 42 = some false := by kernel_rfl
@[simp] theorem zz42 : zeroA Try.prog 42 = some (.nilf) := by kernel_rfl
@[simp] theorem sz43 : szOf Try.prog 43 = some 1 := by kernel_rfl
@[simp] theorem ag43 : aggT Try.prog 43 = some false := by kernel_rfl
@[simp] theorem zz43 : zeroA Try.prog 43 = some (.nilf) := by kernel_rfl
@[simp] theorem sz44 : szOf Try.prog 44 = some 1 := by kernel_rfl
@[simp] theorem ag44 : aggT Try.prog 44 = some false := by kernel_rfl
@[simp] theorem zz44 : zeroA Try.prog 44 = some (.nilf) := by kernel_rfl
@[simp] theorem sz45 : szOf Try.prog 45 = some 1 := by kernel_rfl
@[simp] theorem ag45 : aggT Try.prog 45 = some false := by kernel_rfl
@[simp] theorem zz45 : zeroA Try.prog 45 = some (.nilf) := by kernel_rfl
@[simp] theorem sz46 : szOf Try.prog 46 = some 1 := by kernel_rfl
@[simp] theorem ag46 : aggT Try.prog 46 = some false := by kernel_rfl
@[simp] theorem zz46 : zeroA Try.prog 46 = some (.nilf) := by kernel_rfl
@[simp] theorem sz47 : szOf Try.prog 47 = some 1 := by kernel_rfl
@[simp] theorem ag47 : aggT Try.prog 47 = some false := by kernel_rfl
@[simp] theorem zz47 : zeroA Try.prog 47 = some (.nilf) := by kernel_rfl
@[simp] theorem sz48 : szOf Try.prog 48 = some 1 := by kernel_rfl
@[simp] theorem ag48 : aggT Try.prog 48 = some false := by kernel_rfl
@[simp] theorem sz49 : szOf Try.prog 49 = some 1 := by kernel_rfl
@[simp] theorem ag49 : aggT Try.prog 49 = some false := by kernel_rfl
@[simp] theorem zz49 : zeroA Try.prog 49 = some (.nilf) := by kernel_rfl
@[simp] theorem sz50 : szOf Try.prog 50 = some 1 := by kernel_rfl
@[simp] theorem ag50 : aggT Try.prog 50 = some false := by kernel_rfl
@[simp] theorem zz50 : zeroA Try.prog 50 = some (.nilf) := by kernel_rfl
@[simp] theorem sz51 : szOf Try.prog 51 = some 1 := by kernel_rfl
@[simp] theorem ag51 : aggT Try.prog 51 = some false := by kernel_rfl
@[simp] theorem zz51 : zeroA Try.prog 51 = some (.nilf) := by kernel_rfl
@[simp] theorem sz52 : szOf Try.prog 52 = some 1 := by kernel_rfl
@[simp] theorem ag52 : aggT Try.prog 52 = some false := by kernel_rfl
@[simp] theorem zz52 : zeroA Try.prog 52 = some (.nilf) := by kernel_rfl
@[simp] theorem sz53 : szOf Try.prog 53 = some 1 := by kernel_rfl
@[simp] theorem ag53 : aggT Try.prog 53 = some false := by kernel_rfl
@[simp] theorem zz53 : zeroA Try.prog 53 = some (.nilf) := by kernel_rfl
@[simp] theorem sz54 : szOf Try.prog 54 = some 1 := by kernel_rfl
@[simp] theorem ag54 : aggT Try.prog 54 = some false := by kernel_rfl
@[simp] theorem zz54 : zeroA Try.prog 54 = some (.nilp) := by kernel_rfl
@[simp] theorem sz55 : szOf Try.prog 55 = some 1 := by kernel_rfl
@[simp] theorem ag55 : aggT Try.prog 55 = some false := by kernel_rfl
@[simp] theorem zz55 : zeroA Try.prog 55 = some (.nilf) := by kernel_rfl
@[simp] theorem sz56 : szOf Try.prog 56 = some 1 := by kernel_rfl
@[simp] theorem ag56 : aggT Try.prog 56 = some false := by kernel_rfl
@[simp] theorem zz56 : zeroA Try.prog 56 = some (.nilf) := by kernel_rfl
@[simp] theorem sz57 : szOf Try.prog 57 = some 1 := by kernel_rfl
@[simp] theorem ag57 : aggT Try.prog 57 = some false := by kernel_rfl
@[simp] theorem zz57 : zeroA Try.prog 57 = some (.nilm) := by kernel_rfl
@[simp] theorem sz58 : szOf Try.prog 58 = some 1 := by kernel_rfl
@[simp] theorem ag58 : aggT Try.prog 58 = some false := by kernel_rfl
@[simp] theorem zz58 : zeroA Try.prog 58 = some (.nilp) := by kernel_rfl
@[simp] theorem sz59 : szOf Try.prog 59 = some 1 := by kernel_rfl
@[simp] theorem ag59 : aggT Try.prog 59 = some false := by kernel_rfl
@[simp] theorem zz59 : zeroA Try.prog 59 = some (.nilf) := by kernel_rfl
@[simp] theorem sz60 : szOf Try.prog 60 = some 1 := by kernel_rfl
@[simp] theorem ag60 : aggT Try.prog 60 = some false := by kernel_rfl
@[simp] theorem zz60 : zeroA Try.prog 60 = some (.nilf) := by kernel_rfl
@[simp] theorem sz61 : szOf Try.prog 61 = some 1 := by kernel_rfl
@[simp] theorem ag61 : aggT Try.prog 61 = some false := by kernel_rfl
@[simp] theorem zz61 : zeroA Try.prog 61 = some (.nilf) := by kernel_rfl
@[simp] theorem sz62 : szOf Try.prog 62 = some 1 := by kernel_rfl
@[simp] theorem ag62 : aggT Try.prog 62 = some false := by kernel_rfl
@[simp] theorem zz62 : zeroA Try.prog 62 = some (.nilf) := by kernel_rfl
@[simp] theorem sz63 : szOf Try.prog 63 = some 1 := by kernel_rfl
@[simp] theorem ag63 : aggT Try.prog 63 = some false := by kernel_rfl
@[simp] theorem zz63 : zeroA Try.prog 63 = some (.nilf) := by kernel_rfl
@[simp] theorem sz64 : szOf Try.prog 64 = some 1 := by kernel_rfl
@[simp] theorem ag64 : aggT Try.prog 64 = some false := by kernel_rfl
@[simp] theorem zz64 : zeroA Try.prog 64 = some (.nilf) := by kernel_rfl
@[simp] theorem sz65 : szOf Try.prog 65 = some 1 := by kernel_rfl
@[simp] theorem ag65 : aggT Try.prog 65 = some false := by kernel_rfl
@[simp] theorem zz65 : zeroA Try.prog 65 = some (.nilf) := by kernel_rfl
@[simp] theorem sz66 : szOf Try.prog 66 = some 1 := by kernel_rfl
@[simp] theorem ag66 : aggT Try.prog 66 = some false := by kernel_rfl
@[simp] theorem zz66 : zeroA Try.prog 66 = some (.nilf) := by kernel_rfl
@[simp] theorem sz67 : szOf Try.prog 67 = some 1 := by kernel_rfl
@[simp] theorem ag67 : aggT Try.prog 67 = some false := by kernel_rfl
@[simp] theorem zz67 : zeroA Try.prog 67 = some (.nilf) := by kernel_rfl
@[simp] theorem sz68 : szOf Try.prog 68 = some 1 := by kernel_rfl
@[simp] theorem ag68 : aggT Try.prog 68 = some false := by kernel_rfl
@[simp] theorem zz68 : zeroA Try.prog 68 = some (.nilf) := by kernel_rfl
@[simp] theorem sz69 : szOf Try.prog 69 = some 1 := by kernel_rfl
@[simp] theorem ag69 : aggT Try.prog 69 = some false := by kernel_rfl
@[simp] theorem zz69 : zeroA Try.prog 69 = some (.nilf) := by kernel_rfl
@[simp] theorem sz70 : szOf Try.prog 70 = some 1 := by kernel_rfl
@[simp] theorem ag70 : aggT Try.prog 70 = some false := by kernel_rfl
@[simp] theorem zz70 : zeroA Try.prog 70 = some (.int .u64 0) := by kernel_rfl
@[simp] theorem sz71 : szOf Try.prog 71 = some 1 := by kernel_rfl
@[simp] theorem ag71 : aggT Try.prog 71 = some false := by kernel_rfl
@[simp] theorem zz71 : zeroA Try.prog 71 = some (.nilf) := by kernel_rfl
@[simp] theorem sz72 : szOf Try.prog 72 = some 2 := by kernel_rfl
@[simp] theorem ag72 : aggT Try.prog 72 = some true := by kernel_rfl
@[simp] theorem zz72 : zeroA Try.prog 72 = some (.agg [.nils, .int .i64 0]) := by kernel_rfl
@[simp] theorem sz73 : szOf Try.prog 73 = some 2 := by kernel_rfl
@[simp] theorem ag73 : aggT Try.prog 73 = some true := by kernel_rfl
@[simp] theorem zz73 : zeroA Try.prog 73 = some (.agg [.nils, .int .i64 0]) := by kernel_rfl
@[simp] theorem sz74 : szOf Try.prog 74 = some 1 := by kernel_rfl
@[simp] theorem ag74 : aggT Try.prog 74 = some false := by kernel_rfl
@[simp] theorem zz74 : zeroA Try.prog 74 = some (.nilf) := by kernel_rfl
@[simp] theorem sz75 : szOf Try.prog 75 = some 1 := by kernel_rfl
@[simp] theorem ag75 : aggT Try.prog 75 = some false := by kernel_rfl
@[simp] theorem zz75 : zeroA Try.prog 75 = some (.nilf) := by kernel_rfl
@[simp] theorem sz76 : szOf Try.prog 76 = some 1 := by kernel_rfl
@[simp] theorem ag76 : aggT Try.prog 76 = some false := by kernel_rfl
@[simp] theorem zz76 : zeroA Try.prog 76 = some (.nilf) := by kernel_rfl
@[simp] theorem sz77 : szOf Try.prog 77 = some 1 := by kernel_rfl
@[simp] theorem ag77 : aggT Try.prog 77 = some false := by kernel_rfl
@[simp] theorem zz77 : zeroA Try.prog 77 = some (.nilf) := by kernel_rfl
@[simp] theorem sz78 : szOf Try.prog 78 = some 1 := by kernel_rfl
@[simp] theorem ag78 : aggT Try.prog 78 = some false := by kernel_rfl
@[simp] theorem zz78 : zeroA Try.prog 78 = some (.nilf) := by kernel_rfl
@[simp] theorem sz79 : szOf Try.prog 79 = some 1 := by kernel_rfl
@[simp] theorem ag79 : aggT Try.prog 79 = some false := by kernel_rfl
@[simp] theorem zz79 : zeroA Try.prog 79 = some (.nilf) := by kernel_rfl
@[simp] theorem sz80 : szOf Try.prog 80 = some 1 := by kernel_rfl
@[simp] theorem ag80 : aggT Try.prog 80 = some false := by kernel_rfl
@[simp] theorem zz80 : zeroA Try.prog 80 = some (.nilf) := by kernel_rfl
@[simp] theorem sz81 : szOf Try.prog 81 = some 1 := by kernel_rfl
@[simp] theorem ag81 : aggT Try.prog 81 = some false := by kernel_rfl
@[simp] theorem zz81 : zeroA Try.prog 81 = some (.nilf) := by kernel_rfl
@[simp] theorem sz82 : szOf Try.prog 82 = some 1 := by kernel_rfl
@[simp] theorem ag82 : aggT Try.prog 82 = some false := by kernel_rfl
@[simp] theorem zz82 : zeroA Try.prog 82 = some (.nilf) := by kernel_rfl
@[simp] theorem sz83 : szOf Try.prog 83 = some 1 := by kernel_rfl
@[simp] theorem ag83 : aggT Try.prog 83 = some false := by kernel_rfl
@[simp] theorem zz83 : zeroA Try.prog 83 = some (.nilf) := by kernel_rfl
@[simp] theorem sz84 : szOf Try.prog 84 = some 1 := by kernel_rfl
@[simp] theorem ag84 : aggT Try.prog 84 = some false := by kernel_rfl
@[simp] theorem zz84 : zeroA Try.prog 84 = some (.int .i64 0) := by kernel_rfl
@[simp] theorem sz85 : szOf Try.prog 85 = some 1 := by kernel_rfl
@[simp] theorem ag85 : aggT Try.prog 85 = some false := by kernel_rfl
@[simp] theorem sz86 : szOf Try.prog 86 = some 1 := by kernel_rfl
@[simp] theorem ag86 : aggT Try.prog 86 = some false := by kernel_rfl
@[simp] theorem zz86 : zeroA Try.prog 86 = some (.nilf) := by kernel_rfl
@[simp] theorem sz87 : szOf Try.prog 87 = some 1 := by kernel_rfl
@[simp] theorem ag87 : aggT Try.prog 87 = some false := by kernel_rfl
@[simp] theorem zz87 : zeroA Try.prog 87 = some (.nilf) := by kernel_rfl
@[simp] theorem sz88 : szOf Try.prog 88 = some 1 := by kernel_rfl
@[simp] theorem ag88 : aggT Try.prog 88 = some false := by kernel_rfl
@[simp] theorem zz88 : zeroA Try.prog 88 = some (.nilf) := by kernel_rfl
@[simp] theorem sz89 : szOf Try.prog 89 = some 1 := by kernel_rfl
@[simp] theorem ag89 : aggT Try.prog 89 = some false := by kernel_rfl
@[simp] theorem zz89 : zeroA Try.prog 89 = some (.nilf) := by kernel_rfl
@[simp] theorem sz90 : szOf Try.prog 90 = some 1 := by kernel_rfl
@[simp] theorem ag90 : aggT Try.prog 90 = some false := by kernel_rfl
@[simp] theorem sz91 : szOf Try.prog 91 = some 1 := by kernel_rfl
@[simp] theorem ag91 : aggT Try.prog 91 = some false := by kernel_rfl
@[simp] theorem zz91 : zeroA Try.prog 91 = some (.nilf) := by kernel_rfl
@[simp] theorem sz92 : szOf Try.prog 92 = some 1 := by kernel_rfl
@[simp] theorem ag92 : aggT Try.prog 92 = some false := by kernel_rfl
@[simp] theorem zz92 : zeroA Try.prog 92 = some (.nilf) := by kernel_rfl
@[simp] theorem sz93 : szOf Try.prog 93 = some 1 := by kernel_rfl
@[simp] theorem ag93 : aggT Try.prog 93 = some false := by kernel_rfl
@[simp] theorem zz93 : zeroA Try.prog 93 = some (.int .u32 0) := by kernel_rfl
@[simp] theorem sz94 : szOf Try.prog 94 = some 1 := by kernel_rfl
@[simp] theorem ag94 : aggT Try.prog 94 = some false := by kernel_rfl
@[simp] theorem zz94 : zeroA Try.prog 94 = some (.nilf) := by kernel_rfl
@[simp] theorem sz95 : szOf Try.prog 95 = some 1 := by kernel_rfl
@[simp] theorem ag95 : aggT Try.prog 95 = some false := by kernel_rfl
@[simp] theorem zz95 : zeroA Try.prog 95 = some (.nilf) := by kernel_rfl
@[simp] theorem sz96 : szOf Try.prog 96 = some 1 := by kernel_rfl
@[simp] theorem ag96 : aggT Try.prog 96 = some false := by kernel_rfl
@[simp] theorem zz96 : zeroA Try.prog 96 = some (.nilf) := by kernel_rfl
@[simp] theorem sz97 : szOf Try.prog 97 = some 1 := by kernel_rfl
@[simp] theorem ag97 : aggT Try.prog 97 = some false := by kernel_rfl
@[simp] theorem zz97 : zeroA Try.prog 97 = some (.nilf) := by kernel_rfl
@[simp] theorem sz98 : szOf Try.prog 98 = some 1 := by kernel_rfl
@[simp] theorem ag98 : aggT Try.prog 98 = some false := by kernel_rfl
@[simp] theorem zz98 : zeroA Try.prog 98 = some (.nilf) := by kernel_rfl
@[simp] theorem sz99 : szOf Try.prog 99 = some 1 := by kernel_rfl
@[simp] theorem ag99 : aggT Try.prog 99 = some false := by kernel_rfl
@[simp] theorem zz99 : zeroA Try.prog 99 = some (.nilf) := by kernel_rfl
@[simp] theorem sz100 : szOf Try.prog 100 = some 1 := by kernel_rfl
@[simp] theorem ag100 : aggT Try.prog 100 = some false := by kernel_rfl
@[simp] theorem zz100 : zeroA Try.prog 100 = some (.nilf) := by kernel_rfl
@[simp] theorem sz101 : szOf Try.prog 101 = some 1 := by kernel_rfl
@[simp] theorem ag101 : aggT Try.prog 101 = some false := by kernel_rfl
@[simp] theorem zz101 : zeroA Try.prog 101 = some (.int .u64 0) := by kernel_rfl
@[simp] theorem sz102 : szOf Try.prog 102 = some 1 := by kernel_rfl
@[simp] theorem ag102 : aggT Try.prog 102 = some false := by kernel_rfl
@[simp] theorem zz102 : zeroA Try.prog 102 = some (.nilf) := by kernel_rfl
@[simp] theorem sz103 : szOf Try.prog 103 = some 1 := by kernel_rfl
@[simp] theorem ag103 : aggT Try.prog 103 = some false := by kernel_rfl
@[simp] theorem zz103 : zeroA Try.prog 103 = some (.nilf) := by kernel_rfl
@[simp] theorem sz104 : szOf Try.prog 104 = some 1 := by kernel_rfl
@[simp] theorem ag104 : aggT Try.prog 104 = some false := by kernel_rfl
@[simp] theorem zz104 : zeroA Try.prog 104 = some (.nilf) := by kernel_rfl
@[simp] theorem sz105 : szOf Try.prog 105 = some 1 := by kernel_rfl
@[simp] theorem ag105 : aggT Try.prog 105 = some false := by kernel_rfl
@[simp] theorem zz105 : zeroA Try.prog 105 = some (.nilp) := by kernel_rfl
@[simp] theorem sz106 : szOf Try.prog 106 = some 1 := by kernel_rfl
@[simp] theorem ag106 : aggT Try.prog 106 = some false := by kernel_rfl
@[simp] theorem zz106 : zeroA Try.prog 106 = some (.nilf) := by kernel_rfl
@[simp] theorem sz107 : szOf Try.prog 107 = some 1 := by kernel_rfl
@[simp] theorem ag107 : aggT Try.prog 107 = some false := by kernel_rfl
@[simp] theorem zz107 : zeroA Try.prog 107 = some (.nilf) := by kernel_rfl
@[simp] theorem sz108 : szOf Try.prog 108 = some 1 := by kernel_rfl
@[simp] theorem ag108 : aggT Try.prog 108 = some false := by kernel_rfl
@[simp] theorem zz108 : zeroA Try.prog 108 = some (.nilf) := by kernel_rfl
@[simp] theorem sz109 : szOf Try.prog 109 = some 1 := by kernel_rfl
@[simp] theorem ag109 : aggT Try.prog 109 = some false := by kernel_rfl
@[simp] theorem zz109 : zeroA Try.prog 109 = some (.nilp) := by kernel_rfl
@[simp] theorem sz110 : szOf Try.prog 110 = some 1 := by kernel_rfl
@[simp] theorem ag110 : aggT Try.prog 110 = some false := by kernel_rfl
@[simp] theorem sz111 : szOf Try.prog 111 = some 1 := by kernel_rfl
@[simp] theorem ag111 : aggT Try.prog 111 = some false := by kernel_rfl
@[simp] theorem zz111 : zeroA Try.prog 111 = some (.nilf) := by kernel_rfl
@[simp] theorem sz112 : szOf Try.prog 112 = some 1 := by kernel_rfl
@[simp] theorem ag112 : aggT Try.prog 112 = some false := by kernel_rfl
@[simp] theorem zz112 : zeroA Try.prog 112 = some (.nilf) := by kernel_rfl
@[simp] theorem sz113 : szOf Try.prog 113 = some 1 := by kernel_rfl
@[simp] theorem ag113 : aggT Try.prog 113 = some false := by kernel_rfl
@[simp] theorem zz113 : zeroA Try.prog 113 = some (.nilf) := by kernel_rfl
@[simp] theorem sz114 : szOf Try.prog 114 = some 4 := by kernel_rfl
@[simp] theorem ag114 : aggT Try.prog 114 = some true := by kernel_rfl
@[simp] theorem zz114 : zeroA Try.prog 114 = some (.agg [.nilp, .nilp, .nilp, .str ByteArray.empty]) := by kernel_rfl
@[simp] theorem sz115 : szOf Try.prog 115 = some 4 := by kernel_rfl
@[simp] theorem ag115 : aggT Try.prog 115 = some true := by kernel_rfl
@[simp] theorem zz115 : zeroA Try.prog 115 = some (.agg [.nilp, .nilp, .nilp, .str ByteArray.empty]) := by kernel_rfl
@[simp] theorem sz116 : szOf Try.prog 116 = some 0 := by kernel_rfl
@[simp] theorem ag116 : aggT Try.prog 116 = some true := by kernel_rfl
@[simp] theorem zz116 : zeroA Try.prog 116 = some (.agg []) := by kernel_rfl
@[simp] theorem sz117 : szOf Try.prog 117 = some 0 := by kernel_rfl
@[simp] theorem ag117 : aggT Try.prog 117 = some true := by kernel_rfl
@[simp] theorem zz117 : zeroA Try.prog 117 = some (.agg []) := by kernel_rfl
@[simp] theorem sz118 : szOf Try.prog 118 = some 0 := by kernel_rfl
@[simp] theorem ag118 : aggT Try.prog 118 = some true := by kernel_rfl
@[simp] theorem zz118 : zeroA Try.prog 118 = some (.agg []) := by kernel_rfl
@[simp] theorem sz119 : szOf Try.prog 119 = some 1 := by kernel_rfl
@[simp] theorem ag119 : aggT Try.prog 119 = some false := by kernel_rfl
@[simp] theorem zz119 : zeroA Try.prog 119 = some (.nilf) := by kernel_rfl
@[simp] theorem sz120 : szOf Try.prog 120 = some 1 := by kernel_rfl
@[simp] theorem ag120 : aggT Try.prog 120 = some false := by kernel_rfl
@[simp] theorem zz120 : zeroA Try.prog 120 = some (.int .u8 0) := by kernel_rfl
@[simp] theorem sz121 : szOf Try.prog 121 = some 1 := by kernel_rfl
@[simp] theorem ag121 : aggT Try.prog 121 = some false := by kernel_rfl
@[simp] theorem zz121 : zeroA Try.prog 121 = some (.int .u8 0) := by kernel_rfl
@[simp] theorem sz122 : szOf Try.prog 122 = some 1 := by kernel_rfl
@[simp] theorem ag122 : aggT Try.prog 122 = some false := by kernel_rfl
@[simp] theorem zz122 : zeroA Try.prog 122 = some (.nilf) := by kernel_rfl
@[simp] theorem sz123 : szOf Try.prog 123 = some 1 := by kernel_rfl
@[simp] theorem ag123 : aggT Try.prog 123 = some false := by kernel_rfl
@[simp] theorem zz123 : zeroA Try.prog 123 = some (.nilp) := by kernel_rfl
@[simp] theorem sz124 : szOf Try.prog 124 = some 1 := by kernel_rfl
@[simp] theorem ag124 : aggT Try.prog 124 = some false := by kernel_rfl
@[simp] theorem zz124 : zeroA Try.prog 124 = some (.int .i32 0) := by kernel_rfl
@[simp] theorem sz125 : szOf Try.prog 125 = some 1 := by kernel_rfl
@[simp] theorem ag125 : aggT Try.prog 125 = some false := by kernel_rfl
@[simp] theorem zz125 : zeroA Try.prog 125 = some (.int .i32 0) := by kernel_rfl
@[simp] theorem sz126 : szOf Try.prog 126 = some 11 := by kernel_rfl
@[simp] theorem ag126 : aggT Try.prog 126 = some true := by kernel_rfl
@[simp] theorem zz126 : zeroA Try.prog 126 = some (.agg [.int .u64 0, .int .u64 0, .int .u32 0, .int .u8 0, .int .u8 0, .int .u8 0, .int .u8 0, .nilf, .nilp, .int .i32 0, .int .i32 0]) := by kernel_rfl
@[simp] theorem sz127 : szOf Try.prog 127 = some 11 := by kernel_rfl
@[simp] theorem ag127 : aggT Try.prog 127 = some true := by kernel_rfl
@[simp] theorem zz127 : zeroA Try.prog 127 = some (.agg [.int .u64 0, .int .u64 0, .int .u32 0, .int .u8 0, .int .u8 0, .int .u8 0, .int .u8 0, .nilf, .nilp, .int .i32 0, .int .i32 0]) := by kernel_rfl
@[simp] theorem sz128 : szOf Try.prog 128 = some 1 := by kernel_rfl
@[simp] theorem ag128 : aggT Try.prog 128 = some false := by kernel_rfl
@[simp] theorem zz128 : zeroA Try.prog 128 = some (.nilp) := by kernel_rfl
@[simp] theorem ap24 : apT Try.prog 24 = some (27, 3, 24) := by kernel_rfl
@[simp] theorem ap29 : apT Try.prog 29 = some (28, 2, 16) := by kernel_rfl
@[simp] theorem ap33 : apT Try.prog 33 = some (3, 1, 8) := by kernel_rfl
@[simp] theorem ap34 : apT Try.prog 34 = some (22, 1, 8) := by kernel_rfl
@[simp] theorem ap37 : apT Try.prog 37 = some (24, 1, 24) := by kernel_rfl
@[simp] theorem ap38 : apT Try.prog 38 = some (34, 1, 24) := by kernel_rfl
end Go.Abs.Gr
