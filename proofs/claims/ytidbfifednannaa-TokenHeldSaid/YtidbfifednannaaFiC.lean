/- What the calls of TokenHeld come to. Conditions: none. -/
import Derived.Test.YtidbfifednannaaFiB
namespace Go.Abs.Fi
open Go Go.Proofs Go.Abs
set_option maxRecDepth 100000
def obj (v : Int) : List AV := [.int .u64 144115188075855881, .int .i64 9, .int .i64 0, .int .i64 0, .int .u64 0, .nils, .nils, .nils, .int .i64 0, .int .i64 0, .int .i64 0, .int .i64 0, .int .i64 0, .int .i64 0, .int .i64 0, .int .i64 0, .int .i64 0, .int .i64 0, .nils, .nils, .int .i64 0, .int .i64 0, .int .i64 0, .nils, .nils, .int .i64 0, .int .u64 0, .int .i64 0, .int .i64 0, .nils, .nils, .nils, .int .i64 0, .int .i64 0, .int .i64 v, .nils]
def tokrow (v : Int) (p d : Bool) : List AV := [.int .u64 144115188075855881, .int .i64 2, .int .u64 144115188075855881, .int .i64 9, .int .i64 0, .int .i64 0, .int .u64 0, .nils, .nils, .nils, .int .i64 0, .int .i64 0, .int .i64 0, .int .i64 0, .int .i64 0, .int .i64 0, .int .i64 0, .int .i64 0, .int .i64 0, .int .i64 0, .nils, .nils, .int .i64 0, .int .i64 0, .int .i64 0, .nils, .nils, .int .i64 0, .int .u64 0, .int .i64 0, .int .i64 0, .nils, .nils, .nils, .int .i64 0, .int .i64 0, .int .i64 v, .nils, .int .i64 0, .bool p, .bool d]
def toks (v : Int) (p d : Bool) : AV := .agg [.int .i64 2, .list 41 [tokrow v p d]]
def noToks : AV := .agg [.int .i64 2, .list 41 []]
def msg : AV := .agg [.int .i64 1, .int .i64 2, .int .i64 3, .int .u64 144115188075855881, .int .i64 0, .int .u64 0, .int .i64 0, .int .i64 0, .int .i64 0, .int .u64 0, .nils, .nils, .nils, .int .i64 0, .int .i64 0, .int .i64 0, .int .i64 0, .int .i64 0, .int .i64 0, .int .i64 0, .int .i64 0, .int .i64 0, .int .i64 0, .nils, .nils, .int .i64 0, .int .i64 0, .int .i64 0, .nils, .nils, .int .i64 0, .int .u64 0, .int .i64 0, .int .i64 0, .nils, .nils, .nils, .int .i64 0, .int .i64 0, .int .i64 0, .nils, .int .u64 0, .int .i64 0, .int .u64 0, .int .i64 0]
def back (v : Int) : List AV := [.int .i64 2, .int .i64 1, .int .i64 4, .int .u64 144115188075855881, .int .i64 2, .int .u64 144115188075855881, .int .i64 9, .int .i64 0, .int .i64 0, .int .u64 0, .nils, .nils, .nils, .int .i64 0, .int .i64 0, .int .i64 0, .int .i64 0, .int .i64 0, .int .i64 0, .int .i64 0, .int .i64 0, .int .i64 0, .int .i64 0, .nils, .nils, .int .i64 0, .int .i64 0, .int .i64 0, .nils, .nils, .int .i64 0, .int .u64 0, .int .i64 0, .int .i64 0, .nils, .nils, .nils, .int .i64 0, .int .i64 0, .int .i64 v, .nils, .int .u64 0, .int .i64 0, .int .u64 0, .int .i64 0]
theorem t13 : pf 13 [] [] = some (.bool true, []) := by kernel_rfl
theorem t14 : pf 14 [.agg [.int .i64 2, .nils], .agg (obj 0)] [] = some (.tup [toks 0 false false, .int .i64 0], []) := by kernel_rfl
theorem t15 : pf 15 [toks 0 false false, .int .u64 144115188075855881, .int .i64 2] [] = some (.tup [toks 0 true false, .int .i64 0], []) := by kernel_rfl
theorem t16f (v : Int) : pf 16 [toks v true false, msg] [] = some (.tup [toks v true true, .nils, .int .i64 0], []) := by kernel_rfl
theorem t16t (v : Int) : pf 16 [toks v true true, msg] [] = some (.tup [toks v true true, .nils, .int .i64 0], []) := by kernel_rfl
theorem t17 (v : Int) : pf 17 [toks v true true, .int .u64 144115188075855881, .int .i64 2] [] = some (.bool true, []) := by kernel_rfl
theorem t18 (v w : Int) : pf 18 [toks v true true, .int .u64 144115188075855881, .agg (obj w)] [] = some (.tup [toks w true true, .int .i64 0], []) := by kernel_rfl
theorem t19 (v : Int) : pf 19 [toks v true true, .list 1 [[.int .i64 1]]] [] = some (.tup [noToks, .list 45 [back v], .int .i64 0], []) := by kernel_rfl
theorem t19n : pf 19 [toks 0 true false, .nils] [] = some (.tup [toks 0 false false, .nils, .int .i64 0], []) := by kernel_rfl
theorem t17z : pf 17 [noToks, .int .u64 144115188075855881, .int .i64 1] [] = some (.bool false, []) := by kernel_rfl
theorem t17n : pf 17 [toks 0 false false, .int .u64 144115188075855881, .int .i64 1] [] = some (.bool true, []) := by kernel_rfl
theorem t16z : pf 16 [noToks, msg] [] = some (.tup [noToks, .nils, .int .i64 0], []) := by kernel_rfl
theorem t16n : pf 16 [toks 0 false false, msg] [] = some (.tup [noToks, .list 45 [back 0], .int .i64 0], []) := by kernel_rfl
end Go.Abs.Fi
