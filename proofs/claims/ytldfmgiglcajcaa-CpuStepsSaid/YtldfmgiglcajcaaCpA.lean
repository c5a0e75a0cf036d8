/- What the small functions of the layer 'cpu' and of its reference compute. Conditions: none. -/
import Derived.Test.YtldfmgiglcajcaaAbsU
import Derived.Test.YtldfmgiglcajcaaProg
import Derived.KernelRfl
namespace Go.Abs.Cp
open Go Go.Proofs Go.Abs
set_option maxRecDepth 100000
theorem tm : Try.prog.follows .mixedOrders = true := by kernel_rfl
theorem tN : Try.prog.funcs.all (fun fn => !(fn.name == "runtime.NumGoroutine")) = true := by kernel_rfl
theorem tz24 : zeroA Try.prog 24 = some (.agg (.int .i64 0 :: [0, 0, 0, 0, 0, 0, 0, 0].map (.int .i64))) := by kernel_rfl
theorem tz42 : zeroA Try.prog 42 = some (.agg ([0, 0, 0, 0, 0, 0, 0, 0].map (.int .i64))) := by kernel_rfl
theorem tz31 : zeroA Try.prog 31 = some (.agg ([0, 0, 0, 0].map (.int .i64))) := by kernel_rfl
theorem ts24 : szOf Try.prog 24 = some 9 := by kernel_rfl
theorem ta24 : aggT Try.prog 24 = some true := by kernel_rfl
theorem ts42 : szOf Try.prog 42 = some 8 := by kernel_rfl
theorem ta42 : aggT Try.prog 42 = some true := by kernel_rfl
theorem ts31 : szOf Try.prog 31 = some 4 := by kernel_rfl
theorem ta31 : aggT Try.prog 31 = some true := by kernel_rfl
theorem ts28 : szOf Try.prog 28 = some 3 := by kernel_rfl
theorem ta28 : aggT Try.prog 28 = some true := by kernel_rfl
theorem ts22 : szOf Try.prog 22 = some 8 := by kernel_rfl
theorem ta22 : aggT Try.prog 22 = some true := by kernel_rfl
theorem ts40 : szOf Try.prog 40 = some 3 := by kernel_rfl
theorem ta40 : aggT Try.prog 40 = some true := by kernel_rfl
theorem ts25 : szOf Try.prog 25 = some 1 := by kernel_rfl
theorem ta25 : aggT Try.prog 25 = some false := by kernel_rfl
theorem ts3 : szOf Try.prog 3 = some 1 := by kernel_rfl
theorem ta3 : aggT Try.prog 3 = some false := by kernel_rfl
theorem ts2 : szOf Try.prog 2 = some 1 := by kernel_rfl
theorem ta2 : aggT Try.prog 2 = some false := by kernel_rfl
theorem mkv2 (l : List AV) (k : Nat) : mkv Try.prog 2 (l.drop k) = match l[k]? with
    | some x => .ret x
    | none => .fail := mkv_drop ta2 l k
theorem all_flat1 (l : List Int) : (l.map (AV.int .i64)).all AV.flat1 = true := by simp [AV.flat1]
theorem take_map (f : Int → AV) (r : List Int) (n : Nat) (h : r.length = n) : (r.map f).take n = r.map f := List.take_of_length_le (by simp [h])
structure Cpu where
  pc : Int
  r : List Int
  h : r.length = 8
def Cpu.cells (c : Cpu) : List AV := .int .i64 c.pc :: c.r.map (.int .i64)
theorem Cpu.inj (a b : Cpu) (h : a.cells = b.cells) : a = b := by
  cases a; cases b
  simp only [Cpu.cells, List.cons.injEq, AV.int.injEq, true_and] at h
  obtain ⟨rfl, h⟩ := h
  have := map_inj (fun _ _ h => by simpa using h) h
  subst this
  rfl
theorem Cpu.take (c : Cpu) : (c.r.map (AV.int .i64)).take 8 = c.r.map (AV.int .i64) := take_map _ _ _ c.h
theorem Cpu.len (c : Cpu) : c.r.length = 8 := c.h
def reg (n : Int) : Bool := decide (0 ≤ n) && decide (n < 8)
theorem reg_nat {n : Int} (h : reg n = true) : ∃ k : Nat, n = k ∧ k < 8 := by
  simp only [reg, Bool.and_eq_true, decide_eq_true_eq] at h
  exact ⟨n.toNat, by omega, by omega⟩
def Cpu.get (c : Cpu) (k : Nat) : Int := c.r.getD k 0
theorem Cpu.get_eq (c : Cpu) {k : Nat} (h : k < 8) : c.r[k]? = some (c.get k) := by
  have : k < c.r.length := by rw [c.h]; exact h
  simp [Cpu.get, List.getD_eq_getElem?_getD, List.getElem?_eq_getElem this]
def Cpu.set (c : Cpu) (k : Nat) (v : Int) : Cpu := ⟨c.pc, c.r.set k v, by rw [List.length_set]; exact c.h⟩
def stored (c : Cpu) : Cpu := ⟨IntKind.i64.wrap (c.pc + 1), c.r, c.h⟩
def loaded (c : Cpu) (n v : Int) : Cpu := stored (if reg n then c.set n.toNat v else c)
def returned2 (c : Cpu) (a b : Int) : Cpu := loaded (c.set 1 b) 0 a
def encC (c : Cpu) : List AV := [.agg c.cells]
theorem encC_inj {β : Type} {f : Cpu → β} : ∀ x y, encC x = encC y → f x = f y := fun x y h => by
  simp only [encC, List.cons.injEq, AV.agg.injEq, and_true] at h
  rw [Cpu.inj _ _ h]
def encCI (x : Cpu × Int) : List AV := [.agg x.1.cells, .int .i64 x.2]
theorem encCI_inj {β : Type} {f : Cpu × Int → β} : ∀ x y, encCI x = encCI y → f x = f y := fun x y h => by
  simp only [encCI, List.cons.injEq, AV.agg.injEq, AV.int.injEq, true_and, and_true] at h
  rw [Prod.ext (Cpu.inj _ _ h.1) h.2]
def encCII (x : Cpu × Int × Int) : List AV := [.agg x.1.cells, .int .i64 x.2.1, .int .i64 x.2.2]
theorem encCII_inj {β : Type} {f : Cpu × Int × Int → β} : ∀ x y, encCII x = encCII y → f x = f y := fun x y h => by
  simp only [encCII, List.cons.injEq, AV.agg.injEq, AV.int.injEq, true_and, and_true] at h
  rw [Prod.ext (Cpu.inj _ _ h.1) (Prod.ext h.2.1 h.2.2)]
attribute [local simp] runL stepA execA_eq skipA run_ret run_fail run_get run_put run_asm num lk st lk_st putA AS.ev ofValue ofFlat mkv splice fieldAddrA buildA fillA runF gdst pickA unOpA extractA resVs resV pack frzT inlT inlV frzV frzVs frzL frz1 newId AV.cellsOf AV.flat AV.flat2 specOf loadA_runR renL fF handB renB AV.ren backF backL idsOf freshIds refsL refsB AV.refs List.range List.range.loop placesA sliceRows rowsOf convertA sliceArrA sliceA bndA nilCheckA arrayAtA mmA lookupA keyOf keyOK findA keyEqA foundA makeMapA mapUpdateA appendA rowsA indexA partA fieldA retE2 frqT frqV frqVs frqL frq1 reachE blkRefs outE nodupE firstE seqO expB2 expF tz24 ts24 ta24 ts22 ta22 ts3 ta3 ts2 ta2 mkv2 get_1_add take_1_add Cpu.cells Cpu.len Cpu.take frzL_ints brwL_ints inlT inlV
set_option maxHeartbeats 4000000
set_option linter.unusedSimpArgs false
set_option linter.unusedVariables false
noncomputable def storedS : SpecFn := mkS encC fun c => (.agg (stored c).cells, [])
theorem storedS_eq (c : Cpu) : storedS [.agg c.cells] [] = some (.agg (stored c).cells, []) := mkS_eq encC_inj c
theorem stored_ok : FnC Try.prog 18 storedS := by
  refine FnC.walk 18 (fn := Try.f18) Try.func18 rfl (by kernel_rfl) fun c => ?_
  change W _ _ _ _ ⟨8, [(0, .agg c.cells)], []⟩
  repeat (first | refine N.seq ?_ | refine N.blk ?_ | refine W.seq rfl ?_ | refine W.block rfl ?_ | refine W.skip rfl ?_ | refine W.ret rfl ?_ | refine N.nil ?_ | refine N.loop ?_ | refine W.exit rfl ?_ | refine X.seq ?_ | refine X.loop ?_ | refine X.hit ?_ | refine X.pass (by decide) ?_ | refine W.region tm no_specs rfl (by conv => lhs; simp) fun _ => ?_ | refine W.regionD tm no_specs rfl (by conv => lhs; simp) (by conv => lhs; simp) (by kernel_rfl) fun _ => ?_)
  simp only [Cpu.cells, stored]
  first | exact Ret.dataR rfl (by conv => lhs; simp) (by conv => lhs; simp) (by first | rfl | simp [inlT, inlV]) | fail "no return here"
theorem rstored_ok : FnC Try.prog 19 storedS := by
  refine FnC.walk 19 (fn := Try.f19) Try.func19 rfl (by kernel_rfl) fun c => ?_
  change W _ _ _ _ ⟨8, [(0, .agg c.cells)], []⟩
  repeat (first | refine N.seq ?_ | refine N.blk ?_ | refine W.seq rfl ?_ | refine W.block rfl ?_ | refine W.skip rfl ?_ | refine W.ret rfl ?_ | refine N.nil ?_ | refine N.loop ?_ | refine W.exit rfl ?_ | refine X.seq ?_ | refine X.loop ?_ | refine X.hit ?_ | refine X.pass (by decide) ?_ | refine W.region tm no_specs rfl (by conv => lhs; simp) fun _ => ?_ | refine W.regionD tm no_specs rfl (by conv => lhs; simp) (by conv => lhs; simp) (by kernel_rfl) fun _ => ?_)
  simp only [Cpu.cells, stored]
  first | exact Ret.dataR rfl (by conv => lhs; simp) (by conv => lhs; simp) (by first | rfl | simp [inlT, inlV]) | fail "no return here"
theorem reg_cases (n : Int) : (∃ k : Nat, n = k ∧ k < 8 ∧ reg n = true) ∨ (¬ 0 ≤ n ∧ reg n = false) ∨ (0 ≤ n ∧ ¬ n < 8 ∧ reg n = false) := by
  by_cases h1 : 0 ≤ n
  · by_cases h2 : n < 8
    · exact .inl ⟨n.toNat, by omega, by omega, by simp [reg, h1, h2]⟩
    · exact .inr (.inr ⟨h1, h2, by simp [reg, h2]⟩)
  · exact .inr (.inl ⟨h1, by simp [reg, h1]⟩)
/-! ### Loaded and its kin -/
noncomputable def loadedS : SpecFn := mkS encCII fun x => (.agg (loaded x.1 x.2.1 x.2.2).cells, [])
theorem loadedS_eq (c : Cpu) (n v : Int) : loadedS [.agg c.cells, .int .i64 n, .int .i64 v] [] = some (.agg (loaded c n v).cells, []) := mkS_eq encCII_inj (c, n, v)
noncomputable def regS : SpecFn := mkS (fun n : Int => [.int .i64 n]) fun n => (.bool (reg n), [])
theorem regS_eq (n : Int) : regS [.int .i64 n] [] = some (.bool (reg n), []) := mkS_eq (enc := fun n : Int => [.int .i64 n]) (fun x y h => by simp at h; rw [h]) n
theorem reg_ok : FnC Try.prog 32 regS := by
  refine FnC.walk 32 (fn := Try.f32) Try.func32 rfl (by kernel_rfl) fun n => ?_
  change W _ _ _ _ ⟨9, [(0, .int .i64 n)], []⟩
  rcases reg_cases n with ⟨k, rfl, hk, hr⟩ | ⟨h1, hr⟩ | ⟨h1, h2, hr⟩
  · have : (k : Int) < 8 := by omega
    repeat (first | refine N.seq ?_ | refine N.blk ?_ | refine W.seq rfl ?_ | refine W.block rfl ?_ | refine W.skip rfl ?_ | refine W.ret rfl ?_ | refine N.nil ?_ | refine N.loop ?_ | refine W.exit rfl ?_ | refine X.seq ?_ | refine X.loop ?_ | refine X.hit ?_ | refine X.pass (by decide) ?_ | refine W.region tm no_specs rfl (by conv => lhs; simp [this]) fun _ => ?_ | refine W.regionD tm no_specs rfl (by conv => lhs; simp [this]) (by conv => lhs; simp) (by kernel_rfl) fun _ => ?_)
    rw [hr]
    first | exact Ret.dataR rfl (by conv => lhs; simp) (by conv => lhs; simp) (by first | rfl | simp [inlT, inlV]) | fail "no return here"
  · repeat (first | refine N.seq ?_ | refine N.blk ?_ | refine W.seq rfl ?_ | refine W.block rfl ?_ | refine W.skip rfl ?_ | refine W.ret rfl ?_ | refine N.nil ?_ | refine N.loop ?_ | refine W.exit rfl ?_ | refine X.seq ?_ | refine X.loop ?_ | refine X.hit ?_ | refine X.pass (by decide) ?_ | refine W.region tm no_specs rfl (by conv => lhs; simp [h1]) fun _ => ?_ | refine W.regionD tm no_specs rfl (by conv => lhs; simp [h1]) (by conv => lhs; simp) (by kernel_rfl) fun _ => ?_)
    rw [hr]
    first | exact Ret.dataR rfl (by conv => lhs; simp) (by conv => lhs; simp) (by first | rfl | simp [inlT, inlV]) | fail "no return here"
  · repeat (first | refine N.seq ?_ | refine N.blk ?_ | refine W.seq rfl ?_ | refine W.block rfl ?_ | refine W.skip rfl ?_ | refine W.ret rfl ?_ | refine N.nil ?_ | refine N.loop ?_ | refine W.exit rfl ?_ | refine X.seq ?_ | refine X.loop ?_ | refine X.hit ?_ | refine X.pass (by decide) ?_ | refine W.region tm no_specs rfl (by conv => lhs; simp [h1, h2]) fun _ => ?_ | refine W.regionD tm no_specs rfl (by conv => lhs; simp [h1, h2]) (by conv => lhs; simp) (by kernel_rfl) fun _ => ?_)
    rw [hr]
    first | exact Ret.dataR rfl (by conv => lhs; simp) (by conv => lhs; simp) (by first | rfl | simp [inlT, inlV]) | fail "no return here"
noncomputable def st_specs : NL Spec := [(18, ⟨0, storedS⟩), (19, ⟨0, storedS⟩), (32, ⟨0, regS⟩)]
theorem st_specs_ok : ∀ p ∈ st_specs, FnC Try.prog p.1 p.2.fn := by
  simp only [st_specs, List.mem_cons, List.not_mem_nil, or_false]
  rintro p (rfl | rfl | rfl)
  · exact stored_ok
  · exact rstored_ok
  · exact reg_ok
theorem Cpu.cells_eq (c : Cpu) : AV.int .i64 c.pc :: c.r.map (AV.int .i64) = c.cells := rfl
theorem Cpu.set_map (c : Cpu) {k : Nat} (v : Int) (h : k < 8) : (c.r.map (AV.int .i64)).take k ++ AV.int .i64 v :: (c.r.map (AV.int .i64)).drop (1 + k) = (c.set k v).r.map (AV.int .i64) := Go.Abs.set_map _ _ _ _ (by rw [c.h]; exact h)
theorem storedS_eq' (c : Cpu) : storedS [.agg (.int .i64 c.pc :: c.r.map (.int .i64))] [] = some (.agg (.int .i64 (stored c).pc :: (stored c).r.map (.int .i64)), []) := storedS_eq c
theorem storedS_set (c : Cpu) (k : Nat) (v : Int) : storedS [.agg (.int .i64 c.pc :: (c.set k v).r.map (.int .i64))] [] = some (.agg (.int .i64 (stored (c.set k v)).pc :: (stored (c.set k v)).r.map (.int .i64)), []) := storedS_eq (c.set k v)
attribute [local simp] st_specs storedS_eq' storedS_set regS_eq
theorem loaded_ok : FnC Try.prog 16 loadedS := by
  refine FnC.walk 16 (fn := Try.f16) Try.func16 rfl (by kernel_rfl) fun x => ?_
  obtain ⟨c, n, v⟩ := x
  change W _ _ _ _ ⟨19, [(0, .agg c.cells), (1, .int .i64 n), (2, .int .i64 v)], []⟩
  rcases reg_cases n with ⟨k, rfl, hk, hr⟩ | ⟨h1, hr⟩ | ⟨h1, h2, hr⟩
  · have : (k : Int) < 8 := by omega
    have hs := c.set_map v hk
    have hl : 1 + k + 1 ≤ 8 + 1 := by omega
    repeat (first | refine N.seq ?_ | refine N.blk ?_ | refine W.seq rfl ?_ | refine W.block rfl ?_ | refine W.skip rfl ?_ | refine W.ret rfl ?_ | refine N.nil ?_ | refine N.loop ?_ | refine W.exit rfl ?_ | refine X.seq ?_ | refine X.loop ?_ | refine X.hit ?_ | refine X.pass (by decide) ?_ | refine W.region tm st_specs_ok rfl (by conv => lhs; simp [this]) fun _ => ?_ | refine W.regionD tm st_specs_ok rfl (by conv => lhs; simp [this]) (by conv => lhs; simp) (by kernel_rfl) fun _ => ?_)
    refine W.cond rfl (by rfl) (fun hb => ?_) (fun hb => ?_)
    · repeat (first | refine N.seq ?_ | refine N.blk ?_ | refine W.seq rfl ?_ | refine W.block rfl ?_ | refine W.skip rfl ?_ | refine W.ret rfl ?_ | refine N.nil ?_ | refine N.loop ?_ | refine W.exit rfl ?_ | refine X.seq ?_ | refine X.loop ?_ | refine X.hit ?_ | refine X.pass (by decide) ?_ | refine W.region tm st_specs_ok rfl (by conv => lhs; simp [this, hs, hl]) fun _ => ?_ | refine W.regionD tm st_specs_ok rfl (by conv => lhs; simp [this, hs, hl]) (by conv => lhs; simp) (by kernel_rfl) fun _ => ?_)
      simp only [loaded, hr, if_true, Int.toNat_natCast, Cpu.cells]
      first | exact Ret.dataR rfl (by conv => lhs; simp) (by conv => lhs; simp) (by first | rfl | simp [inlT, inlV]) | fail "no return here"
    · simp at hb
  · repeat (first | refine N.seq ?_ | refine N.blk ?_ | refine W.seq rfl ?_ | refine W.block rfl ?_ | refine W.skip rfl ?_ | refine W.ret rfl ?_ | refine N.nil ?_ | refine N.loop ?_ | refine W.exit rfl ?_ | refine X.seq ?_ | refine X.loop ?_ | refine X.hit ?_ | refine X.pass (by decide) ?_ | refine W.region tm st_specs_ok rfl (by conv => lhs; simp [h1]) fun _ => ?_ | refine W.regionD tm st_specs_ok rfl (by conv => lhs; simp [h1]) (by conv => lhs; simp) (by kernel_rfl) fun _ => ?_)
    refine W.cond rfl (by rfl) (fun hb => ?_) (fun hb => ?_)
    · simp at hb
    · repeat (first | refine N.seq ?_ | refine N.blk ?_ | refine W.seq rfl ?_ | refine W.block rfl ?_ | refine W.skip rfl ?_ | refine W.ret rfl ?_ | refine N.nil ?_ | refine N.loop ?_ | refine W.exit rfl ?_ | refine X.seq ?_ | refine X.loop ?_ | refine X.hit ?_ | refine X.pass (by decide) ?_ | refine W.region tm st_specs_ok rfl (by conv => lhs; simp [h1]) fun _ => ?_ | refine W.regionD tm st_specs_ok rfl (by conv => lhs; simp [h1]) (by conv => lhs; simp) (by kernel_rfl) fun _ => ?_)
      simp only [loaded, hr, Bool.false_eq_true, if_false, Cpu.cells]
      first | exact Ret.dataR rfl (by conv => lhs; simp) (by conv => lhs; simp) (by first | rfl | simp [inlT, inlV]) | fail "no return here"
  · repeat (first | refine N.seq ?_ | refine N.blk ?_ | refine W.seq rfl ?_ | refine W.block rfl ?_ | refine W.skip rfl ?_ | refine W.ret rfl ?_ | refine N.nil ?_ | refine N.loop ?_ | refine W.exit rfl ?_ | refine X.seq ?_ | refine X.loop ?_ | refine X.hit ?_ | refine X.pass (by decide) ?_ | refine W.region tm st_specs_ok rfl (by conv => lhs; simp [h1, h2]) fun _ => ?_ | refine W.regionD tm st_specs_ok rfl (by conv => lhs; simp [h1, h2]) (by conv => lhs; simp) (by kernel_rfl) fun _ => ?_)
    refine W.cond rfl (by rfl) (fun hb => ?_) (fun hb => ?_)
    · simp at hb
    · repeat (first | refine N.seq ?_ | refine N.blk ?_ | refine W.seq rfl ?_ | refine W.block rfl ?_ | refine W.skip rfl ?_ | refine W.ret rfl ?_ | refine N.nil ?_ | refine N.loop ?_ | refine W.exit rfl ?_ | refine X.seq ?_ | refine X.loop ?_ | refine X.hit ?_ | refine X.pass (by decide) ?_ | refine W.region tm st_specs_ok rfl (by conv => lhs; simp [h1]) fun _ => ?_ | refine W.regionD tm st_specs_ok rfl (by conv => lhs; simp [h1]) (by conv => lhs; simp) (by kernel_rfl) fun _ => ?_)
      simp only [loaded, hr, Bool.false_eq_true, if_false, Cpu.cells]
      first | exact Ret.dataR rfl (by conv => lhs; simp) (by conv => lhs; simp) (by first | rfl | simp [inlT, inlV]) | fail "no return here"
end Go.Abs.Cp
