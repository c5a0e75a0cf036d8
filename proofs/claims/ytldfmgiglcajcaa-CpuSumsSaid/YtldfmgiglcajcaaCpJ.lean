/- The statement on a program that adds the numbers from 1 to n, in the abstract frame. Conditions: none. -/
import Derived.Test.YtldfmgiglcajcaaCpI
namespace Go.Abs.Cp
open Go Go.Proofs Go.Abs
set_option maxRecDepth 100000
set_option maxHeartbeats 4000000
set_option linter.unusedSimpArgs false
set_option linter.unusedVariables false
def tot (n : Nat) : Nat → Nat
  | 0 => 0
  | j + 1 => tot n j + (n - j)
theorem tot_le (n : Nat) (hn : n ≤ 255) : ∀ j, j ≤ n → tot n j ≤ 255 * j
  | 0, _ => by simp [tot]
  | j + 1, h => by
    have := tot_le n hn j (by omega)
    simp only [tot]
    omega
theorem tot_eq (n : Nat) : ∀ j, j ≤ n → 2 * tot n j + (n - j) * (n - j + 1) = n * (n + 1)
  | 0, _ => by simp [tot]
  | j + 1, h => by
    have ih := tot_eq n j (by omega)
    obtain ⟨m, hm⟩ : ∃ m, n - j = m + 1 := ⟨n - j - 1, by omega⟩
    have hm2 : n - (j + 1) = m := by omega
    rw [hm] at ih
    simp only [tot]
    rw [hm, hm2, ← ih]
    have e1 : (m + 1) * (m + 1 + 1) = m * (m + 1) + 2 * (m + 1) := by
      rw [Nat.mul_comm (m + 1) (m + 1 + 1), Nat.add_mul, Nat.add_mul]
      generalize m * (m + 1) = q
      omega
    rw [e1]
    generalize m * (m + 1) = q
    omega
def mkC (pc a b c : Nat) : Cpu := ⟨pc, [a, b, c, 0, 0, 0, 0, 0], rfl⟩
def st4 (n j : Nat) : Nat → Cpu
  | 0 => mkC 2 (tot n j) (n - j) 1
  | 1 => if j < n then mkC 4 (tot n j) (n - j) 1 else mkC 3 (tot n j) 0 1
  | 2 => if j < n then mkC 5 (tot n (j + 1)) (n - j) 1 else mkC 7 (tot n j) 0 1
  | _ => mkC 6 (tot n (j + 1)) (n - (j + 1)) 1
def sta (n : Nat) : Nat → Cpu
  | 0 => mkC 0 0 0 0
  | 1 => mkC 1 0 n 0
  | k + 2 => st4 n (k / 4) (k % 4)
def prog (n : Int) : List Ins := [⟨1, 1, n, 0⟩, ⟨1, 2, 1, 0⟩, ⟨9, 1, 4, 0⟩, ⟨8, 7, 0, 0⟩, ⟨3, 0, 0, 1⟩, ⟨4, 1, 1, 2⟩, ⟨8, 2, 0, 0⟩]
def z8 : List Int := [0, 0, 0, 0, 0, 0, 0, 0]
theorem step_st4 (n j p : Nat) (hn : n ≤ 255) (hj : j ≤ n) (hp : p < 4) (hl : j = n → p < 2) : next (st4 n j p) (prog n) = (if p = 3 then st4 n (j + 1) 0 else st4 n j (p + 1), z8) := by
  have ht := tot_le n hn j hj
  match p, hp with
  | 0, _ =>
    by_cases h : j < n
    · have : ¬ n - j = 0 := by omega
      simp [st4, next, prog, mkC, able, exec, reg, Cpu.get, Cpu.goto, stored, h, z8, this]
    · have : j = n := by omega
      subst this
      simp [st4, next, prog, mkC, able, exec, reg, Cpu.get, Cpu.goto, stored, z8]
      decide
  | 1, _ =>
    by_cases h : j < n
    · have h2 : IntKind.i64.wrap ((tot n j : Int) + ((n - j : Nat) : Int)) = ((tot n (j + 1) : Nat) : Int) := by
        rw [w64 (by omega) (by omega)]; simp only [tot]; omega
      simp [st4, next, prog, mkC, able, exec, reg, Cpu.get, Cpu.goto, stored, h, z8, fAdd, Cpu.set, h2]
      decide
    · have : j = n := by omega
      subst this
      simp [st4, next, prog, mkC, able, exec, reg, Cpu.get, Cpu.goto, stored, z8]
  | 2, _ =>
    have h : j < n := by
      have : j ≠ n := fun e => by have := hl e; omega
      omega
    have h2 : IntKind.i64.wrap (((n - j : Nat) : Int) - 1) = ((n - (j + 1) : Nat) : Int) := by
      rw [w64 (by omega) (by omega)]; omega
    simp [st4, next, prog, mkC, able, exec, reg, Cpu.get, Cpu.goto, stored, h, z8, fSub, Cpu.set, h2]
    decide
  | 3, _ =>
    simp [st4, next, prog, mkC, able, exec, reg, Cpu.get, Cpu.goto, stored, z8]
theorem step_sta (n k : Nat) (hn : n ≤ 255) (hk : k < 2 + 4 * n + 2) : next (sta n k) (prog n) = (sta n (k + 1), z8) := by
  match k with
  | 0 =>
    simp [sta, next, prog, mkC, able, exec, reg, Cpu.get, Cpu.goto, stored, z8, Cpu.set]
    decide
  | 1 =>
    simp [sta, st4, tot, next, prog, mkC, able, exec, reg, Cpu.get, Cpu.goto, stored, z8, Cpu.set]
    decide
  | k + 2 =>
    have hj : k / 4 ≤ n := by omega
    have hp : k % 4 < 4 := Nat.mod_lt _ (by omega)
    simp only [sta]
    rw [step_st4 n (k / 4) (k % 4) hn hj hp (fun e => by omega)]
    split
    · rename_i h
      rw [show (k + 1) / 4 = k / 4 + 1 by omega, show (k + 1) % 4 = 0 by omega]
    · rename_i h
      rw [show (k + 1) / 4 = k / 4 by omega, show (k + 1) % 4 = k % 4 + 1 by omega]
theorem sta_last (n : Nat) : sta n (2 + 4 * n + 2) = mkC 7 (tot n n) 0 1 := by
  rw [show 2 + 4 * n + 2 = (4 * n + 2) + 2 by omega]
  simp only [sta]
  rw [show (4 * n + 2) / 4 = n by omega, show (4 * n + 2) % 4 = 2 by omega]
  simp [st4]
/-! ### The walk -/
def rowsP (n : Int) : List (List AV) := (prog n).map Ins.cells
theorem nextS_sta (n k : Nat) (hn : n ≤ 255) (hk : k < 2 + 4 * n + 2) : nextS [.agg (.int .i64 (sta n k).pc :: (sta n k).r.map (.int .i64)), .agg [.list 4 (rowsP n), .nils, .int .i64 0]] [] =
    some (.tup [.agg (.int .i64 (sta n (k + 1)).pc :: (sta n (k + 1)).r.map (.int .i64)), .agg (z8.map (.int .i64))], []) := by
  have h := nextS_eq (sta n k) ⟨prog n, .nils, rfl, rfl, 0⟩
  rw [step_sta n k hn hk] at h
  exact h
theorem nextS_end (n : Nat) : nextS [.agg (.int .i64 (sta n (2 + 4 * n + 2)).pc :: (sta n (2 + 4 * n + 2)).r.map (.int .i64)), .agg [.list 4 (rowsP n), .nils, .int .i64 0]] [] =
    some (.tup [.agg (.int .i64 (sta n (2 + 4 * n + 2)).pc :: (sta n (2 + 4 * n + 2)).r.map (.int .i64)), .agg ([4, 0, 0, 0, 0, 0, 0, 0].map (.int .i64))], []) := by
  have h := nextS_eq (sta n (2 + 4 * n + 2)) ⟨prog n, .nils, rfl, rfl, 0⟩
  have e : next (sta n (2 + 4 * n + 2)) (prog n) = fault (sta n (2 + 4 * n + 2)) := by
    rw [sta_last]
    simp [next, prog, mkC]
  rw [e] at h
  exact h
noncomputable def su_specs : NL Spec := [(8, ⟨0, runFn Try.prog 1000 10 8⟩), (13, ⟨0, nextS⟩)]
theorem su_specs_ok : ∀ p ∈ su_specs, FnC Try.prog p.1 p.2.fn := by
  simp only [su_specs, List.mem_cons, List.not_mem_nil, or_false]
  rintro p (rfl | rfl)
  · exact sane_ok
  · exact next_ok
def cpuB (c : Cpu) : ABlk := { gen := 1, kind := 2, elem := 24, size := 9, rows := [.int .i64 c.pc :: c.r.map (.int .i64)] }
def prgB : ABlk := { gen := 1, kind := 2, elem := 28, size := 3, rows := [[.sl 352 1 0 7, .nils, .int .i64 0]] }
def codB (n : Int) : ABlk := { gen := 1, kind := 2, elem := 31, size := 4, inl := true, rows := rowsP n }
theorem rows_len (n : Int) : (rowsP n).length = 7 := rfl
theorem rows_take (n : Int) : (rowsP n).take 7 = rowsP n := rfl
attribute [local simp] runL stepA execA skipA opC opA allocA boxA newRowA newId AV.cellsOf run_ret run_fail run_get run_put run_asm num lk st lk_st putA AS.ev ofValue ofFlat builtinA lenA binA binOpA loadA mkv storeA putCells frzL frz1 splice indexAddrA fieldAddrA buildA fillA runF gdst pickA unOpA extractA resVs resV pack frzT inlT inlV frzV frzVs callX callA brwVs brwV brw1 brwL AV.flat AV.flat2 specOf tz24 ts24 ta24 ts22 ta22 ts3 ta3 ts2 ta2 mkv2 Cpu.len Cpu.take frzL_ints brwL_ints inlT inlV tz31 ts31 ta31 tz42 ts42 ta42 ts28 ta28 ts25 ta25 ts26 tz28 tu25 su_specs placesA buildSliceA sliceRows rowsOf frzP sane_run convertA
def encS (n : { n : Int // 0 ≤ n ∧ n ≤ 255 }) : List AV := [.int .u8 n.1]
noncomputable def lawSS : SpecFn := mkS encS fun _ => (.bool true, [])
theorem lawS_ok : FnC Try.prog 5 lawSS := by
  refine FnC.walk 5 (fn := Try.f5) Try.func5 rfl (by kernel_rfl) fun x => ?_
  obtain ⟨n, hn0, hn⟩ := x
  change W _ _ _ _ ⟨75, [(0, .int .u8 n)], []⟩
  obtain ⟨m, hm⟩ : ∃ m : Nat, (m : Int) = n := ⟨n.toNat, by omega⟩
  have hm255 : m ≤ 255 := by omega
  have w1 : IntKind.i64.wrap n = n := w64 (by omega) (by omega)
  have w2 : IntKind.i64.wrap (4 * n) = 4 * n := w64 (by omega) (by omega)
  have w3 : IntKind.i64.wrap (2 + 4 * n) = 2 + 4 * n := w64 (by omega) (by omega)
  have w4 : IntKind.i64.wrap (2 + 4 * n + 2) = 2 + 4 * n + 2 := w64 (by omega) (by omega)
  repeat (first | refine N.seq ?_ | refine N.blk ?_ | refine W.seq rfl ?_ | refine W.block rfl ?_ | refine W.skip rfl ?_ | refine W.ret rfl ?_ | refine N.nil ?_ | refine N.loop ?_ | refine W.exit rfl ?_ | refine X.seq ?_ | refine X.loop ?_ | refine X.hit ?_ | refine X.pass (by decide) ?_ | refine W.condT rfl (by rfl) ?_ | refine W.condF rfl (by rfl) ?_ | refine W.region tm su_specs_ok rfl (by conv => lhs; simp [w1, maxLen]) fun _ => ?_ | refine W.regionD tm su_specs_ok rfl (by conv => lhs; simp [w1, maxLen]) (by conv => lhs; simp) (by kernel_rfl) fun _ => ?_)
  refine W.loop rfl (ι := { q : Nat × NL ABlk // q.1 ≤ 2 + 4 * m + 2 ∧ lk q.2 64 = some prgB ∧ lk q.2 80 = some (cpuB (sta m q.1)) ∧ lk q.2 352 = some (codB n) })
    (fun q => ⟨75, [(0, .int .u8 n), (3, .ptr 64 1 0 0), (4, .ptr 80 1 0 0), (5, .int .i64 q.1.1)], q.1.2⟩) (fun q => 2 + 4 * m + 2 - q.1.1)
    ⟨(0, _), by simp, by rfl, by rfl, by rfl⟩ (AS.le_of rfl (by simp [tmpsIn]) (fun _ => rfl)) ?_
  rintro ⟨⟨k, h⟩, hk, h64, h80, h352⟩
  dsimp only at hk h64 h80 h352 ⊢
  repeat (first | refine N.seq ?_ | refine N.blk ?_ | refine W.seq rfl ?_ | refine W.block rfl ?_ | refine W.skip rfl ?_ | refine W.ret rfl ?_ | refine N.nil ?_ | refine N.loop ?_ | refine W.exit rfl ?_ | refine X.seq ?_ | refine X.loop ?_ | refine X.hit ?_ | refine X.pass (by decide) ?_ | refine W.region tm su_specs_ok rfl (by conv => lhs; simp [w1, w2, w3, w4]) fun _ => ?_ | refine W.regionD tm su_specs_ok rfl (by conv => lhs; simp [w1, w2, w3, w4]) (by conv => lhs; simp) (by kernel_rfl) fun _ => ?_)
  refine W.cond rfl (by rfl) (fun hb => ?_) (fun hb => ?_)
  · have hk' : k < 2 + 4 * m + 2 := by simp at hb; omega
    have hN := nextS_sta m k hm255 hk'
    rw [hm] at hN
    have w5 : IntKind.i64.wrap ((k : Int) + 1) = (k : Int) + 1 := w64 (by omega) (by omega)
    repeat (first | refine N.seq ?_ | refine N.blk ?_ | refine W.seq rfl ?_ | refine W.block rfl ?_ | refine W.skip rfl ?_ | refine W.ret rfl ?_ | refine N.nil ?_ | refine N.loop ?_ | refine W.exit rfl ?_ | refine X.seq ?_ | refine X.loop ?_ | refine X.hit ?_ | refine X.pass (by decide) ?_ | refine W.region tm su_specs_ok rfl (by conv => lhs; simp [h64, h80, h352, prgB, cpuB, codB, hN, z8, rows_len, rows_take]) fun _ => ?_ | refine W.regionD tm su_specs_ok rfl (by conv => lhs; simp [h64, h80, h352, prgB, cpuB, codB, hN, z8, rows_len, rows_take]) (by conv => lhs; simp) (by kernel_rfl) fun _ => ?_)
    refine W.cond rfl (by rfl) (fun h2 => ?_) (fun h2 => ?_)
    · simp at h2
    repeat (first | refine N.seq ?_ | refine N.blk ?_ | refine W.seq rfl ?_ | refine W.block rfl ?_ | refine W.skip rfl ?_ | refine W.ret rfl ?_ | refine N.nil ?_ | refine N.loop ?_ | refine W.exit rfl ?_ | refine X.seq ?_ | refine X.loop ?_ | refine X.hit ?_ | refine X.pass (by decide) ?_ | refine W.region tm su_specs_ok rfl (by conv => lhs; simp [h64, h80, h352, prgB, cpuB, codB, w5]) fun _ => ?_ | refine W.regionD tm su_specs_ok rfl (by conv => lhs; simp [h64, h80, h352, prgB, cpuB, codB, w5]) (by conv => lhs; simp) (by kernel_rfl) fun _ => ?_)
    refine ⟨⟨(k + 1, _), hk', ?_, ?_, ?_⟩, by dsimp only; omega, AS.le_of rfl (by simp [tmpsIn]) (fun _ => rfl)⟩
    · simp [lk_st, h64, prgB]
    · simp [lk_st, h80, cpuB]
    · simp [lk_st, h352, codB]
  · have hk' : k = 2 + 4 * m + 2 := by simp at hb; omega
    subst hk'
    have hN := nextS_end m
    rw [hm] at hN
    have hl := sta_last m
    repeat (first | refine N.seq ?_ | refine N.blk ?_ | refine W.seq rfl ?_ | refine W.block rfl ?_ | refine W.skip rfl ?_ | refine W.ret rfl ?_ | refine N.nil ?_ | refine N.loop ?_ | refine W.exit rfl ?_ | refine X.seq ?_ | refine X.loop ?_ | refine X.hit ?_ | refine X.pass (by decide) ?_ | refine W.region tm su_specs_ok rfl (by conv => lhs; simp [h64, h80, h352, prgB, cpuB, codB, hN, rows_len, rows_take]) fun _ => ?_ | refine W.regionD tm su_specs_ok rfl (by conv => lhs; simp [h64, h80, h352, prgB, cpuB, codB, hN, rows_len, rows_take]) (by conv => lhs; simp) (by kernel_rfl) fun _ => ?_)
    have p7 : (mkC 7 (tot m m) 0 1).pc = 7 := rfl
    have r7 : (mkC 7 (tot m m) 0 1).r = [(tot m m : Int), 0, 1, 0, 0, 0, 0, 0] := rfl
    have he := tot_eq m m (Nat.le_refl _)
    have htot : (n * (n + 1)).tdiv 2 = (tot m m : Int) := by
      have e2 : 2 * tot m m = m * (m + 1) := by simpa using he
      have e3 : n * (n + 1) = 2 * (tot m m : Int) := by
        rw [← hm]
        exact_mod_cast e2.symm
      rw [e3]
      exact Int.mul_tdiv_cancel_left _ (by omega)
    have hnn : n * (n + 1) ≤ 255 * 256 := by
      have : m * (m + 1) ≤ 255 * 256 := Nat.mul_le_mul hm255 (by omega)
      rw [← hm]
      exact_mod_cast this
    have hnn0 : 0 ≤ n * (n + 1) := Int.mul_nonneg hn0 (by omega)
    have w6 : IntKind.i64.wrap (n + 1) = n + 1 := w64 (by omega) (by omega)
    have w7 : IntKind.i64.wrap (n * (n + 1)) = n * (n + 1) := w64 (by omega) (by omega)
    have w8 : IntKind.i64.wrap (tot m m : Int) = tot m m := w64 (by omega) (by have := tot_le m hm255 m (Nat.le_refl _); omega)
    repeat (first | refine N.seq ?_ | refine N.blk ?_ | refine W.seq rfl ?_ | refine W.block rfl ?_ | refine W.skip rfl ?_ | refine W.ret rfl ?_ | refine N.nil ?_ | refine N.loop ?_ | refine W.exit rfl ?_ | refine X.seq ?_ | refine X.loop ?_ | refine X.hit ?_ | refine X.pass (by decide) ?_ | refine W.region tm su_specs_ok rfl (by conv => lhs; simp [h64, h80, h352, prgB, cpuB, codB, hl, p7, r7, w1, w6, w7, htot, w8]) fun _ => ?_ | refine W.regionD tm su_specs_ok rfl (by conv => lhs; simp [h64, h80, h352, prgB, cpuB, codB, hl, p7, r7, w1, w6, w7, htot, w8]) (by conv => lhs; simp) (by kernel_rfl) fun _ => ?_)
    first | exact Ret.data rfl (by conv => lhs; simp) (by conv => lhs; simp) (by first | rfl | simp [inlT, inlV]) | fail "no return here"
end Go.Abs.Cp
