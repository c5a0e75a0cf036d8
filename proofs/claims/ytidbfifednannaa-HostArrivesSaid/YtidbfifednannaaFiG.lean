/- HostArrives, walked. Conditions: none. -/
import Derived.Test.YtidbfifednannaaFiF
namespace Go.Abs.Fi
open Go Go.Proofs Go.Abs
set_option maxRecDepth 100000
set_option maxHeartbeats 4000000
set_option linter.unusedSimpArgs false
set_option linter.unusedVariables false
noncomputable def ha_specs (S : FuncId → SpecFn) : NL Spec := [(20, ⟨1, S 20⟩), (22, ⟨1, S 22⟩), (23, ⟨1, S 23⟩), (25, ⟨1, S 25⟩), (26, ⟨1, S 26⟩), (27, ⟨1, S 27⟩), (21, ⟨3, newS⟩), (24, ⟨3, nextS⟩)]
/-- What is known of the calls. -/
structure HaF (S : FuncId → SpecFn) : Prop where
  ok : ∀ p ∈ ha_specs S, FnC Try.prog p.1 p.2.fn
  f20 : S 20 [] [] = some (.bool true, [])
  f22 (n : Nat) (h : n < 4) : S 22 [.int .i64 n, .int .i64 0, .int .i64 1] [] = some (.tup [.agg (stc n 0), .int .i64 0], [])
  f23 : S 23 [.agg (stc 0 0), .int .u64 9] [] = some (.agg (stc 0 2), [])
  f27 (n v : Nat) (h : v < 3) : S 27 [.agg (stc n v), .int .u64 9] [] = some (.bool (v == 2), [])
  f25a (n t v : Nat) (h : v < 2) : S 25 [.agg (stc n v), .int .u64 9, .int .i64 t, nod] [] = some (.tup [.agg (stc n v), .nils], [])
  f25b (n : Nat) (h : n < 4) : S 25 [.agg (stc n 2), .int .u64 9, .int .i64 n, nod] [] = some (.tup [.agg (stc n 2), .nils], [])
  f25c (n t : Nat) (h : n < 4) (h' : t < 4) (hn : n ≠ t) : S 25 [.agg (stc n 2), .int .u64 9, .int .i64 t, nod] [] = some (.tup [.agg (stc n 1), .list 45 [hmsg n t]], [])
  f26a (n v : Nat) (h : n < 4) (hv : v < 2) : S 26 [.agg (stc n v), .int .u64 9, .int .i64 n] [] = some (.tup [.agg (stc n 2), .nils], [])
  f26b (n t v : Nat) (h : n < 4) (h' : t < 4) (hv : v < 3) (hn : n ≠ t) : S 26 [.agg (stc n v), .int .u64 9, .int .i64 t] [] = some (.tup [.agg (stc n v), .list 45 [hmsg n t]], [])
theorem lt4 {n : Nat} (h : n < 4) : n = 0 ∨ n = 1 ∨ n = 2 ∨ n = 3 := by omega
theorem haF : HaF ph where
  ok := by
    simp only [ha_specs, List.mem_cons, List.not_mem_nil, or_false]
    rintro p (rfl | rfl | rfl | rfl | rfl | rfl | rfl | rfl)
    · exact ph_ok 20 Try.func20 rfl
    · exact ph_ok 22 Try.func22 rfl
    · exact ph_ok 23 Try.func23 rfl
    · exact ph_ok 25 Try.func25 rfl
    · exact ph_ok 26 Try.func26 rfl
    · exact ph_ok 27 Try.func27 rfl
    · exact new_ok
    · exact next_ok
  f20 := h20
  f22 n h := by
    rcases lt4 h with rfl | rfl | rfl | rfl
    · exact h22_0
    · exact h22_1
    · exact h22_2
    · exact h22_3
  f23 := h23
  f27 n v h := by
    obtain rfl | rfl | rfl : v = 0 ∨ v = 1 ∨ v = 2 := by omega
    · exact h27_0 n
    · exact h27_1 n
    · exact h27_2 n
  f25a n t v h := by
    obtain rfl | rfl : v = 0 ∨ v = 1 := by omega
    · exact h25_0 n t
    · exact h25_1 n t
  f25b n h := by
    rcases lt4 h with rfl | rfl | rfl | rfl
    · exact h25_00
    · exact h25_11
    · exact h25_22
    · exact h25_33
  f25c n t h h' hn := by
    rcases lt4 h with rfl | rfl | rfl | rfl <;> rcases lt4 h' with rfl | rfl | rfl | rfl <;> first | exact absurd rfl hn | skip
    · exact h25_01
    · exact h25_02
    · exact h25_03
    · exact h25_10
    · exact h25_12
    · exact h25_13
    · exact h25_20
    · exact h25_21
    · exact h25_23
    · exact h25_30
    · exact h25_31
    · exact h25_32
  f26a n v h hv := by
    obtain rfl | rfl : v = 0 ∨ v = 1 := by omega
    · rcases lt4 h with rfl | rfl | rfl | rfl
      · exact h26_000
      · exact h26_110
      · exact h26_220
      · exact h26_330
    · rcases lt4 h with rfl | rfl | rfl | rfl
      · exact h26_001
      · exact h26_111
      · exact h26_221
      · exact h26_331
  f26b n t v h h' hv hn := by
    obtain rfl | rfl | rfl : v = 0 ∨ v = 1 ∨ v = 2 := by omega
    · rcases lt4 h with rfl | rfl | rfl | rfl <;> rcases lt4 h' with rfl | rfl | rfl | rfl <;> first | exact absurd rfl hn | skip
      · exact h26_010
      · exact h26_020
      · exact h26_030
      · exact h26_100
      · exact h26_120
      · exact h26_130
      · exact h26_200
      · exact h26_210
      · exact h26_230
      · exact h26_300
      · exact h26_310
      · exact h26_320
    · rcases lt4 h with rfl | rfl | rfl | rfl <;> rcases lt4 h' with rfl | rfl | rfl | rfl <;> first | exact absurd rfl hn | skip
      · exact h26_011
      · exact h26_021
      · exact h26_031
      · exact h26_101
      · exact h26_121
      · exact h26_131
      · exact h26_201
      · exact h26_211
      · exact h26_231
      · exact h26_301
      · exact h26_311
      · exact h26_321
    · rcases lt4 h with rfl | rfl | rfl | rfl <;> rcases lt4 h' with rfl | rfl | rfl | rfl <;> first | exact absurd rfl hn | skip
      · exact h26_012
      · exact h26_022
      · exact h26_032
      · exact h26_102
      · exact h26_122
      · exact h26_132
      · exact h26_202
      · exact h26_212
      · exact h26_232
      · exact h26_302
      · exact h26_312
      · exact h26_322
@[simp] theorem appendR_slcN (P : Program) (dst : Nat) (t t' i g o l c : Nat) (H : NL ABlk) (ht : (apT P t).isSome = true) : appendR P dst [t, t'] [.slc i g o l c, .nils] H = appendCR P dst t t' i g o l c .nils H :=
  appendC_run P dst t t' i g o l c .nils H ht
theorem weaker_slc (id g off len cap : Nat) : AV.weaker (.slc id g off len cap) (.sl id g off len) := fun E v h => by
  simp only [Rep] at h ⊢
  obtain ⟨blk, a, len', cap', h1, h2, rfl, h3⟩ := h
  refine ⟨blk, a, len', cap', h1, h2, rfl, fun hg => ?_⟩
  obtain ⟨k1, k2, rfl, k4⟩ := h3 hg
  exact ⟨k1, k2, k4⟩
theorem splice_end {α : Type} (l m : List α) : splice l l.length m = l ++ m := by simp [splice]
/-- The rows of stations. -/
def R (v : Nat → Nat) (k : Nat) : List (List AV) := (List.range k).map fun n => stc n (v n)
theorem R_succ (v : Nat → Nat) (k : Nat) : R v (k + 1) = R v k ++ [stc k (v k)] := by simp [R, List.range_succ]
theorem R_len (v : Nat → Nat) (k : Nat) : (R v k).length = k := by simp [R]
theorem R_get (v : Nat → Nat) {k n : Nat} (h : n < k) : (R v k)[n]? = some (stc n (v n)) := by simp [R, h]
theorem R_getE (v : Nat → Nat) {k n : Nat} (h : n < (R v k).length) : (R v k)[n] = stc n (v n) := by simp [R]
theorem cellish_hv (v : Nat) : (hv v).cellish = true := by rcases v with _ | _ | v <;> rfl
theorem isInl_hv (v : Nat) : (hv v).isInl = true := by rcases v with _ | _ | v <;> rfl
theorem inl2_hv (v : Nat) : (hv v).inl2 = true := by rcases v with _ | _ | v <;> rfl
theorem ren_hv (f : Nat → Nat → Option (Nat × Nat)) (v : Nat) : (hv v).ren f = hv v := by rcases v with _ | _ | v <;> rfl
theorem refs_hv (v : Nat) : (hv v).refs = [] := by rcases v with _ | _ | v <;> rfl
def upv (v : Nat → Nat) (n y : Nat) : Nat → Nat := fun m => if m = n then y else v m
theorem R_set (v : Nat → Nat) {n y : Nat} (k : Nat) : (R v k).set n (stc n y) = R (upv v n y) k := by
  apply List.ext_getElem?
  intro m
  by_cases hm : m < k
  · by_cases e : n = m
    · subst e
      rw [List.getElem?_set_self (by simpa [R_len] using hm), R_get _ hm]
      simp [upv]
    · rw [List.getElem?_set_ne e, R_get _ hm, R_get _ hm]
      simp [upv, Ne.symm e]
  · rw [List.getElem?_eq_none (by simp [R_len]; omega), List.getElem?_eq_none (by simp [R_len]; omega)]
def stB (v : Nat → Nat) (k : Nat) : ABlk := { gen := k, kind := 2, elem := 84, size := 15, inl := true, rows := R v k }
def wyB (g : Nat) (pre w : List (List AV)) : ABlk := { gen := g, kind := 2, elem := 51, size := 45, inl := true, rows := pre ++ w }
def dk1 (L : List Int) (k : Nat) : ABlk := { gen := 1, kind := 2, elem := 137, size := 2, inl := false, rows := [[.list 1 (L.map ic), .int .i64 (k : Nat)]] }
attribute [local simp] runL stepA execA_eq skipA run_ret run_fail run_get run_put run_asm num lk st lk_st putA AS.ev ofValue ofFlat mkv splice fieldAddrA buildA fillA runF gdst pickA unOpA extractA resVs resV pack frzT inlT inlV frzV frzVs frzL frz1 newId AV.cellsOf AV.flat AV.flat2 specOf loadA_runR capA copyA copyTo srcA sliceCA slice3A appendZA extA AV.place lenCA clearA clearTo expG expB3 List.zipWith renL fF handB renB AV.ren backF backL idsOf freshIds refsL refsB AV.refs List.range List.range.loop placesA sliceRows rowsOf convertA sliceArrA sliceA bndA nilCheckA arrayAtA mmA lookupA keyOf keyOK findA keyEqA foundA makeMapA mapUpdateA appendA rowsA indexA partA fieldA retE2 frqT frqV frqVs frqL frq1 reachE blkRefs outE nodupE firstE seqO expB2 expF instA nod ha_specs cellish_hv isInl_hv inl2_hv ren_hv refs_hv R_len
def encW (L : { L : List Int // L.length ≤ maxLen }) : List AV := [.list 1 (L.1.map ic)]
theorem encW_inj {β : Type} {f : { L : List Int // L.length ≤ maxLen } → β} : ∀ x y, encW x = encW y → f x = f y := fun x y h => by
  simp only [encW, List.cons.injEq, AV.list.injEq, true_and, and_true] at h
  rw [Subtype.ext (map_inj ic_inj h)]
noncomputable def arrS : SpecFn := mkS encW fun _ => (.bool true, [])
def cnt (v : Nat → Nat) : Nat → Nat
  | 0 => 0
  | i + 1 => cnt v i + if v i = 2 then 1 else 0
theorem cnt_le (v : Nat → Nat) (i : Nat) : cnt v i ≤ i := by
  induction i with
  | zero => simp [cnt]
  | succ i ih => simp only [cnt]; split <;> omega
theorem cnt_none {v : Nat → Nat} (h : ∀ n, n < 4 → v n < 2) : cnt v 4 = 0 := by
  have h0 := h 0 (by omega)
  have h1 := h 1 (by omega)
  have h2 := h 2 (by omega)
  have h3 := h 3 (by omega)
  simp only [cnt]
  repeat' split
  all_goals omega
theorem cnt_one {v : Nat → Nat} {p : Nat} (hp : p < 4) (h2 : v p = 2) (h : ∀ n, n < 4 → n ≠ p → v n < 2) : cnt v 4 = 1 := by
  have g0 := h 0 (by omega)
  have g1 := h 1 (by omega)
  have g2 := h 2 (by omega)
  have g3 := h 3 (by omega)
  rcases lt4 hp with rfl | rfl | rfl | rfl <;> simp only [cnt] <;> (repeat' split) <;> omega
structure HS where
  k : Nat
  pl : Nat
  ps : Nat
  us : Nat
  v : Nat → Nat
  w : List (Nat × Nat)
  id : Nat
  g : Nat
  pre : List (List AV)
  dk : Nat
  h : NL ABlk
def wr (w : List (Nat × Nat)) : List (List AV) := w.map fun p => hmsg p.1 p.2
/-- What is known: one station hosts the process, or it is on its way. -/
inductive Hosted (k pl ps us : Nat) (v : Nat → Nat) (w : List (Nat × Nat)) (b : Nat) : Prop
  | at (h1 : w = []) (h2 : v pl = 2) (h3 : ∀ n, n < 4 → n ≠ pl → v n < 2) (h4 : us ≤ ps)
  | way (f t : Nat) (h1 : w = [(f, t)]) (ht : t < 4) (h3 : ∀ n, n < 4 → v n < 2) (h4 : us + 1 + (if t = pl then 0 else 1) ≤ ps) (h5 : 31 ≤ k + b → t = pl) (h6 : k + b < 32)
structure HI (L : List Int) (a b : Nat) (q : HS) : Prop where
  k : q.k + a ≤ 60
  pl : q.pl < 4
  ps : q.ps ≤ q.k + a
  dk : q.dk ≤ L.length
  us : q.us ≤ q.ps
  hw : Hosted q.k q.pl q.ps q.us q.v q.w b
  hid : q.id = 2000 ∨ q.id = 1232 ∨ q.id = 2112
  b1 : lk q.h 1000 = some (stB q.v 4)
  b2 : lk q.h 416 = some (dk1 L q.dk)
  b3 : lk q.h q.id = some (wyB q.g q.pre (wr q.w))
def HJ (q : HS) : AS := ⟨168, [(13, .int .i64 (q.k : Nat)), (12, .sl q.id q.g q.pre.length q.w.length), (11, .int .i64 (q.us : Nat)), (10, .int .i64 (q.ps : Nat)), (9, .int .i64 (q.pl : Nat)), (5, .sl 1000 4 0 4), (4, nod), (3, .ptr 416 1 0 0)], q.h⟩
theorem HI.of {L : List Int} {a b k pl ps us : Nat} {v : Nat → Nat} {w : List (Nat × Nat)} {id g : Nat} {pre : List (List AV)} {dk : Nat} {h : NL ABlk} (h1 : k + a ≤ 60) (h2 : pl < 4) (h3 : ps ≤ k + a) (h4 : dk ≤ L.length) (h5 : us ≤ ps) (h6 : Hosted k pl ps us v w b) (h7 : id = 2000 ∨ id = 1232 ∨ id = 2112) (h8 : lk h 1000 = some (stB v 4)) (h9 : lk h 416 = some (dk1 L dk)) (h10 : lk h id = some (wyB g pre (wr w))) : HI L a b ⟨k, pl, ps, us, v, w, id, g, pre, dk, h⟩ := ⟨h1, h2, h3, h4, h5, h6, h7, h8, h9, h10⟩
end Go.Abs.Fi
