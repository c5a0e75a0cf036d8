/- A directory keeps objects safe: the walk through the statement. Conditions: none. -/
import Derived.Test.YtbndcamifghfaaaNa6
import Derived.Test.YtbndcamifghfaaaAb8
namespace Go.Abs.Na
open Go Go.Proofs Go.Abs
set_option maxRecDepth 100000
set_option maxHeartbeats 4000000
set_option linter.unusedSimpArgs false
set_option linter.unusedVariables false
attribute [local simp] instA
attribute [-simp] mkv
attribute [local simp] mkv_hd hdA_cons hdA_ob hdA_ob'
abbrev Ops := {l : List UInt8 // l.length ≤ maxLen}
noncomputable def safS : SpecFn := mkS (fun x : Ops => [.list 1 (x.1.map byte)]) fun _ => (.bool true, [])
theorem safS_eq (x : Ops) : safS [.list 1 (x.1.map byte)] [] = some (.bool true, []) := mkS_eq (enc := fun x : Ops => [AV.list 1 (x.1.map byte)]) (fun _ _ _ => rfl) x
def dirB (g : Nat) (l : List En) : ABlk := { gen := g, kind := 2, elem := 95, size := 2, inl := false, rows := [[.int .i64 1, .list 41 (l.map enC)]] }
def hdG (h : Dir.Hd) : ABlk := { gen := 1, kind := 2, elem := 110, size := 12, inl := false, rows := [hdC h] }
/-- What holds at each round. -/
structure SafI (n : Nat) where
  i : Nat
  v : Int
  l : List En
  e : En
  h : Dir.Hd
  H : NL ABlk
  hi : i ≤ n + 40
  hv : 0 ≤ v ∧ v ≤ i
  ds : DS idK l e
  inv : Dir.Inv (Pz idK) zOb e h
  live : n ≤ i → Dir.Live n i e
  g1 : lk H 80 = some (dirB 1 l)
  g2 : lk H 384 = some (hdG h)
def hd0 : Dir.Hd := ⟨fun n => if n = 3 then 2 else 0, fun _ => false, fun _ => 0⟩
theorem inv0 : Dir.Inv (Pz idK) zOb (ent0 idK) hd0 := by
  have ho : (ent0 idK).owner = 3 := ow0_S
  refine ⟨⟨fun n hn => ?_, fun n hn => ?_, fun n hn => ?_, .inr ?_, ?_, List.Pairwise.nil, fun _ => rfl, fun _ => rfl, pz_zob _, ?_, List.Pairwise.nil, fun n hn h => absurd rfl h⟩, fun n hn => ?_, .inl ⟨rfl, rfl⟩⟩
  · rw [ho]
    simp only [hd0]
    constructor
    · intro h; split at h <;> omega
    · intro h; rw [if_pos h.symm]
  · simp only [hd0, ent0]
    constructor
    · intro h; split at h <;> omega
    · intro h; cases h
  · simp only [hd0]
    split <;> omega
  · rw [ho]; exact ⟨by decide, by decide⟩
  · intro n h; cases h
  · intro p h; cases h
  · simp [hd0, ent0]
theorem W.cutT {P : Program} {Q : AS → Prop} {a b y : Code} {fs : List Fr} {σ : AS} (M : AS → Prop) (h1 : W P Q a (.seq b :: .loop M :: fs) σ) (h2 : ∀ σ', M σ' → W P Q y fs σ') : W P Q a (.seq b :: .seq y :: fs) σ := by
  have key : ∀ e σ, post P Q (.loop M :: fs) e σ → post P Q (.seq y :: fs) e σ := fun e σ h => by
    cases e with
    | normal => exact (h2 σ h).h
    | _ => exact h
  refine ⟨h1.h.mono fun e σ h => ?_⟩
  cases e with
  | normal => exact WP.mono h fun e σ h => key e σ h
  | exit i => exact key (.exit i) σ h
  | goto i => exact key (.goto i) σ h
  | ret => exact key .ret σ h
  | panic c => exact key (.panic c) σ h
  | outgrown => exact key .outgrown σ h
theorem tmod_nat {x : Int} {m : Nat} (hx : 0 ≤ x) (hm : 0 < m) : ∃ k : Nat, k < m ∧ x.tmod (m : Int) = (k : Int) := by
  obtain ⟨a, rfl⟩ := Int.eq_ofNat_of_zero_le hx
  exact ⟨a % m, Nat.mod_lt _ hm, rfl⟩
theorem byte_lt (b : UInt8) : b.toNat < 256 := b.toNat_lt
theorem byte_w (b : UInt8) : IntKind.i64.wrap (b.toNat : Int) = (b.toNat : Int) := w64 (by omega) (by have := byte_lt b; omega)
theorem byte_d (b : UInt8) (d : Int) : 0 ≤ IntKind.i64.wrap (IntKind.u8.wrap ((b.toNat : Int) / d)) := by
  have h : 0 ≤ IntKind.u8.wrap ((b.toNat : Int) / d) ∧ IntKind.u8.wrap ((b.toNat : Int) / d) < 256 := by
    simp only [IntKind.wrap, IntKind.bits, IntKind.signed]
    simp
    omega
  rw [w64 (by omega) (by omega)]
  exact h.1
theorem live_skip' {n i : Nat} {e : En} {h : Dir.Hd} {id : Int} (inv : Dir.Inv (Pz id) zOb e h) (live : n ≤ i → Dir.Live n i e) (hs : n ≤ i → ((i % 4 : Nat) : Int) ∉ e.waiting) : n ≤ i + 1 → Dir.Live n (i + 1) e := fun h1 => by
  by_cases h2 : n ≤ i
  · exact Dir.live_skip inv h2 (live h2) (hs h2)
  · have : n = i + 1 := by omega
    subst this
    exact Dir.live_start inv _
theorem live_ret' {n i : Nat} {e e' : En} {h' : Dir.Hd} {id : Int} (inv : Dir.Inv (Pz id) zOb e' h') (live : n ≤ i → Dir.Live n i e) (hr : n ≤ i → (Dir.oth e.waiting ((i % 4 : Nat) : Int) ≠ [] ∧ e'.waiting = Dir.oth e.waiting ((i % 4 : Nat) : Int) ∧ e'.queue = e.queue) ∨ e'.queue.length + 1 ≤ e.queue.length) : n ≤ i + 1 → Dir.Live n (i + 1) e' := fun h1 => by
  by_cases h2 : n ≤ i
  · exact Dir.live_ret inv h2 (live h2) (hr h2)
  · have : n = i + 1 := by omega
    subst this
    exact Dir.live_start inv _
theorem saf_ok : FnC Try.prog 8 safS := by
  obtain ⟨SS, hSS, hse⟩ := saneD_ex
  have sp : ∀ p ∈ ([(44, ⟨1, SS⟩), (49, ⟨1, entS⟩)] : NL Spec), FnC Try.prog p.1 p.2.fn := by
    simp only [List.mem_cons, List.not_mem_nil, or_false]
    rintro p (rfl | rfl)
    · exact hSS
    · exact ent_ok
  refine FnC.walk 8 (fn := Try.f8) Try.func8 rfl (by kernel_rfl) fun x => ?_
  obtain ⟨ops, hops⟩ := x
  change W _ (Ret _ _ (.bool true) []) _ _ ⟨189, [(0, .list 1 (ops.map byte))], []⟩
  have cap : ops.length ≤ 9223372036854775807 := by simpa [maxLen] using hops
  repeat' (first | refine ZV ?_ | refine ZB tm sp ?_ | refine ZH (fun hb => ?_) (fun hb => ?_) | refine ZJ (by conv => lhs; simp [hse]) ?_ | refine ZA (fun hb => ?_) (fun hb => ?_))
  obtain ⟨LD, hLD⟩ : ∃ L, leafs Try.prog 95 = L := ⟨_, rfl⟩
  refine W.nrmB 80 LD (by rfl) rfl ?_
  have hn0 : ∀ b, nrmL Try.prog LD [.int .i64 1, .nils] = b → b = [.int .i64 1, .list 41 (([] : List En).map enC)] := fun b hb => by
    rw [← hb, ← hLD, drLeafs]
    simp only [nrmL, nrmV, uE, cE, List.map_nil]
  obtain ⟨n, hn⟩ : ∃ n, min ops.length 60 = n := ⟨_, rfl⟩
  refine W.loop rfl (ι := SafI n) (fun x => ⟨189, [(0, .list 1 (ops.map byte)), (3, .int .u64 idK), (4, .ptr 80 1 0 0), (5, .ptr 384 1 0 0), (6, .int .i64 x.v), (7, .int .i64 (x.i : Nat))], x.H⟩) (fun x => n + 40 - x.i)
    ⟨0, 0, [], ent0 idK, hd0, _, by omega, by simp, .inl ⟨rfl, rfl⟩, inv0, fun h => by have : n = 0 := by omega
                                                                                       subst this
                                                                                       exact Dir.live_start inv0 0, by simp [lk_st, dirB, hn0 _ rfl], by simp [lk_st, hdG, hd0]⟩ (AS.le_of rfl ⟨rfl, rfl, rfl, rfl, rfl, rfl, trivial⟩ (fun _ => rfl)) ?_
  rintro ⟨i, v, l, e, h, H, hi, hv, ds, inv, live, g1, g2⟩
  dsimp only
  have hmin : (if (60 : Int) < (ops.length : Int) then (60 : Int) else (ops.length : Int)) = (n : Int) := by split <;> omega
  have hw40 : IntKind.i64.wrap ((n : Int) + 40) = ((n + 40 : Nat) : Int) := w64 (by omega) (by omega)
  by_cases hie : i = n + 40
  · subst hie
    have hq := Dir.live_end (live (by omega))
    have hz := Dir.inv_end inv hq
    obtain ⟨a0, d0⟩ := hz 0 ⟨by decide, by decide⟩
    obtain ⟨a1, d1⟩ := hz 1 ⟨by decide, by decide⟩
    obtain ⟨a2, d2⟩ := hz 2 ⟨by decide, by decide⟩
    obtain ⟨a3, d3⟩ := hz 3 ⟨by decide, by decide⟩
    obtain ⟨o1, o2⟩ := ds_ok ds inv
    have ce := entS_eq ⟨1, l, o1, o2⟩ idK
    rw [show fndD idK (⟨1, l, o1, o2⟩ : Drs).ents = e from ds_fnd ds] at ce
    simp only [Drs.v, enX, ixiB, ixaB, hq, List.length_nil, List.map_nil] at ce
    simp only [hdG, hdC, a0, a1, a2, a3, d0, d1, d2, d3] at g2
    simp only [dirB] at g1
    have q0 : ¬ ((n + 40 : Nat) : Int) < ((n + 40 : Nat) : Int) := by omega
    repeat' (first | refine ZV ?_ | refine ZB tm sp ?_ | refine ZH (fun hb => ?_) (fun hb => ?_) | refine ZJ (by conv => lhs; simp [hmin, hw40, cap, q0]) ?_ | refine ZA (fun hb => ?_) (fun hb => ?_))
    refine W.loop rfl (ι := { k : Nat // k ≤ 4 }) (fun k => ⟨189, [(3, .int .u64 idK), (4, .ptr 80 1 0 0), (5, .ptr 384 1 0 0), (164, .int .i64 (k.1 : Nat))], H⟩) (fun k => 4 - k.1) ⟨0, by omega⟩ (AS.le_of rfl ⟨rfl, rfl, rfl, rfl, trivial⟩ (fun _ => rfl)) ?_
    rintro ⟨k, hk⟩
    dsimp only
    rcases (show k = 0 ∨ k = 1 ∨ k = 2 ∨ k = 3 ∨ k = 4 by omega) with rfl | rfl | rfl | rfl | rfl
    · repeat' (first | refine ZV ?_ | refine ZB tm sp ?_ | refine ZH (fun hb => ?_) (fun hb => ?_) | refine ZJ (by conv => lhs; simp [g1, g2]) ?_ | refine ZA (fun hb => ?_) (fun hb => ?_))
      exact ⟨⟨1, by omega⟩, by dsimp only; omega, AS.le_of rfl ⟨rfl, rfl, rfl, rfl, trivial⟩ (fun _ => rfl)⟩
    · repeat' (first | refine ZV ?_ | refine ZB tm sp ?_ | refine ZH (fun hb => ?_) (fun hb => ?_) | refine ZJ (by conv => lhs; simp [g1, g2]) ?_ | refine ZA (fun hb => ?_) (fun hb => ?_))
      exact ⟨⟨2, by omega⟩, by dsimp only; omega, AS.le_of rfl ⟨rfl, rfl, rfl, rfl, trivial⟩ (fun _ => rfl)⟩
    · repeat' (first | refine ZV ?_ | refine ZB tm sp ?_ | refine ZH (fun hb => ?_) (fun hb => ?_) | refine ZJ (by conv => lhs; simp [g1, g2]) ?_ | refine ZA (fun hb => ?_) (fun hb => ?_))
      exact ⟨⟨3, by omega⟩, by dsimp only; omega, AS.le_of rfl ⟨rfl, rfl, rfl, rfl, trivial⟩ (fun _ => rfl)⟩
    · repeat' (first | refine ZV ?_ | refine ZB tm sp ?_ | refine ZH (fun hb => ?_) (fun hb => ?_) | refine ZJ (by conv => lhs; simp [g1, g2]) ?_ | refine ZA (fun hb => ?_) (fun hb => ?_))
      exact ⟨⟨4, by omega⟩, by dsimp only; omega, AS.le_of rfl ⟨rfl, rfl, rfl, rfl, trivial⟩ (fun _ => rfl)⟩
    · repeat' (first | refine ZV ?_ | refine ZB tm sp ?_ | refine ZH (fun hb => ?_) (fun hb => ?_) | refine ZJ (by conv => lhs; simp [g1, g2, ce]) ?_ | refine ZA (fun hb => ?_) (fun hb => ?_))
      all_goals (first | refine Ret.dataE rfl (by conv => lhs; simp) (by conv => lhs; simp) (by first | rfl | simp [inlT, inlV]) ?_ | refine RetNf.dataE rfl (by conv => lhs; simp) (by conv => lhs; simp) (by first | rfl | simp [inlT, inlV]) ?_)
      all_goals (first | rfl | (simp; done) | (simp_all; done) | (simp_all; omega))
  · have hlt : i < n + 40 := by omega
    have q0 : (i : Int) < (n : Int) + 40 := by omega
    have hw1 : IntKind.i64.wrap ((i : Int) + 1) = ((i + 1 : Nat) : Int) := w64 (by omega) (by omega)
    have hi4 : ((i : Nat) : Int).tmod 4 = ((i % 4 : Nat) : Int) := rfl
    repeat' (first | refine ZV ?_ | refine ZB (id := 9) tm sp ?_ | refine ZB (id := 10) tm sp ?_ | refine ZB (id := 11) tm sp ?_ | refine ZH (fun hb => ?_) (fun hb => ?_) | refine ZJ (by conv => lhs; simp [hmin, hw40, cap, q0, hi4]) ?_ | refine ZA (fun hb => ?_) (fun hb => ?_))
    refine W.cutT (fun σ' => ∃ k a : Int, (k = 0 ∨ k = 1 ∨ k = 2 ∨ k = 3) ∧ (a = 0 ∨ a = 1 ∨ a = 2) ∧ (n ≤ i → a = 1 ∧ k = ((i % 4 : Nat) : Int)) ∧ AS.le ⟨189, [(0, .list 1 (ops.map byte)), (3, .int .u64 idK), (4, .ptr 80 1 0 0), (5, .ptr 384 1 0 0), (6, .int .i64 v), (7, .int .i64 (i : Nat)), (8, .int .i64 k), (9, .int .i64 a)], H⟩ σ') ?_ ?_
    · by_cases hL : i < n
      · obtain ⟨b, hb⟩ := get_lt (l := ops) (i := i) (by omega)
        have hm : (ops.map byte)[i]? = some [.int .u8 b.toNat] := by rw [List.getElem?_map, hb]; rfl
        have q1 : (i : Int) < ops.length := by omega
        have q2 : ¬ ops.length ≤ i := by omega
        have q3 : (i : Int) < 60 := by omega
        have q3' : i < 60 := by omega
        obtain ⟨k, hk, ek⟩ := tmod_nat (x := IntKind.i64.wrap (b.toNat : Int)) (m := 4) (by rw [byte_w]; omega) (by omega)
        obtain ⟨a, ha, ea⟩ := tmod_nat (x := IntKind.i64.wrap (IntKind.u8.wrap ((b.toNat : Int) / 4))) (m := 3) (byte_d b 4) (by omega)
        have ek : (IntKind.i64.wrap (b.toNat : Int)).tmod 4 = (k : Int) := ek
        have ea : (IntKind.i64.wrap (IntKind.u8.wrap ((b.toNat : Int) / 4))).tmod 3 = (a : Int) := ea
        repeat' (first | refine ZV ?_ | refine ZB tm sp ?_ | refine ZH (fun hb => ?_) (fun hb => ?_) | refine ZJ (by conv => lhs; simp [q1, q2, q3, q3', hm, ek, ea]) ?_ | refine ZA (fun hb => ?_) (fun hb => ?_))
        exact ⟨(k : Int), (a : Int), by omega, by omega, fun h => by omega, AS.le_of rfl ⟨rfl, rfl, rfl, rfl, rfl, rfl, rfl, rfl, trivial⟩ (fun _ => rfl)⟩
      · have q1 : (decide ((i : Int) < ops.length) && decide ((i : Int) < 60)) = false := by
          rw [Bool.and_eq_false_iff]
          simp only [decide_eq_false_iff_not]
          omega
        repeat' (first | refine ZV ?_ | refine ZB tm sp ?_ | refine ZH (fun hb => ?_) (fun hb => ?_) | refine ZJ (by conv => lhs; simp [cap]) ?_ | refine ZA (fun hb => ?_) (fun hb => ?_))
        all_goals first
          | exact ⟨((i % 4 : Nat) : Int), 1, by omega, by omega, fun h => ⟨rfl, rfl⟩, AS.le_of rfl ⟨rfl, rfl, rfl, rfl, rfl, rfl, rfl, rfl, trivial⟩ (fun _ => rfl)⟩
          | (exfalso; simp_all; done)
          | (exfalso; simp_all; omega)
    · rintro σ' ⟨k, a, hk, ha, hka, hle⟩
      refine W.weak hle ?_
      clear hle
      have hn4 : Dir.N4 k := ⟨by omega, by omega⟩
      obtain ⟨o1, o2⟩ := ds_ok ds inv
      have hm0 := inv.pre.m0 k hn4
      have g1' := g1
      have g2' := g2
      simp only [dirB] at g1
      simp only [hdG, hdC] at g2
      by_cases hA : a = 0 ∧ h.asked k = 0
      · obtain ⟨rfl, hA⟩ := hA
        have hL : i < n := by omega
        obtain ⟨b, hb⟩ := get_lt (l := ops) (i := i) (by omega)
        have hm : (ops.map byte)[i]? = some [.int .u8 b.toNat] := by rw [List.getElem?_map, hb]; rfl
        have q1 : (i : Int) < ops.length := by omega
        have q2 : ¬ ops.length ≤ i := by omega
        obtain ⟨c, hc, ec⟩ := tmod_nat (x := IntKind.i64.wrap (IntKind.u8.wrap ((b.toNat : Int) / 16))) (m := 2) (byte_d b 16) (by omega)
        have ec : (IntKind.i64.wrap (IntKind.u8.wrap ((b.toNat : Int) / 16))).tmod 2 = (c : Int) := ec
        obtain ⟨m, hmc⟩ : ∃ m : Int, IntKind.i64.wrap (1 + (c : Int)) = m := ⟨_, rfl⟩
        have hmv : m = 1 ∨ m = 2 := by rw [w64 (by omega) (by omega)] at hmc; omega
        have hA2 : (h.asked k == 0) = true := by simp [hA]
        by_cases hge : m ≤ h.mode k
        · rcases hk with rfl | rfl | rfl | rfl
          all_goals (
            repeat' (first | refine ZV ?_ | refine ZB tm sp ?_ | refine ZH (fun hb => ?_) (fun hb => ?_) | refine ZJ (by conv => lhs; simp [q1, q2, hm, ec, hmc, g1, g2, hA2, hge, hw1]) ?_ | refine ZA (fun hb => ?_) (fun hb => ?_))
            exact ⟨⟨i + 1, v, l, e, h, _, by omega, by omega, ds, inv, live_skip' inv live (fun h => by omega), g1', g2'⟩, by dsimp only; omega, AS.le_of rfl ⟨rfl, rfl, rfl, rfl, rfl, rfl, trivial⟩ (fun _ => rfl)⟩)
        · obtain ⟨e', h', ms, s1, s2, s3, s4, s5⟩ := ask_step (d := ⟨1, l, o1, o2⟩) (by decide) (by rfl) ds inv hn4 hA hmv (by omega)
          have ca := askS_eq ⟨1, l, o1, o2⟩ idK k m
          rw [s1] at ca
          simp only [Drs.v, rD] at ca
          have ct := tkS_eq { h with asked := Dir.up h.asked k m } h' 1 idK ms
          have tok := take_ok { h with asked := Dir.up h.asked k m } h' 1 idK ms s5 s2
          simp only [mgs, hdB, hdC] at ct
          generalize tkS { h with asked := Dir.up h.asked k m } h' 1 idK ms = ST at *
          generalize (ms.map (mgM 1 idK)) = M at *
          have sp : ∀ p ∈ ([(45, ⟨1, askS⟩), (46, ⟨3, ST⟩)] : NL Spec), FnC Try.prog p.1 p.2.fn := by
            simp only [List.mem_cons, List.not_mem_nil, or_false]
            rintro p (rfl | rfl)
            · exact ask_ok
            · exact tok
          rcases hk with rfl | rfl | rfl | rfl
          all_goals (
            simp [Dir.up] at ct
            repeat' (first | refine ZV ?_ | refine ZB tm sp ?_ | refine ZH (fun hb => ?_) (fun hb => ?_) | refine ZJ (by conv => lhs; simp [q1, q2, hm, ec, hmc, g1, g2, hA2, hge, ca, ct, hw1]) ?_ | refine ZA (fun hb => ?_) (fun hb => ?_))
            exact ⟨⟨i + 1, v, [e'], e', h', _, by omega, by omega, s4, s3, live_skip' s3 (fun h => by omega) (fun h => by omega), by simp [lk_st, dirB], by simp [lk_st, hdG]⟩, by dsimp only; omega, AS.le_of rfl ⟨rfl, rfl, rfl, rfl, rfl, rfl, trivial⟩ (fun _ => rfl)⟩)
      · have hA2 : a = 0 → (h.asked k == 0) = false := fun h0 => by simpa using fun h1 => hA ⟨h0, h1⟩
        obtain ⟨A, hAA⟩ : ∃ A, (a == 0) = A := ⟨_, rfl⟩
        have hA3 : A = true → (h.asked k == 0) = false := fun h0 => hA2 (by simpa [h0] using hAA)
        cases hdm : h.demand k with
        | false =>
          have hni : n ≤ i → ((i % 4 : Nat) : Int) ∉ e.waiting := fun hle hin => by
            rw [← (hka hle).2] at hin
            have := (inv.dem k hn4).2 hin
            rw [hdm] at this
            cases this
          clear hA hA2
          cases A with
          | false =>
            rcases hk with rfl | rfl | rfl | rfl
            all_goals (
              repeat' (first | refine ZV ?_ | refine ZB tm sp ?_ | refine ZH (fun hb => ?_) (fun hb => ?_) | refine ZJ (by conv => lhs; simp [g1, g2, hAA, hdm, hw1]) ?_ | refine ZA (fun hb => ?_) (fun hb => ?_))
              exact ⟨⟨i + 1, v, l, e, h, _, by omega, by omega, ds, inv, live_skip' inv live hni, g1', g2'⟩, by dsimp only; omega, AS.le_of rfl ⟨rfl, rfl, rfl, rfl, rfl, rfl, trivial⟩ (fun _ => rfl)⟩)
          | true =>
            have hA3 := hA3 rfl
            rcases hk with rfl | rfl | rfl | rfl
            all_goals (
              repeat' (first | refine ZV ?_ | refine ZB tm sp ?_ | refine ZH (fun hb => ?_) (fun hb => ?_) | refine ZJ (by conv => lhs; simp [g1, g2, hAA, hdm, hw1, hA3]) ?_ | refine ZA (fun hb => ?_) (fun hb => ?_))
              exact ⟨⟨i + 1, v, l, e, h, _, by omega, by omega, ds, inv, live_skip' inv live hni, g1', g2'⟩, by dsimp only; omega, AS.le_of rfl ⟨rfl, rfl, rfl, rfl, rfl, rfl, trivial⟩ (fun _ => rfl)⟩)
        | true =>
          have hwf : (Lit.int .i64 (v + 1)).wf = true := by
            simp [Lit.wf, IntKind.min, IntKind.max, IntKind.signed, IntKind.bits]
            omega
          obtain ⟨e', h', ms, s1, s2, s3, s4, s5, s6⟩ := ret_step (d := ⟨1, l, o1, o2⟩) (by decide) (by rfl) ds inv hn4 hdm (o := deO idK (v + 1) idK_wf hwf) pz_de
          have cr := retN_eq ⟨1, l, o1, o2⟩ idK k idK (v + 1) idK_wf hwf
          rw [s1] at cr
          simp only [Drs.v, rD, deC] at cr
          obtain ⟨p1, p2⟩ := ds_ok s4 s3
          have cvd := vdS_eq ⟨1, [e'], p1, p2⟩
          rw [ds_valid (by decide) (by rfl) s4 s3] at cvd
          simp only [Drs.v, List.map_cons, List.map_nil, enC] at cvd
          have ct := tkS_eq { h with mode := Dir.up h.mode k 0, demand := Dir.up h.demand k false } h' 1 idK ms
          have tok := take_ok { h with mode := Dir.up h.mode k 0, demand := Dir.up h.demand k false } h' 1 idK ms s5 s2
          simp only [mgs, hdB, hdC] at ct
          generalize tkS { h with mode := Dir.up h.mode k 0, demand := Dir.up h.demand k false } h' 1 idK ms = ST at *
          generalize (ms.map (mgM 1 idK)) = M at *
          have sp : ∀ p ∈ ([(47, ⟨1, retN⟩), (46, ⟨3, ST⟩), (48, ⟨1, vdS⟩)] : NL Spec), FnC Try.prog p.1 p.2.fn := by
            simp only [List.mem_cons, List.not_mem_nil, or_false]
            rintro p (rfl | rfl | rfl)
            · exact retN_ok
            · exact tok
            · exact vdp_ok
          have hv1 : IntKind.i64.wrap (v + 1) = v + 1 := w64 (by omega) (by omega)
          have hv2 : IntKind.i64.wrap v = v := w64 (by omega) (by omega)
          have hlr := live_ret' s3 live (fun hle => by rw [← (hka hle).2]; exact s6)
          clear hA hA2 live s6 s1 s2
          cases A with
          | false =>
            rcases hk with rfl | rfl | rfl | rfl
            all_goals (
              simp [Dir.up] at ct
              repeat' (first | refine ZV ?_ | refine ZB tm sp ?_ | refine ZH (fun hb => ?_) (fun hb => ?_) | refine ZJ (by conv => lhs; simp [g1, g2, hAA, hdm, hw1, hv1, hv2, cr, ct, cvd]) ?_ | refine ZA (fun hb => ?_) (fun hb => ?_))
              all_goals first
                | exact ⟨⟨i + 1, v, [e'], e', h', _, by omega, by omega, s4, s3, hlr, by simp [lk_st, dirB], by simp [lk_st, hdG]⟩, by dsimp only; omega, AS.le_of rfl ⟨rfl, rfl, rfl, rfl, rfl, rfl, trivial⟩ (fun _ => rfl)⟩
                | exact ⟨⟨i + 1, v + 1, [e'], e', h', _, by omega, by omega, s4, s3, hlr, by simp [lk_st, dirB], by simp [lk_st, hdG]⟩, by dsimp only; omega, AS.le_of rfl ⟨rfl, rfl, rfl, rfl, rfl, rfl, trivial⟩ (fun _ => rfl)⟩)
          | true =>
            have hA3 := hA3 rfl
            rcases hk with rfl | rfl | rfl | rfl
            all_goals (
              simp [Dir.up] at ct
              repeat' (first | refine ZV ?_ | refine ZB tm sp ?_ | refine ZH (fun hb => ?_) (fun hb => ?_) | refine ZJ (by conv => lhs; simp [g1, g2, hAA, hdm, hw1, hv1, hv2, cr, ct, cvd, hA3]) ?_ | refine ZA (fun hb => ?_) (fun hb => ?_))
              all_goals first
                | exact ⟨⟨i + 1, v, [e'], e', h', _, by omega, by omega, s4, s3, hlr, by simp [lk_st, dirB], by simp [lk_st, hdG]⟩, by dsimp only; omega, AS.le_of rfl ⟨rfl, rfl, rfl, rfl, rfl, rfl, trivial⟩ (fun _ => rfl)⟩
                | exact ⟨⟨i + 1, v + 1, [e'], e', h', _, by omega, by omega, s4, s3, hlr, by simp [lk_st, dirB], by simp [lk_st, hdG]⟩, by dsimp only; omega, AS.le_of rfl ⟨rfl, rfl, rfl, rfl, rfl, rfl, trivial⟩ (fun _ => rfl)⟩)
end Go.Abs.Na
namespace Go.Abs.Na
open Go Go.Proofs Go.Abs
set_option maxRecDepth 100000
set_option maxHeartbeats 4000000
set_option linter.unusedSimpArgs false
set_option linter.unusedVariables false
theorem shOps {x : AV} (h : TyV Try.prog 9 22 x) : ∃ l : Ops, x = .list 1 (l.1.map byte) := by
  simp only [TyV, TyR, Try.underlying22, Try.underlying5, vc5, List.cons.injEq, and_true] at h
  obtain ⟨rows, rfl, hl, h⟩ := h
  have : ∀ rows : List (List AV), (∀ row ∈ rows, ∃ m, row = [AV.int .u8 m] ∧ (Lit.int .u8 m).wf = true) → ∃ l : List UInt8, rows = l.map byte := by
    intro rows
    induction rows with
    | nil => exact fun _ => ⟨[], rfl⟩
    | cons r rs ih =>
      intro h
      obtain ⟨l, hl⟩ := ih fun row hr => h row (by simp [hr])
      obtain ⟨m, rfl, hm⟩ := h r (by simp)
      simp only [Lit.wf, Bool.and_eq_true, decide_eq_true_eq] at hm
      have h1 : (0 : Int) ≤ m := hm.1
      have h2 : m ≤ 255 := hm.2
      refine ⟨UInt8.ofNat m.toNat :: l, ?_⟩
      rw [List.map_cons, hl]
      congr 1
      simp only [byte, UInt8.toNat_ofNat', List.cons.injEq, AV.int.injEq, true_and, and_true]
      omega
  obtain ⟨l, rfl⟩ := this rows h
  exact ⟨⟨l, by simpa using hl⟩, rfl⟩
end Go.Abs.Na
