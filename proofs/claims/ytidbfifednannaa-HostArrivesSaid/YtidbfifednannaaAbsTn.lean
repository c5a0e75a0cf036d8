/- Functions whose blocks are in other places when they return: what they leave. Conditions: none. -/
import Derived.Test.YtidbfifednannaaAbsT
namespace Go.Abs
open Go
set_option linter.unusedSimpArgs false
set_option linter.unusedVariables false

def expG (exp gs : List Nat) (H : NL ABlk) (i g : Nat) : Option (Nat × Nat) :=
  match exp.idxOf? i with
  | some k => match lk H i with
    | some b => if b.gen = g then some (k, gs.getD k 0) else none
    | none => none
  | none => none
def expB3 (exp gs : List Nat) (H : NL ABlk) (i g : Nat) : Option ABlk :=
  match lk H i with
  | some b => if b.kind = 0 then none else some (renB (expG exp gs H) g b)
  | none => none

theorem export_envM {E0 E : Env} {B0 : List ABlk} (hE0 : E0.H = fun i => B0[i]?) (hB0 : ∀ b ∈ B0, b.gen = 0) {H : NL ABlk} (hH : E.H = lk H) (hr : HR E) (hs : Step E0 E) {exp gs : List Nat} (hnd : exp.Nodup) (hgl : gs.length = exp.length)
    (hfirst : ∀ i, i < B0.length → gs[i]? = some 0 ∧ exp[i]? = some i ∧ (lk H i).map (·.gen) = some 0 ∨ gs[i]? = some 1)
    (hold : ∀ i id, exp[i]? = some id → id < B0.length → i = id) {B : List ABlk} (hB : exp.zipWith (expB3 exp gs H) gs = B.map some) :
    ∃ E', E'.w = E.w ∧ E'.H = (fun i => B[i]?) ∧ HR E' ∧ Step E0 E' ∧ RenOK (expG exp gs H) E E' := by
  have hlen : exp.length = B.length := by have := congrArg List.length hB; simpa [hgl] using this
  have hget : ∀ (i : Nat) (b : ABlk), B[i]? = some b → ∃ (id : Nat) (b0 : ABlk), exp[i]? = some id ∧ lk H id = some b0 ∧ b0.kind ≠ 0 ∧ b = renB (expG exp gs H) (gs.getD i 0) b0 := by
    intro i b hb
    have hi : i < exp.length := by rw [hlen]; exact (List.getElem?_eq_some_iff.1 hb).1
    have hi' : i < gs.length := by omega
    have h1 : (exp.zipWith (expB3 exp gs H) gs)[i]? = some (some b) := by rw [hB, List.getElem?_map, hb]; rfl
    rw [List.getElem?_zipWith, List.getElem?_eq_getElem hi, List.getElem?_eq_getElem hi'] at h1
    simp only [Option.some.injEq] at h1
    have hgd : gs.getD i 0 = gs[i] := by simp [List.getD_eq_getElem?_getD, hi']
    refine ⟨exp[i], ?_⟩
    rw [hgd]
    unfold expB3 at h1
    split at h1
    · rename_i b0 hb0
      split at h1
      · cases h1
      · rename_i hc
        simp only [Option.some.injEq] at h1
        exact ⟨b0, List.getElem?_eq_getElem hi, hb0, hc, h1.symm⟩
    · cases h1
  let φ' : Nat → Nat := fun i => E.φ (exp.getD i 0)
  let cs' : Nat → Nat := fun i => E.cs (exp.getD i 0)
  have hφ : ∀ (i id : Nat), exp[i]? = some id → φ' i = E.φ id ∧ cs' i = E.cs id := fun i id h => by simp [φ', cs', List.getD_eq_getElem?_getD, h]
  have himm : ∀ b, E.imm b → (Env.mk E.w (fun i => B[i]?) φ' cs' E.F).imm b := by
    intro b hb
    refine ⟨hb.1, hb.2.1, fun i blk hbk hk hc he => ?_⟩
    obtain ⟨id, b0, h1, h2, h3, rfl⟩ := hget i blk hbk
    obtain ⟨e1, e2⟩ := hφ i id h1
    exact hb.2.2 id b0 (by rw [hH]; exact h2) hk (by simpa only [e2] using hc) (by simpa only [e1] using he)
  have hren : RenOK (expG exp gs H) E ⟨E.w, fun i => B[i]?, φ', cs', E.F⟩ := by
    have key : ∀ i g i' g', expG exp gs H i g = some (i', g') → ∃ b0, lk H i = some b0 ∧ b0.gen = g ∧ g' = gs.getD i' 0 ∧ exp[i']? = some i := by
      intro i g i' g' he
      unfold expG at he
      split at he
      · rename_i k hk
        split at he
        · rename_i b0 hb0
          split at he
          · rename_i hg
            simp only [Option.some.injEq, Prod.mk.injEq] at he
            obtain ⟨rfl, rfl⟩ := he
            refine ⟨b0, hb0, hg, rfl, ?_⟩
            rw [List.idxOf?_eq_some_iff] at hk
            obtain ⟨h1, h2, _⟩ := hk
            rw [List.getElem?_eq_getElem h1]
            simpa using h2
          · cases he
        · cases he
      · cases he
    refine ⟨rfl, himm, fun i g i' g' he blk hb hg => ?_, fun i g i' g' he => ?_⟩
    · obtain ⟨b0, h1, h2, rfl, h4⟩ := key i g i' g' he
      rw [hH] at hb
      rw [h1] at hb; cases hb
      obtain ⟨e1, e2⟩ := hφ i' i h4
      have hk : i' < B.length := by rw [← hlen]; exact (List.getElem?_eq_some_iff.1 h4).1
      obtain ⟨id, b1, k1, k2, k3, k4⟩ := hget i' _ (List.getElem?_eq_getElem hk)
      rw [h4] at k1; cases k1
      rw [h1] at k2; cases k2
      exact ⟨B[i'], List.getElem?_eq_getElem hk, by rw [k4]; rfl, by rw [k4]; rfl, by rw [k4]; rfl, e1, e2⟩
    · obtain ⟨b0, h1, h2, _⟩ := key i g i' g' he
      exact ⟨b0, by rw [hH]; exact h1, h2⟩
  refine ⟨⟨E.w, fun i => B[i]?, φ', cs', E.F⟩, rfl, rfl, ⟨fun i b hb => ?_, fun i j bi bj hi hj ki kj ci cj hne => ?_, fun i b hb hk hc => ?_, hr.fb⟩, ⟨hs.size, hs.old, hs.fo, fun id blk h => ?_, fun i b hb hk hc => ?_, hs.kept⟩, hren⟩
  · obtain ⟨id, b0, h1, h2, h3, rfl⟩ := hget i b hb
    obtain ⟨e1, e2⟩ := hφ i id h1
    exact BlkOK.ren hren e1 e2 (hr.blk id b0 (by rw [hH]; exact h2))
  · obtain ⟨id1, b1, p1, p2, p3, rfl⟩ := hget i bi hi
    obtain ⟨id2, b2, q1, q2, q3, rfl⟩ := hget j bj hj
    obtain ⟨e1, e2⟩ := hφ i id1 p1
    obtain ⟨e3, e4⟩ := hφ j id2 q1
    simp only at ci cj ⊢
    rw [e1, e3]
    refine hr.inj id1 id2 b1 b2 (by rw [hH]; exact p2) (by rw [hH]; exact q2) p3 q3 (by rw [← e2]; exact ci) (by rw [← e4]; exact cj) (fun e => hne ?_)
    subst e
    have hi' := (List.getElem?_eq_some_iff.1 p1).1
    exact (List.getElem?_inj hi' hnd).1 (by rw [p1, q1])
  · obtain ⟨id, b0, h1, h2, h3, rfl⟩ := hget i b hb
    obtain ⟨e1, e2⟩ := hφ i id h1
    simp only at hc ⊢
    rw [e1]
    exact hr.nf id b0 (by rw [hH]; exact h2) h3 (by rw [← e2]; exact hc)
  · -- a block that was handed over
    rw [hE0] at h
    simp only at h
    have hlt := (List.getElem?_eq_some_iff.1 h).1
    have hbg := hB0 blk (List.mem_of_getElem? h)
    rcases hfirst id hlt with ⟨f0, f1, f2⟩ | f0
    · obtain ⟨b1, q1, q2, q3⟩ := hs.ref id blk (by rw [hE0]; exact h)
      have hg : b1.gen = 0 := by rw [hH] at q1; rw [q1] at f2; simpa using f2
      have hltB : id < B.length := by rw [← hlen]; exact (List.getElem?_eq_some_iff.1 f1).1
      obtain ⟨id', b2, k1, k2, k3, k4⟩ := hget id _ (List.getElem?_eq_getElem hltB)
      rw [f1] at k1; cases k1
      rw [hH] at q1
      rw [q1] at k2; cases k2
      obtain ⟨e1, e2⟩ := hφ id id f1
      refine ⟨B[id], List.getElem?_eq_getElem hltB, by rw [hbg]; exact Nat.zero_le _, fun _ hk => ?_⟩
      obtain ⟨c1, c2, c3, c4, c5⟩ := q3 (by rw [hg, hbg]) hk
      rw [k4]
      exact ⟨c1, c2, c3, e1.trans c4, e2.trans c5⟩
    · have hltB : id < B.length := by rw [← hlen, ← hgl]; exact (List.getElem?_eq_some_iff.1 f0).1
      obtain ⟨id', b2, k1, k2, k3, k4⟩ := hget id _ (List.getElem?_eq_getElem hltB)
      refine ⟨B[id], List.getElem?_eq_getElem hltB, by rw [hbg]; exact Nat.zero_le _, fun he _ => ?_⟩
      rw [k4, hbg] at he
      simp only [renB, List.getD_eq_getElem?_getD, f0, Option.getD_some] at he
      cases he
  · obtain ⟨id, b0, h1, h2, h3, rfl⟩ := hget i b hb
    obtain ⟨e1, e2⟩ := hφ i id h1
    simp only at hc ⊢
    rw [e1]
    rcases hs.live id b0 (by rw [hH]; exact h2) hk (by rw [← e2]; exact hc) with ⟨blk, hb0, k1, k2, k3⟩ | hge
    · left
      have hb0' := hb0
      rw [hE0] at hb0'
      simp only at hb0'
      have hlt := (List.getElem?_eq_some_iff.1 hb0').1
      have : i = id := hold i id h1 hlt
      subst this
      exact ⟨blk, hb0, k1, k2, k3⟩
    · exact .inr hge


/-- What a walked function leaves that was handed 'k' blocks, of which some may have moved. -/
def RetM (P : Program) (fn : Func) (k : Nat) (r : AV) (B : List ABlk) (σ : AS) : Prop :=
  ∃ xs, resVs P σ fn.results.toList = some xs ∧ ∃ fz out, (frqT fz (pack xs)).run σ.heap = some out ∧ ∃ exp gs : List Nat, exp.Nodup ∧ gs.length = exp.length ∧
    (∀ i, i < k → gs[i]? = some 0 ∧ exp[i]? = some i ∧ (lk out.H i).map (·.gen) = some 0 ∨ gs[i]? = some 1) ∧ (∀ i id, exp[i]? = some id → id < k → i = id) ∧
    exp.zipWith (expB3 exp gs out.H) gs = B.map some ∧ r = out.val.ren (expG exp gs out.H)
theorem RetM.mk {P : Program} {fn : Func} {k : Nat} {r : AV} {B : List ABlk} {σ : AS} {rs : List ResultVar} {xs : List AV} (fz : Bool) (exp gs : List Nat) {v : AV} {H : NL ABlk} {rd wr : List Nat} {A : Prop} (h0 : fn.results.toList = rs) (h1 : resVs P σ rs = some xs)
    (h2 : (frqT fz (pack xs)).run σ.heap = some ⟨v, H, rd, wr, A⟩) (h3 : exp.Nodup) (h3' : gs.length = exp.length) (h4 : ∀ i, i < k → gs[i]? = some 0 ∧ exp[i]? = some i ∧ (lk H i).map (·.gen) = some 0 ∨ gs[i]? = some 1)
    (h4' : ∀ i id, exp[i]? = some id → id < k → i = id) (h5 : exp.zipWith (expB3 exp gs H) gs = B.map some) (h6 : v.ren (expG exp gs H) = r) : RetM P fn k r B σ :=
  ⟨xs, by rw [h0]; exact h1, fz, _, h2, exp, gs, h3, h3', h4, h4', h5, h6.symm⟩
def movedOK (k : Nat) (exp gs : List Nat) (H : NL ABlk) : Bool := (List.range k).all fun i => (gs[i]? == some 0 && exp[i]? == some i && (lk H i).map (·.gen) == some 0) || gs[i]? == some 1
def oldOK (k : Nat) : Nat → List Nat → Bool
  | _, [] => true
  | i, id :: r => (decide (k ≤ id) || id == i) && oldOK k (i + 1) r
theorem oldOK_get (k : Nat) : ∀ (l : List Nat) (n : Nat), oldOK k n l = true → ∀ i id, l[i]? = some id → id < k → n + i = id
  | [], _, _, i, id, h, _ => by simp at h
  | x :: r, n, ho, i, id, h, hk => by
    simp only [oldOK, Bool.and_eq_true, Bool.or_eq_true, decide_eq_true_eq, beq_iff_eq] at ho
    cases i with
    | zero =>
      simp only [List.getElem?_cons_zero, Option.some.injEq] at h
      omega
    | succ i =>
      have := oldOK_get k r (n + 1) ho.2 i id (by simpa using h) hk
      omega
def retM2 (P : Program) (fn : Func) (k : Nat) (fz : Bool) (exp gs : List Nat) (σ : AS) : Option (AV × List (Option ABlk)) :=
  match resVs P σ fn.results.toList with
  | some xs => match (frqT fz (pack xs)).run σ.heap with
    | some out => if decide exp.Nodup && gs.length == exp.length && movedOK k exp gs out.H && oldOK k 0 exp then some (out.val.ren (expG exp gs out.H), exp.zipWith (expB3 exp gs out.H) gs) else none
    | none => none
  | none => none
theorem retM2_ok {P : Program} {fn : Func} {k : Nat} {r : AV} {B : List ABlk} {σ : AS} (fz : Bool) (exp gs : List Nat) (h : retM2 P fn k fz exp gs σ = some (r, B.map some)) : RetM P fn k r B σ := by
  unfold retM2 at h
  split at h
  · rename_i xs hxs
    split at h
    · rename_i out ho
      split at h
      · rename_i hc
        simp only [Bool.and_eq_true, decide_eq_true_eq, beq_iff_eq] at hc
        obtain ⟨⟨⟨c1, c2⟩, c3⟩, c4⟩ := hc
        simp only [Option.some.injEq, Prod.mk.injEq] at h
        refine ⟨xs, hxs, fz, out, ho, exp, gs, c1, c2, fun i hi => ?_, fun i id he hid => ?_, h.2, h.1.symm⟩
        · have := List.all_eq_true.1 c3 i (List.mem_range.2 hi)
          simpa [and_assoc] using this
        · have := oldOK_get k exp 0 c4 i id he hid
          omega
      · cases h
    · cases h
  · cases h
end Go.Abs
