/- Functions that are handed blocks and hand out new ones: from the walk to the contract. Conditions: none. -/
import Derived.Test.YtidbfifednannaaAbsQ
namespace Go.Abs
open Go

def expB2 (exp : List Nat) (H : NL ABlk) (i : Nat) : Option ABlk :=
  match lk H i with
  | some b => if b.kind = 0 then none else some (renB (expF exp H) 0 b)
  | none => none

theorem export_envB {E0 E : Env} {B0 : List ABlk} (hE0 : E0.H = fun i => B0[i]?) (hB0 : ∀ b ∈ B0, b.gen = 0) {H : NL ABlk} (hH : E.H = lk H) (hr : HR E) (hs : Step E0 E) {exp : List Nat} (hnd : exp.Nodup)
    (hfirst : ∀ i, i < B0.length → exp[i]? = some i ∧ (lk H i).map (·.gen) = some 0) {B : List ABlk} (hB : exp.map (expB2 exp H) = B.map some) :
    ∃ E', E'.w = E.w ∧ E'.H = (fun i => B[i]?) ∧ HR E' ∧ Step E0 E' ∧ RenOK (expF exp H) E E' := by
  have hlen : exp.length = B.length := by have := congrArg List.length hB; simpa using this
  have hget : ∀ (i : Nat) (b : ABlk), B[i]? = some b → ∃ (id : Nat) (b0 : ABlk), exp[i]? = some id ∧ lk H id = some b0 ∧ b0.kind ≠ 0 ∧ b = renB (expF exp H) 0 b0 := by
    intro i b hb
    have hi : i < exp.length := by rw [hlen]; exact (List.getElem?_eq_some_iff.1 hb).1
    have h1 : (exp.map (expB2 exp H))[i]? = some (some b) := by rw [hB, List.getElem?_map, hb]; rfl
    rw [List.getElem?_map, List.getElem?_eq_getElem hi, Option.map_some, Option.some.injEq] at h1
    refine ⟨exp[i], ?_⟩
    unfold expB2 at h1
    split at h1
    · rename_i b0 hb0
      split at h1
      · cases h1
      · rename_i hc
        simp only [Option.some.injEq] at h1
        exact ⟨b0, List.getElem?_eq_getElem hi, hb0, hc, h1.symm⟩
    · cases h1
  let φ' : Nat → Nat := fun i => E.φ (exp.getD i 0)
  let cs' : Nat → Nat := fun i => E.cs (exp.getD i 0)
  have hφ : ∀ (i id : Nat), exp[i]? = some id → φ' i = E.φ id ∧ cs' i = E.cs id := fun i id h => by simp [φ', cs', List.getD_eq_getElem?_getD, h]
  have himm : ∀ b, E.imm b → (Env.mk E.w (fun i => B[i]?) φ' cs' E.F).imm b := by
    intro b hb
    refine ⟨hb.1, hb.2.1, fun i blk hbk hk hc he => ?_⟩
    obtain ⟨id, b0, h1, h2, h3, rfl⟩ := hget i blk hbk
    obtain ⟨e1, e2⟩ := hφ i id h1
    exact hb.2.2 id b0 (by rw [hH]; exact h2) hk (by simpa only [e2] using hc) (by simpa only [e1] using he)
  have hren : RenOK (expF exp H) E ⟨E.w, fun i => B[i]?, φ', cs', E.F⟩ := by
    have key : ∀ i g i' g', expF exp H i g = some (i', g') → ∃ b0, lk H i = some b0 ∧ b0.gen = g ∧ g' = 0 ∧ exp[i']? = some i := by
      intro i g i' g' he
      unfold expF at he
      split at he
      · rename_i k hk
        split at he
        · rename_i b0 hb0
          split at he
          · rename_i hg
            simp only [Option.some.injEq, Prod.mk.injEq] at he
            obtain ⟨rfl, rfl⟩ := he
            refine ⟨b0, hb0, hg, rfl, ?_⟩
            rw [List.idxOf?_eq_some_iff] at hk
            obtain ⟨h1, h2, _⟩ := hk
            rw [List.getElem?_eq_getElem h1]
            simpa using h2
          · cases he
        · cases he
      · cases he
    refine ⟨rfl, himm, fun i g i' g' he blk hb hg => ?_, fun i g i' g' he => ?_⟩
    · obtain ⟨b0, h1, h2, rfl, h4⟩ := key i g i' g' he
      rw [hH] at hb
      rw [h1] at hb; cases hb
      obtain ⟨e1, e2⟩ := hφ i' i h4
      have hk : i' < B.length := by rw [← hlen]; exact (List.getElem?_eq_some_iff.1 h4).1
      obtain ⟨id, b1, k1, k2, k3, k4⟩ := hget i' _ (List.getElem?_eq_getElem hk)
      rw [h4] at k1; cases k1
      rw [h1] at k2; cases k2
      exact ⟨B[i'], List.getElem?_eq_getElem hk, by rw [k4]; rfl, by rw [k4]; rfl, by rw [k4]; rfl, e1, e2⟩
    · obtain ⟨b0, h1, h2, _⟩ := key i g i' g' he
      exact ⟨b0, by rw [hH]; exact h1, h2⟩
  refine ⟨⟨E.w, fun i => B[i]?, φ', cs', E.F⟩, rfl, rfl, ⟨fun i b hb => ?_, fun i j bi bj hi hj ki kj ci cj hne => ?_, fun i b hb hk hc => ?_, hr.fb⟩, ⟨hs.size, hs.old, hs.fo, fun id blk h => ?_, fun i b hb hk hc => ?_, hs.kept⟩, hren⟩
  · obtain ⟨id, b0, h1, h2, h3, rfl⟩ := hget i b hb
    obtain ⟨e1, e2⟩ := hφ i id h1
    exact BlkOK.ren hren e1 e2 (hr.blk id b0 (by rw [hH]; exact h2))
  · obtain ⟨id1, b1, p1, p2, p3, rfl⟩ := hget i bi hi
    obtain ⟨id2, b2, q1, q2, q3, rfl⟩ := hget j bj hj
    obtain ⟨e1, e2⟩ := hφ i id1 p1
    obtain ⟨e3, e4⟩ := hφ j id2 q1
    simp only at ci cj ⊢
    rw [e1, e3]
    refine hr.inj id1 id2 b1 b2 (by rw [hH]; exact p2) (by rw [hH]; exact q2) p3 q3 (by rw [← e2]; exact ci) (by rw [← e4]; exact cj) (fun e => hne ?_)
    subst e
    have hi' := (List.getElem?_eq_some_iff.1 p1).1
    exact (List.getElem?_inj hi' hnd).1 (by rw [p1, q1])
  · obtain ⟨id, b0, h1, h2, h3, rfl⟩ := hget i b hb
    obtain ⟨e1, e2⟩ := hφ i id h1
    simp only at hc ⊢
    rw [e1]
    exact hr.nf id b0 (by rw [hH]; exact h2) h3 (by rw [← e2]; exact hc)
  · -- a block that was handed over
    rw [hE0] at h
    simp only at h
    have hlt := (List.getElem?_eq_some_iff.1 h).1
    obtain ⟨f1, f2⟩ := hfirst id hlt
    obtain ⟨b1, q1, q2, q3⟩ := hs.ref id blk (by rw [hE0]; exact h)
    have hg : b1.gen = 0 := by rw [hH] at q1; rw [q1] at f2; simpa using f2
    have hltB : id < B.length := by rw [← hlen]; exact (List.getElem?_eq_some_iff.1 f1).1
    obtain ⟨id', b2, k1, k2, k3, k4⟩ := hget id _ (List.getElem?_eq_getElem hltB)
    rw [f1] at k1; cases k1
    rw [hH] at q1
    rw [q1] at k2; cases k2
    obtain ⟨e1, e2⟩ := hφ id id f1
    have hbg := hB0 blk (List.mem_of_getElem? h)
    refine ⟨B[id], List.getElem?_eq_getElem hltB, by rw [hbg]; exact Nat.zero_le _, fun _ hk => ?_⟩
    obtain ⟨c1, c2, c3, c4, c5⟩ := q3 (by rw [hg, hbg]) hk
    rw [k4]
    exact ⟨c1, c2, c3, e1.trans c4, e2.trans c5⟩
  · obtain ⟨id, b0, h1, h2, h3, rfl⟩ := hget i b hb
    obtain ⟨e1, e2⟩ := hφ i id h1
    simp only at hc ⊢
    rw [e1]
    rcases hs.live id b0 (by rw [hH]; exact h2) hk (by rw [← e2]; exact hc) with ⟨blk, hb0, k1, k2, k3⟩ | hge
    · left
      have hb0' := hb0
      rw [hE0] at hb0'
      simp only at hb0'
      have hlt := (List.getElem?_eq_some_iff.1 hb0').1
      obtain ⟨f1, _⟩ := hfirst id hlt
      have hi' := (List.getElem?_eq_some_iff.1 h1).1
      have : i = id := (List.getElem?_inj hi' hnd).1 (by rw [h1, f1])
      subst this
      exact ⟨blk, hb0, k1, k2, k3⟩
    · exact .inr hge

/-! ### The result -/
def frqT (fz : Bool) (x : AV) : AP AV :=
  match fz, x with
  | false, x => .ret x
  | true, .tup cs => frqVs cs fun cs' => .ret (.tup cs')
  | true, x => frqV x fun x' => .ret x'
theorem frqT_run {E : Env} {H : NL ABlk} (hH : E.H = lk H) (hr : HR E) {fz : Bool} {x : AV} {v : Value} (hx : Rep E x v) {out : Out AV} (ho : (frqT fz x).run H = some out) :
    ∃ E', E'.w = E.w ∧ E'.H = lk out.H ∧ HR E' ∧ Step E E' ∧ Rep E' out.val v := by
  have : SndW E H (frqT fz x) (PureAct v) := by
    have fin : ∀ (E1 : Env) (H1 : NL ABlk) (x' : AV), E1.H = lk H1 → HR E1 → Rep E1 x' v → SndW E1 H1 (.ret x') (PureAct v) := fun E1 H1 x' e2 e3 e5 out ho => by
      simp only [AP.run, Option.some.injEq] at ho; subst ho
      exact ⟨trivial, E1, rfl, e2, e3, Step.refl _, e5⟩
    unfold frqT
    split
    · exact fin E H _ hH hr hx
    · simp only [Rep] at hx
      obtain ⟨cs, rfl, hc⟩ := hx
      refine frqVs_w hH hr hc fun E1 H1 cs' e1 e2 e3 e4 e5 => fin E1 H1 _ e2 e3 ?_
      simp only [Rep]
      exact ⟨cs, rfl, e5⟩
    · exact frqV_w hH hr hx fun E1 H1 x' e1 e2 e3 e4 e5 => fin E1 H1 _ e2 e3 e5
  obtain ⟨_, E', h1, h2, h3, h4, h5⟩ := this out ho
  exact ⟨E', h1, h2, h3, h4, h5⟩

/-- What a walked function leaves that was handed 'k' blocks. -/
def RetB (P : Program) (fn : Func) (k : Nat) (r : AV) (B : List ABlk) (σ : AS) : Prop :=
  ∃ xs, resVs P σ fn.results.toList = some xs ∧ ∃ fz out, (frqT fz (pack xs)).run σ.heap = some out ∧ ∃ exp : List Nat, exp.Nodup ∧ (∀ i, i < k → exp[i]? = some i ∧ (lk out.H i).map (·.gen) = some 0) ∧
    exp.map (expB2 exp out.H) = B.map some ∧ r = out.val.ren (expF exp out.H)
theorem RetB.mk {P : Program} {fn : Func} {k : Nat} {r : AV} {B : List ABlk} {σ : AS} {rs : List ResultVar} {xs : List AV} (fz : Bool) (exp : List Nat) {v : AV} {H : NL ABlk} {rd wr : List Nat} {A : Prop} (h0 : fn.results.toList = rs) (h1 : resVs P σ rs = some xs)
    (h2 : (frqT fz (pack xs)).run σ.heap = some ⟨v, H, rd, wr, A⟩) (h3 : exp.Nodup) (h4 : ∀ i, i < k → exp[i]? = some i ∧ (lk H i).map (·.gen) = some 0) (h5 : exp.map (expB2 exp H) = B.map some) (h6 : v.ren (expF exp H) = r) : RetB P fn k r B σ :=
  ⟨xs, by rw [h0]; exact h1, fz, _, h2, exp, h3, h4, h5, h6.symm⟩

def init2 (fn : Func) (args : List AV) (B : List ABlk) : AS := { n := args.length + (fn.ntmps - args.length), tmps := num 0 args, heap := num 0 B }
open Classical in
noncomputable def mkS2 {α : Type} (enc : α → List AV × List ABlk) (res : α → AV × List ABlk) : SpecFn := fun args B =>
  if h : ∃ x, enc x = (args, B) then some (res h.choose) else none
theorem mkS2_eq {α : Type} {enc : α → List AV × List ABlk} {res : α → AV × List ABlk} (inj : ∀ x y, enc x = enc y → res x = res y) (x : α) : mkS2 enc res (enc x).1 (enc x).2 = some (res x) := by
  unfold mkS2
  have h : ∃ y, enc y = ((enc x).1, (enc x).2) := ⟨x, rfl⟩
  rw [dif_pos h, inj _ _ h.choose_spec]
theorem FnC.walkB {P : Program} {α : Type} {enc : α → List AV × List ABlk} {res : α → AV × List ABlk} (f : FuncId) {fn : Func} (hf : P.funcs[f]? = some fn) (hb : fn.body = some (codeOf fn)) (hname : (fn.name == "runtime.NumGoroutine") = false)
    (hg : ∀ x, ∀ b ∈ (enc x).2, b.gen = 0) (h : ∀ x, W P (RetB P fn (enc x).2.length (res x).1 (res x).2) (codeOf fn) [] (init2 fn (enc x).1 (enc x).2)) : FnC P f (mkS2 enc res) := by
  refine ⟨⟨fn, hf, hname, by simp [hb]⟩, fun args B r B' hS E vs hH hr hx => ?_⟩
  unfold mkS2 at hS
  split at hS
  · rename_i hex
    simp only [Option.some.injEq] at hS
    have hw := h hex.choose
    have hg' := hg hex.choose
    rw [hex.choose_spec, hS] at hw
    rw [hex.choose_spec] at hg'
    simp only at hw hg'
    have hsz : vs.size = args.length := by have := hx.length; simpa using this
    have hsr : SR (init2 fn args B) { tmps := vs ++ Array.replicate (fn.ntmps - vs.size) undef, defers := [] } E := by
      refine ⟨by rw [hH]; funext i; simp [init2, lk_num], hr, rfl, by simp [init2, hsz], fun t x ht => ?_⟩
      simp only [init2, lk_num, Nat.zero_le, if_true, Nat.sub_zero] at ht
      obtain ⟨v, hv, hxv⟩ := hx.get ht
      refine ⟨v, ?_, hxv⟩
      have hlt : t < vs.size := by rw [hsz]; exact (List.getElem?_eq_some_iff.1 ht).1
      rw [Array.getElem?_append_left hlt]
      simpa using hv
    refine calls_of_wp hf hb (wp_mono (hw.h.run hsr) fun e a' w' hp => ?_)
    obtain ⟨σ', E1, rfl, h1, h2, he, xs, hxs, fz, out, ho, exp, q1, q2, q3, rfl⟩ := hp
    obtain ⟨v, g1, g2⟩ := resVs_run h1 hxs
    obtain ⟨E2, k1, k2, k3, k4, k5⟩ := frqT_run h1.heap h1.hr g2 ho
    obtain ⟨E3, m1, m2, m3, m4, m5⟩ := export_envB hH hg' k2 k3 (h2.trans k4) q1 q2 q3
    have hfinal : bodyPost P fn (fun e w' => ∃ v E', e = .returned v ∧ E'.w = w' ∧ E'.H = (fun i => B'[i]?) ∧ HR E' ∧ Step E E' ∧ Rep E' (out.val.ren (expF exp out.H)) v) .ret a' E1.w :=
      ⟨h1.defers, v, g1, v, E3, rfl, m1.trans k1, m2, m3, m4, ren_rep m5 _ _ k5⟩
    rcases he with rfl | rfl
    · exact hfinal
    · exact hfinal
  · cases hS

/-! ### Contracts that tell a property of what comes back -/
theorem FnC.existsB {P : Program} {α : Type} {enc : α → List AV × List ABlk} {Pp : α → AV × List ABlk → Prop} (f : FuncId) {fn : Func} (hf : P.funcs[f]? = some fn) (hb : fn.body = some (codeOf fn)) (hname : (fn.name == "runtime.NumGoroutine") = false)
    (hg : ∀ x, ∀ b ∈ (enc x).2, b.gen = 0) (inj : ∀ x y, enc x = enc y → x = y) (hne : ∀ x, ∃ r, Pp x r)
    (h : ∀ x, W P (fun σ => ∃ r, Pp x r ∧ RetB P fn (enc x).2.length r.1 r.2 σ) (codeOf fn) [] (init2 fn (enc x).1 (enc x).2)) : ∃ S, FnC P f S ∧ ∀ x, ∃ r, S (enc x).1 (enc x).2 = some r ∧ Pp x r := by
  have key : ∀ x, ∃ r, Pp x r ∧ W P (RetB P fn (enc x).2.length r.1 r.2) (codeOf fn) [] (init2 fn (enc x).1 (enc x).2) := by
    intro x
    by_cases hs : ∃ a E, SR (init2 fn (enc x).1 (enc x).2) a E
    · obtain ⟨e, τ, ⟨hen, r, hp, hr⟩, hx⟩ := (h x).h hs
      exact ⟨r, hp, ⟨fun _ => ⟨e, τ, ⟨hen, hr⟩, hx⟩⟩⟩
    · obtain ⟨r, hr⟩ := hne x
      exact ⟨r, hr, ⟨fun h => absurd h hs⟩⟩
  exact ⟨mkS2 enc fun x => (key x).choose, FnC.walkB f hf hb hname hg fun x => (key x).choose_spec.2, fun x => ⟨_, mkS2_eq (fun x y h => by rw [inj x y h]) x, (key x).choose_spec.1⟩⟩
theorem FnC.existsA {P : Program} {α : Type} {enc : α → List AV} {Pp : α → AV × List ABlk → Prop} (f : FuncId) {fn : Func} (hf : P.funcs[f]? = some fn) (hb : fn.body = some (codeOf fn)) (hname : (fn.name == "runtime.NumGoroutine") = false)
    (inj : ∀ x y, enc x = enc y → x = y) (hne : ∀ x, ∃ r, Pp x r)
    (h : ∀ x, W P (fun σ => ∃ r, Pp x r ∧ Ret P fn r.1 r.2 σ) (codeOf fn) [] (init fn (enc x))) : ∃ S, FnC P f S ∧ ∀ x, ∃ r, S (enc x) [] = some r ∧ Pp x r := by
  have key : ∀ x, ∃ r, Pp x r ∧ W P (Ret P fn r.1 r.2) (codeOf fn) [] (init fn (enc x)) := by
    intro x
    by_cases hs : ∃ a E, SR (init fn (enc x)) a E
    · obtain ⟨e, τ, ⟨hen, r, hp, hr⟩, hx⟩ := (h x).h hs
      exact ⟨r, hp, ⟨fun _ => ⟨e, τ, ⟨hen, hr⟩, hx⟩⟩⟩
    · obtain ⟨r, hr⟩ := hne x
      exact ⟨r, hr, ⟨fun h => absurd h hs⟩⟩
  exact ⟨mkS enc fun x => (key x).choose, FnC.walk f hf hb hname fun x => (key x).choose_spec.2, fun x => ⟨_, mkS_eq (fun x y h => by rw [inj x y h]) x, (key x).choose_spec.1⟩⟩
end Go.Abs
