/- The call as an abstract operation. Conditions: none. -/
import Derived.Test.YtidbfifednannaaAbsI
namespace Go.Abs
open Go

def genOf (H : NL ABlk) (id : Nat) : Nat := ((lk H id).getD {}).gen + 1
def instH (base : Nat) : Nat → List ABlk → NL ABlk → NL ABlk
  | _, [], H => H
  | j, b :: r, H => instH base (j + 1) r (st H (base + j) { b with gen := genOf H (base + j) })
theorem genOf_st_other {H : NL ABlk} {i k : Nat} {b : ABlk} (h : i ≠ k) : genOf (st H i b) k = genOf H k := by
  simp [genOf, lk_st, h]
theorem lk_instH (base : Nat) : ∀ (news : List ABlk) (j : Nat) (H : NL ABlk) (id : Nat), lk (instH base j news H) id = if base + j ≤ id ∧ id < base + j + news.length then (news[id - (base + j)]?).map (fun b => { b with gen := genOf H id }) else lk H id
  | [], j, H, id => by
    simp only [instH, List.length_nil, Nat.add_zero]
    rw [if_neg (by omega)]
  | b :: r, j, H, id => by
    simp only [instH]
    rw [lk_instH base r (j + 1)]
    by_cases h1 : id = base + j
    · subst h1
      rw [if_neg (by omega), if_pos (by simp only [List.length_cons]; omega), lk_st, if_pos rfl]
      simp
    · by_cases h2 : base + (j + 1) ≤ id ∧ id < base + (j + 1) + r.length
      · rw [if_pos h2, if_pos (by simp only [List.length_cons]; omega)]
        rw [show id - (base + j) = (id - (base + (j + 1))) + 1 from by omega, List.getElem?_cons_succ, genOf_st_other (fun e => h1 e.symm)]
      · rw [if_neg h2, if_neg (by simp only [List.length_cons]; omega), lk_st, if_neg (fun e => h1 e.symm)]

def instA (base : Nat) : Nat → List ABlk → List Nat → (List Nat → AP AV) → AP AV
  | _, [], gs, k => k gs.reverse
  | j, b :: r, gs, k => .get (base + j) fun old => .put (base + j) { b with gen := old.gen + 1 } (instA base (j + 1) r ((old.gen + 1) :: gs) k)
def gensOf (base : Nat) : Nat → List ABlk → NL ABlk → List Nat
  | _, [], _ => []
  | j, b :: r, H => genOf H (base + j) :: gensOf base (j + 1) r (st H (base + j) { b with gen := genOf H (base + j) })
theorem gensOf_get (base : Nat) : ∀ (news : List ABlk) (j : Nat) (H : NL ABlk) (t : Nat), t < news.length → (gensOf base j news H)[t]? = some (genOf H (base + j + t))
  | [], _, _, _, h => by simp at h
  | b :: r, j, H, t, h => by
    cases t with
    | zero => simp [gensOf]
    | succ t =>
      simp only [gensOf, List.getElem?_cons_succ]
      rw [gensOf_get base r (j + 1) _ t (by simpa using h), genOf_st_other (by omega)]
      congr 2; omega
theorem instA_run (base : Nat) {k : List Nat → AP AV} : ∀ (news : List ABlk) (j : Nat) (gs : List Nat) (H : NL ABlk) (out : Out AV), (instA base j news gs k).run H = some out →
    ∃ o, (k (gs.reverse ++ gensOf base j news H)).run (instH base j news H) = some o ∧ out.val = o.val ∧ out.H = o.H ∧ out.as = o.as
  | [], j, gs, H, out, h => ⟨out, by simpa [gensOf, instH, instA] using h, rfl, rfl, rfl⟩
  | b :: r, j, gs, H, out, h => by
    simp only [instA, AP.run] at h
    have key : ∀ old : ABlk, old = (lk H (base + j)).getD {} → ∀ o1, (instA base (j + 1) r ((old.gen + 1) :: gs) k).run (st H (base + j) { b with gen := old.gen + 1 }) = some o1 →
        ∃ o, (k (gs.reverse ++ gensOf base j (b :: r) H)).run (instH base j (b :: r) H) = some o ∧ o1.val = o.val ∧ o1.H = o.H ∧ o1.as = o.as := by
      intro old ho o1 h1
      obtain ⟨o, q1, q2, q3, q4⟩ := instA_run base r (j + 1) _ _ o1 h1
      refine ⟨o, ?_, q2, q3, q4⟩
      have hg : old.gen + 1 = genOf H (base + j) := by rw [ho]; rfl
      rw [hg] at q1
      simpa [gensOf, instH] using q1
    cases hb : lk H (base + j) with
    | none =>
      simp only [hb] at h
      split at h
      · rename_i o2 ho2
        split at ho2
        · rename_i o1 ho1
          obtain ⟨o, q1, q2, q3, q4⟩ := key {} (by simp [hb]) o1 ho1
          simp only [Option.some.injEq] at h ho2
          subst h; subst ho2
          exact ⟨o, q1, q2, q3, q4⟩
        · cases ho2
      · cases h
    | some old =>
      simp only [hb] at h
      split at h
      · rename_i o2 ho2
        split at ho2
        · rename_i o1 ho1
          obtain ⟨o, q1, q2, q3, q4⟩ := key old (by simp [hb]) o1 ho1
          simp only [Option.some.injEq] at h ho2
          subst h; subst ho2
          exact ⟨o, q1, q2, q3, q4⟩
        · cases ho2
      · cases h

/-- How the names of a callee's new blocks are turned. -/
def newF (base : Nat) (news : List ABlk) (gs : List Nat) (i g : Nat) : Option (Nat × Nat) :=
  match news[i]?, gs[i]? with
  | some b, some g' => if b.gen = g then some (base + i, g') else none
  | _, _ => none

structure Spec where
  mode : Nat
  fn : SpecFn

def callA (specs : FuncId → Option Spec) (dst : Nat) (f : FuncId) (args : List AV) : AP AV :=
  match specs f with
  | none => .fail
  | some ⟨0, S⟩ => brwVs args fun args' => match S args' [] with
    | some (r, []) => if r.flat then .ret r else .fail
    | _ => .fail
  | some ⟨_, S⟩ => frzVs args fun args' => match S args' [] with
    | some (r, news) => if news.all (fun b => b.inl && b.kind == 2) then
        instA (newId dst) 0 news [] fun gs => .ret (r.ren (newF (newId dst) news gs))
      else .fail
    | none => .fail

/-- The call, as an action. -/
def CallAct (P : Program) (f : FuncId) (vs : Array Value) : ActW where
  f w K := Calls P f vs w fun e w' => ∃ v, e = .returned v ∧ K v w'
  mono _ _ _ h hc := hc.mono fun _ w' ⟨v, he, hk⟩ => ⟨v, he, h v w' hk⟩

def env0 (w : World) (F : Nat → Prop) : Env := ⟨w, fun _ => none, fun _ => 0, fun _ => 0, F⟩
theorem HR.env0 {w : World} {F : Nat → Prop} (h : ∀ b, F b → b < w.heap.size) : HR (env0 w F) :=
  ⟨fun _ _ h => by simp [Abs.env0] at h, fun _ _ _ _ h => by simp [Abs.env0] at h, fun _ _ h => by simp [Abs.env0] at h, h⟩

/-- The caller's store behind a call that was handed no block. -/
theorem after_call {E Ec : Env} (hr : HR E) {F0 : Nat → Prop} (hs : Step (env0 E.w F0) Ec) :
    HR ⟨Ec.w, E.H, E.φ, E.cs, E.F⟩ ∧ Step E ⟨Ec.w, E.H, E.φ, E.cs, E.F⟩ := by
  have hold : ∀ b, b < E.w.heap.size → Ec.w.heap[b]? = E.w.heap[b]? := fun b hb => hs.old b hb (fun id blk h => by simp [env0] at h)
  have hsz : E.w.heap.size ≤ Ec.w.heap.size := hs.size
  have hst : Step E ⟨Ec.w, E.H, E.φ, E.cs, E.F⟩ :=
    ⟨hsz, fun b hb _ => hold b hb, rfl, fun _ blk h => ⟨blk, h, Nat.le_refl _, fun _ _ => ⟨.inl rfl, rfl, rfl, rfl, rfl⟩⟩, fun _ blk h hk hc => .inl ⟨blk, h, hk, hc, rfl⟩, hs.kept⟩
  exact ⟨⟨fun id b hb => BlkOK.mono hst rfl rfl (fun hz hc => hold _ (hr.nf id b hb hz hc).1) (hr.blk id b hb), hr.inj, fun id b hb hz hc => ⟨Nat.lt_of_lt_of_le (hr.nf id b hb hz hc).1 hsz, (hr.nf id b hb hz hc).2⟩, fun b hf => Nat.lt_of_lt_of_le (hr.fb b hf) hsz⟩, hst⟩

/-- What a caller keeps out of a callee's reach. -/
def keepOut (E : Env) (b : Nat) : Prop := E.F b ∨ (b < E.w.heap.size ∧ ∃ id blk, E.H id = some blk ∧ 2 ≤ blk.kind ∧ 0 < E.cs id ∧ E.φ id = b)
theorem keepOut_imm {E : Env} {b : Nat} (h : E.imm b) : (env0 E.w (keepOut E)).imm b := by
  refine ⟨h.1, fun hk => ?_, fun id blk hb => by simp [env0] at hb⟩
  rcases hk with hk | ⟨_, id, blk, h1, h2, h3, h4⟩
  · exact h.2.1 hk
  · exact h.2.2 id blk h1 h2 h3 h4

theorem adopt {E Ec : Env} (hr : HR E) {H : NL ABlk} (hH : E.H = lk H) {news : List ABlk} (hn : Ec.H = fun i => news[i]?) (hc : HR Ec) (hs : Step (env0 E.w (keepOut E)) Ec) (hall : ∀ (i : Nat) (b : ABlk), news[i]? = some b → b.inl = true ∧ b.kind = 2) (base : Nat) :
    ∃ E', E'.w = Ec.w ∧ E'.H = lk (instH base 0 news H) ∧ HR E' ∧ Step E E' ∧ RenOK (newF base news (gensOf base 0 news H)) Ec E' := by
  have hold : ∀ b, b < E.w.heap.size → Ec.w.heap[b]? = E.w.heap[b]? := fun b hb => hs.old b hb (fun id blk h => by simp [env0] at h)
  have hsz : E.w.heap.size ≤ Ec.w.heap.size := hs.size
  let φ' : Nat → Nat := fun id => if base ≤ id ∧ id < base + news.length then Ec.φ (id - base) else E.φ id
  let cs' : Nat → Nat := fun id => if base ≤ id ∧ id < base + news.length then Ec.cs (id - base) else E.cs id
  have hlk : ∀ id, lk (instH base 0 news H) id = if base ≤ id ∧ id < base + news.length then (news[id - base]?).map (fun b => { b with gen := genOf H id }) else lk H id := by
    intro id; have := lk_instH base news 0 H id; simpa using this
  -- a block of the new store
  have hnew : ∀ id b, lk (instH base 0 news H) id = some b → (base ≤ id ∧ id < base + news.length ∧ ∃ b0, news[id - base]? = some b0 ∧ b = { b0 with gen := genOf H id }) ∨ (¬ (base ≤ id ∧ id < base + news.length) ∧ E.H id = some b) := by
    intro id b h
    rw [hlk] at h
    split at h
    · rename_i hin
      simp only [Option.map_eq_some_iff] at h
      obtain ⟨b0, h1, h2⟩ := h
      exact .inl ⟨hin.1, hin.2, b0, h1, h2.symm⟩
    · rename_i hin
      exact .inr ⟨hin, by rw [hH]; exact h⟩
  have hfresh : ∀ i b0, news[i]? = some b0 → 0 < Ec.cs i → E.w.heap.size ≤ Ec.φ i ∧ Ec.φ i < Ec.w.heap.size := by
    intro i b0 h hcs
    have hk := hall i b0 h
    refine ⟨?_, (hc.nf i b0 (by rw [hn]; exact h) (by omega) hcs).1⟩
    rcases hs.live i b0 (by rw [hn]; exact h) (by omega) hcs with ⟨blk, hb, _⟩ | hge
    · simp [env0] at hb
    · exact hge
  have hst : Step E ⟨Ec.w, lk (instH base 0 news H), φ', cs', E.F⟩ := by
    refine ⟨hsz, fun b hb _ => hold b hb, rfl, fun id blk hb => ?_, fun id b hb hk hcs => ?_, hs.kept⟩
    · by_cases hin : base ≤ id ∧ id < base + news.length
      · obtain ⟨b0, hb0⟩ : ∃ b0, news[id - base]? = some b0 := ⟨_, List.getElem?_eq_getElem (by omega)⟩
        have hg : genOf H id = blk.gen + 1 := by simp [genOf, ← hH, hb]
        exact ⟨{ b0 with gen := genOf H id }, by simp only; rw [hlk, if_pos hin, hb0]; rfl, by simp only; omega, fun e => by simp only at e; omega⟩
      · exact ⟨blk, by simp only; rw [hlk, if_neg hin, ← hH]; exact hb, Nat.le_refl _, fun _ _ => ⟨.inl rfl, rfl, rfl, if_neg hin, if_neg hin⟩⟩
    · rcases hnew id b hb with ⟨h1, h2, b0, h3, h4⟩ | ⟨h1, h2⟩
      · right
        have hcs' : 0 < Ec.cs (id - base) := by simpa [cs', h1, h2] using hcs
        have := (hfresh _ b0 h3 hcs').1
        simpa [φ', h1, h2] using this
      · left
        exact ⟨b, h2, hk, by simpa [cs', h1] using hcs, if_neg h1⟩
  have himm : ∀ b, Ec.imm b → (Env.mk Ec.w (lk (instH base 0 news H)) φ' cs' E.F).imm b := by
    intro b hb
    have hF : ¬ keepOut E b := by have := hb.2.1; rw [hs.fo] at this; exact this
    refine ⟨hb.1, fun hf => hF (.inl hf), fun id blk hbk hk hcs he => ?_⟩
    rcases hnew id blk hbk with ⟨h1, h2, b0, h3, h4⟩ | ⟨h1, h2⟩
    · have hcs' : 0 < Ec.cs (id - base) := by simpa [cs', h1, h2] using hcs
      have he' : Ec.φ (id - base) = b := by simpa [φ', h1, h2] using he
      exact hb.2.2 (id - base) b0 (by rw [hn]; exact h3) (by have := hall _ b0 h3; omega) hcs' he'
    · have hcs' : 0 < E.cs id := by simpa [cs', h1] using hcs
      have he' : E.φ id = b := by simpa [φ', h1] using he
      refine hF (.inr ⟨?_, id, blk, h2, hk, hcs', he'⟩)
      have := (hr.nf id blk h2 (by omega) hcs').1
      omega
  refine ⟨⟨Ec.w, lk (instH base 0 news H), φ', cs', E.F⟩, rfl, rfl, ⟨fun id b hb => ?_, fun i j bi bj hi hj ki kj ci cj hne => ?_, fun id b hb hk hcs => ?_, fun b hf => Nat.lt_of_lt_of_le (hr.fb b hf) hsz⟩, hst, ⟨rfl, himm, fun i g i' g' he blk hb hg => ?_, fun i g i' g' he => ?_⟩⟩
  · rcases hnew id b hb with ⟨h1, h2, b0, h3, rfl⟩ | ⟨h1, h2⟩
    · have hk := hall _ b0 h3
      obtain ⟨C, c1, c2, c3, c4, c5, c6⟩ := hc.cells (id := id - base) (blk := b0) (by rw [hn]; exact h3) (.inr hk.2)
      have e1 : φ' id = Ec.φ (id - base) := if_pos ⟨h1, h2⟩
      have e2 : cs' id = Ec.cs (id - base) := if_pos ⟨h1, h2⟩
      refine BlkOK.mk_cells (.inr hk.2) ⟨C, fun hp => by simp only [e1]; exact c1 (by simpa only [e2] using hp), by simp only [e2]; exact c2, c3, c4, c5, fun r row j x q1 q2 => ?_⟩
      obtain ⟨u, d1, d2, d3⟩ := c6 r row j x q1 q2
      rw [hk.1] at d3
      refine ⟨u, d1, d2, ?_⟩
      show CellR _ b0.inl x u
      rw [hk.1]
      exact RepI.mono (fun b hb => ⟨himm b hb, rfl⟩) _ _ d3
    · exact BlkOK.mono hst (if_neg h1) (if_neg h1) (fun hz hcs => hold _ (hr.nf id b h2 hz hcs).1) (hr.blk id b h2)
  · rcases hnew i bi hi with ⟨a1, a2, b0, a3, a4⟩ | ⟨a1, a2⟩ <;> rcases hnew j bj hj with ⟨d1, d2, b1, d3, d4⟩ | ⟨d1, d2⟩
    · have ci' : 0 < Ec.cs (i - base) := by simpa [cs', a1, a2] using ci
      have cj' : 0 < Ec.cs (j - base) := by simpa [cs', d1, d2] using cj
      have := hc.inj (i - base) (j - base) b0 b1 (by rw [hn]; exact a3) (by rw [hn]; exact d3) (by have := hall _ b0 a3; omega) (by have := hall _ b1 d3; omega) ci' cj' (by omega)
      simpa [φ', a1, a2, d1, d2] using this
    · have ci' : 0 < Ec.cs (i - base) := by simpa [cs', a1, a2] using ci
      have cj' : 0 < E.cs j := by simpa [cs', d1] using cj
      have h1 := (hfresh _ b0 a3 ci').1
      have h2 := (hr.nf j bj d2 kj cj').1
      have e1 : φ' i = Ec.φ (i - base) := if_pos ⟨a1, a2⟩
      have e2 : φ' j = E.φ j := if_neg d1
      simp only [e1, e2]; omega
    · have ci' : 0 < E.cs i := by simpa [cs', a1] using ci
      have cj' : 0 < Ec.cs (j - base) := by simpa [cs', d1, d2] using cj
      have h1 := (hfresh _ b1 d3 cj').1
      have h2 := (hr.nf i bi a2 ki ci').1
      have e1 : φ' j = Ec.φ (j - base) := if_pos ⟨d1, d2⟩
      have e2 : φ' i = E.φ i := if_neg a1
      simp only [e1, e2]; omega
    · have := hr.inj i j bi bj a2 d2 ki kj (by simpa [cs', a1] using ci) (by simpa [cs', d1] using cj) hne
      simpa [φ', a1, d1] using this
  · rcases hnew id b hb with ⟨h1, h2, b0, h3, h4⟩ | ⟨h1, h2⟩
    · have hcs' : 0 < Ec.cs (id - base) := by simpa [cs', h1, h2] using hcs
      have hf := hfresh _ b0 h3 hcs'
      have e1 : φ' id = Ec.φ (id - base) := if_pos ⟨h1, h2⟩
      simp only [e1]
      exact ⟨hf.2, fun h => by have := hr.fb _ h; omega⟩
    · have hcs' : 0 < E.cs id := by simpa [cs', h1] using hcs
      have := hr.nf id b h2 hk hcs'
      have e1 : φ' id = E.φ id := if_neg h1
      simp only [e1]
      exact ⟨by omega, this.2⟩
  · simp only [newF] at he
    split at he
    · rename_i b0 gg hb0 hgg
      split at he
      · simp only [Option.some.injEq, Prod.mk.injEq] at he
        obtain ⟨rfl, rfl⟩ := he
        have hlt : i < news.length := (List.getElem?_eq_some_iff.1 hb0).1
        have hin : base ≤ base + i ∧ base + i < base + news.length := by omega
        rw [hn] at hb
        simp only at hb
        rw [hb0] at hb; cases hb
        have hg2 := gensOf_get base news 0 H i hlt
        rw [hgg] at hg2
        simp only [Nat.add_zero, Option.some.injEq] at hg2
        refine ⟨{ blk with gen := genOf H (base + i) }, ?_, hg2.symm, rfl, rfl, ?_, ?_⟩
        · simp only; rw [hlk, if_pos hin]; simp [hb0]
        · simp [φ', hlt]
        · simp [cs', hlt]
      · cases he
    · cases he
  · simp only [newF] at he
    split at he
    · rename_i b0 gg hb0 hgg
      split at he
      · rename_i hgen
        exact ⟨b0, by rw [hn]; exact hb0, hgen⟩
      · cases he
    · cases he

theorem call_w {P : Program} {specs : FuncId → Option Spec} (hsp : ∀ f s, specs f = some s → FnC P f s.fn) {E : Env} {H : NL ABlk} (hH : E.H = lk H) (hr : HR E) {dst : Nat} {f : FuncId} {args : List AV} {vs : Array Value} (hx : RepL E args vs.toList) :
    SndW E H (callA specs dst f args) (CallAct P f vs) := by
  unfold callA
  split
  · exact SndW.fail
  · rename_i S hs
    have hf := hsp f _ hs
    refine brwVs_w hH hr hx fun args' hargs => ?_
    split
    · rename_i r hS
      split
      · rename_i hflat
        intro out ho
        simp only [AP.run, Option.some.injEq] at ho
        subst ho
        have hE0 : (env0 E.w (fun _ => False)).imm = E.all := by
          funext b; simp [Env.imm, env0, Env.all]
        have hargs' : RepL (env0 E.w (fun _ => False)) args' vs.toList := RepIL.rep _ _ (by rw [hE0]; exact hargs)
        have := hf.calls args' [] r [] hS (env0 E.w (fun _ => False)) vs (by funext i; simp [env0]) (HR.env0 (fun b h => h.elim)) hargs'
        refine this.mono fun e w' ⟨v, Ec, h1, h2, h3, h4, h5, h6⟩ => ⟨v, h1, trivial, ?_⟩
        obtain ⟨q1, q2⟩ := after_call hr h5
        exact ⟨⟨Ec.w, E.H, E.φ, E.cs, E.F⟩, h2, hH, q1, q2, flat_rep hflat h6⟩
      · exact SndW.fail
    · exact SndW.fail
  · rename_i S hs
    have hf := hsp f _ hs
    refine frzVs_w hH hr hx fun E1 H1 args' e1 e2 e3 e4 e5 => ?_
    split
    · rename_i r news hS
      split
      · rename_i hall
        have hall' : ∀ (i : Nat) (b : ABlk), news[i]? = some b → b.inl = true ∧ b.kind = 2 := fun i b hb => by
          have := List.all_eq_true.1 hall b (List.mem_of_getElem? hb)
          simpa using this
        intro out ho
        obtain ⟨o, q1, q2, q3, q4⟩ := instA_run _ _ _ _ _ _ ho
        simp only [AP.run, Option.some.injEq] at q1
        subst q1
        simp only at q2 q3 q4
        have hargs' : RepL (env0 E1.w (keepOut E1)) args' vs.toList := RepIL.rep _ _ (RepIL.mono (fun b hb => ⟨keepOut_imm hb, rfl⟩) _ _ e5)
        have := hf.calls args' [] r news hS (env0 E1.w (keepOut E1)) vs (by funext i; simp [env0]) (HR.env0 (fun b h => by
          rcases h with h | h
          · exact e3.fb b h
          · exact h.1)) hargs'
        refine this.mono fun e w' ⟨v, Ec, h1, h2, h3, h4, h5, h6⟩ => ⟨v, h1, by rw [q4]; trivial, ?_⟩
        obtain ⟨E', g1, g2, g3, g4, g5⟩ := adopt e3 e2 h3 h4 h5 hall' (newId dst)
        refine ⟨E', by rw [g1, h2], by rw [g2, q3], g3, g4, ?_⟩
        rw [q2]
        have := ren_rep g5 r v h6
        simpa using this
      · exact SndW.fail
    · exact SndW.fail
end Go.Abs
