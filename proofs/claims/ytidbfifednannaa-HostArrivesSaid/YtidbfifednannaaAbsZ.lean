/- From a law's contract in the abstract frame to what its statement asks. Conditions: parameters of plain data, no listed variables. -/
import Derived.Test.YtidbfifednannaaAbsY
import Derived.ProofKit
namespace Go.Abs
open Go Go.ChangeShapes Go.WideShapes Go.ChangeAt Go.RowKit

/-- A value of a type of plain data. -/
def TyV (P : Program) (n : Nat) (t : TypeId) (x : AV) : Prop :=
  match P.underlying t with
  | some (.struct _) | some (.array _ _) => ∃ cs, x = .agg cs ∧ TyR P n t cs
  | _ => TyR P n t [x]
theorem Trod_rep {H : Type} {enc : TypeId × Value → H} {P : Program} {w : World} {base b0 : Nat} {spare : Nat → Bool} {held : Bool} {r : Reach} {n : Nat} {t : TypeId} {v : Value} {d : DataW H} {ps : List MemPlace} (hp : plainT P n t = true)
    (hv : Value.okWide P w r b0 t v) (h : DataW.Trod enc P w base spare held t v d ps) : ∃ x, TyV P n t x ∧ RepI w (fun b => b < w.heap.size) x v := by
  obtain ⟨fuel, hf⟩ := h
  obtain ⟨h1, xs, h2, h3⟩ := trod_rep n t fuel _ _ hp hf
  unfold TyV
  have one : (∀ cs, v ≠ .agg cs) → ∃ x, xs = [x] ∧ RepI w (fun b => b < w.heap.size) x v := by
    intro hne
    have hc : v.cells.toList = [v] := by
      cases v with
      | agg cs => exact absurd rfl (hne cs)
      | _ => rfl
    rw [hc] at h3
    match xs, h3 with
    | [x], h3 =>
      simp only [RepIL] at h3
      obtain ⟨v', vs', he, hx, _⟩ := h3
      simp only [List.cons.injEq] at he
      obtain ⟨rfl, _⟩ := he
      exact ⟨x, rfl, hx⟩
    | [], h3 => simp [RepIL] at h3
    | _ :: _ :: _, h3 =>
      have := h3.len
      simp at this
  have hv0 := hv
  unfold Value.okWide at hv
  cases n with
  | zero => simp [plainT] at hp
  | succ n =>
    have hp' := hp
    unfold plainT at hp'
    split at hp'
    all_goals
      rename_i hu
      simp only [hu] at hv ⊢
    case h_5 =>
      obtain ⟨cs, rfl, _⟩ := hv
      exact ⟨.agg xs, ⟨xs, rfl, h2⟩, by simp only [RepI]; exact ⟨cs, rfl, by simpa [Value.cells] using h3⟩⟩
    case h_6 =>
      obtain ⟨cs, rfl, _⟩ := hv
      exact ⟨.agg xs, ⟨xs, rfl, h2⟩, by simp only [RepI]; exact ⟨cs, rfl, by simpa [Value.cells] using h3⟩⟩
    case h_1 =>
      obtain ⟨b, rfl⟩ := okWide_bool hu hv0
      obtain ⟨x, rfl, hx⟩ := one (fun cs h => by cases h)
      exact ⟨x, h2, hx⟩
    case h_2 =>
      obtain ⟨b, rfl⟩ := okWide_int hu hv0
      obtain ⟨x, rfl, hx⟩ := one (fun cs h => by cases h)
      exact ⟨x, h2, hx⟩
    case h_3 =>
      obtain ⟨b, rfl⟩ := okWide_string hu hv0
      obtain ⟨x, rfl, hx⟩ := one (fun cs h => by cases h)
      exact ⟨x, h2, hx⟩
    case h_4 =>
      obtain ⟨a0, len, cap, rfl⟩ := okWide_slice hu hv0
      obtain ⟨x, rfl, hx⟩ := one (fun cs h => by cases h)
      exact ⟨x, h2, hx⟩
    case h_7 => cases hp'

theorem TrodAll_rep {H : Type} {enc : TypeId × Value → H} {P : Program} {w : World} {base b0 : Nat} {spare : Nat → Bool} {held : Bool} {r : Reach} {n : Nat} : ∀ (ts : List TypeId) (vs : List Value) (ds : List (DataW H)) (ps : List MemPlace), (∀ t ∈ ts, plainT P n t = true) →
    (∀ (j : Nat) t v, ts[j]? = some t → vs[j]? = some v → Value.okWide P w r b0 t v) → DataW.TrodAll enc P w base spare held ts vs ds ps → ∃ xs, TyFs (fun t ys => ∃ x, ys = [x] ∧ TyV P n t x) ts xs ∧ RepIL w (fun b => b < w.heap.size) xs vs
  | [], [], [], _, _, _, _ => ⟨[], rfl, by simp [RepIL]⟩
  | t :: ts, v :: vs, d :: ds, ps, hp, hv, ⟨p, q, h1, h2, _⟩ => by
    obtain ⟨x, h3, h4⟩ := Trod_rep (hp t (by simp)) (hv 0 t v rfl rfl) h1
    obtain ⟨xs, h5, h6⟩ := TrodAll_rep ts vs ds q (fun t ht => hp t (by simp [ht])) (fun j t v h1 h2 => hv (j + 1) t v (by simpa using h1) (by simpa using h2)) h2
    exact ⟨x :: xs, ⟨[x], xs, rfl, ⟨x, rfl, h3⟩, h5⟩, by simp only [RepIL]; exact ⟨v, vs, rfl, h4, h6⟩⟩
theorem TrodAll_stays {H : Type} {enc : TypeId × Value → H} {P : Program} (hl : laidOutB P = true) {W W' : World} (hb : Below W.heap.size W W') {sp : Nat → Bool} : ∀ (ts : List TypeId) (vs : List Value) (ds : List (DataW H)) (ps : List MemPlace),
    (∀ t ∈ ts, P.readableRec t = true ∧ t < P.types.size) → (∀ p ∈ ps, p.block < W.heap.size ∧ sp p.block = true) → DataW.TrodAll enc P W 0 (fun _ => true) true ts vs ds ps → DataW.TrodAll enc P W' 0 sp true ts vs ds ps
  | [], [], [], _, _, _, h => h
  | t :: ts, v :: vs, d :: ds, ps, ht, hp, ⟨p, q, h1, h2, e⟩ =>
    ⟨p, q, WideElems.Trod_stays hl (ht t (by simp)).1 (ht t (by simp)).2 h1 (fun x hx => hb.same (hp x (by rw [e]; exact List.mem_append_left _ hx)).1) (fun x hx => (hp x (by rw [e]; exact List.mem_append_left _ hx)).2),
      TrodAll_stays hl hb ts vs ds q (fun t h => ht t (by simp [h])) (fun x hx => hp x (by rw [e]; exact List.mem_append_right _ hx)) h2, e⟩

theorem TrodAll_len {H : Type} {enc : TypeId × Value → H} {P : Program} {w : World} {base : Nat} {spare : Nat → Bool} {held : Bool} : ∀ (ts : List TypeId) (vs : List Value) (ds : List (DataW H)) (ps : List MemPlace), DataW.TrodAll enc P w base spare held ts vs ds ps → ds.length = ts.length
  | [], [], [], _, _ => rfl
  | _ :: ts, _ :: vs, _ :: ds, _, ⟨_, q, _, h2, _⟩ => by simp [TrodAll_len ts vs ds q h2]

theorem law_calls {P : Program} {f : FuncId} {fn : Func} {S : SpecFn} (hf : FnC P f S) {H : Type} {enc : TypeId × Value → H} {W : World} {args : Array Value} {ds gs : List (DataW H)} {before : List MemPlace} {s : ChangeSpec} {apart fresh handsOn again : Bool}
    (hl : laidOutB P = true) (hr : ∀ t ∈ fn.params.toList, P.readableRec t = true ∧ t < P.types.size) {tb : TypeId} (hrt : fn.resultTypes = #[tb]) (htb : P.underlying tb = some .bool)
    (hvars : s.vars = []) (hspec : ∀ ds, ds.length = fn.params.size → s.fn H ds = { results := [.lit (.bool true)], args := ds })
    (hW : DataW.Whole enc P fn.params.toList s.vars apart W args.toList ds gs before)
    {xs : List AV} (hx : RepIL W (fun b => b < W.heap.size) xs args.toList) (hS : S xs [] = some (.bool true, [])) :
    Calls P f args W fun e W' => ∃ v, e = .returned v ∧ s.post enc P fn apart fresh handsOn again W args v W' := by
  have hE0 : (env0 W (fun _ => False)).imm = fun b => b < W.heap.size := by
    funext b; simp [Env.imm, env0]
  have hargs : RepL (env0 W (fun _ => False)) xs args.toList := RepIL.rep _ _ (by rw [hE0]; exact hx)
  refine (hf.calls xs [] (.bool true) [] hS (env0 W (fun _ => False)) args (by funext i; simp [env0]) (HR.env0 (fun b h => h.elim)) hargs).mono fun e w' ⟨v, E', h1, h2, h3, h4, h5, h6⟩ => ⟨v, h1, ?_⟩
  subst h2
  simp only [Rep] at h6
  subst h6
  have hb : Below W.heap.size W E'.w := ⟨h5.kept.os, h5.kept.tape, h5.kept.output, h5.size, fun k hk => h5.old k hk (fun id blk h => by simp [env0] at h)⟩
  have hW' := hW
  obtain ⟨p, q, hA, hV, rfl, hfz, hnd⟩ := hW
  rw [hvars] at hV
  obtain ⟨rfl, rfl⟩ := trodVars_none hV
  have hlen : ds.length = fn.params.size := by rw [TrodAll_len _ _ _ _ hA, Array.length_toList]
  have hs := hspec ds hlen
  refine post_of_same (pa := p) (pv := []) hW' (fun b sp hd => ?_) (fun sp hsp => ?_) (fun sp hsp => ?_) rfl (hb.frame _) h5.kept.fr (ok_one hrt rfl (okWide_bool_mk htb true))
  · rw [List.append_nil, hs, hrt]
    exact trodAll_mk1 (shut_bool htb true)
  · rw [List.append_nil, hs]
    exact TrodAll_stays hl hb _ _ _ _ hr (fun x hx => ⟨hW'.lt x (by simp [hx]), hsp x (by simp [hx])⟩) hA
  · rw [List.append_nil, hs, hvars]
    rfl
end Go.Abs
