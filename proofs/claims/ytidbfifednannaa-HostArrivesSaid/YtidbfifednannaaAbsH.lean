/- Comparing structs and nil, and every operation but calls in one table. Conditions: none. -/
import Derived.Test.YtidbfifednannaaAbsGo
import Derived.ChangeKeysEq
namespace Go.Abs
open Go

/-! ### Comparing -/
def partV (P : Program) (t : TypeId) (cells : List AV) (off : Nat) : Option AV :=
  match aggT P t with
  | some true => match szOf P t with
    | some s => some (.agg ((cells.drop off).take s))
    | none => none
  | some false => cells[off]?
  | none => none
def eqFs (P : Program) (q : TypeId → AV → AV → Option Bool) (xs ys : List AV) : List Field → Option Bool
  | [] => some true
  | f :: r => if f.name = "_" then eqFs P q xs ys r else
    match partV P f.type xs f.offset, partV P f.type ys f.offset with
    | some a, some b => match q f.type a b, eqFs P q xs ys r with
      | some x, some y => some (x && y)
      | _, _ => none
    | _, _ => none
def eqIs (P : Program) (q : TypeId → AV → AV → Option Bool) (e : TypeId) (c : Nat) (xs ys : List AV) : List Nat → Option Bool
  | [] => some true
  | i :: r =>
    match partV P e xs (i * c), partV P e ys (i * c) with
    | some a, some b => match q e a b, eqIs P q e c xs ys r with
      | some x, some y => some (x && y)
      | _, _ => none
    | _, _ => none
def eqV (P : Program) : Nat → TypeId → AV → AV → Option Bool
  | 0, _, _, _ => none
  | d + 1, t, x, y =>
    match P.underlying t, x, y with
    | some .bool, .bool a, .bool b => some (a == b)
    | some (.int _), .int k a, .int k' b => if k = k' then some (a == b) else none
    | some .string, .str a, .str b => some (a.toList == b.toList)
    | some (.struct fs), .agg xs, .agg ys => if P.stoodInHeld t = false then eqFs P (eqV P d) xs ys fs.toList else none
    | some (.array n e), .agg xs, .agg ys => if (P.info? e).isSome then eqIs P (eqV P d) e (P.cellsOf e) xs ys (List.range n) else none
    | _, _, _ => none

theorem partV_run {P : Program} {E : Env} {t : TypeId} {cells : List AV} {cs : Array Value} {off : Nat} {x : AV} (hx : RepL E cells cs.toList) (h : partV P t cells off = some x) :
    ∃ v, (∀ w, (part t cs off).run P w = .ok v w) ∧ Rep E x v := by
  unfold partV at h
  cases ha : aggT P t with
  | none => simp [ha] at h
  | some b =>
    cases b with
    | true =>
      cases hs : szOf P t with
      | none => simp [ha, hs] at h
      | some s =>
        simp only [ha, hs, Option.some.injEq] at h
        subst h
        refine ⟨.agg (cs.extract off (off + s)), fun w => ?_, ?_⟩
        · simp [part, run_isAgg' ha, run_sizeOf' hs]
        · simp only [Rep]
          refine ⟨_, rfl, ?_⟩
          rw [Array.toList_extract, List.extract_eq_take_drop, show off + s - off = s from by omega]
          exact (hx.drop off).take s
    | false =>
      simp only [ha] at h
      obtain ⟨v, hv, hr'⟩ := hx.get h
      have hv' : cs[off]? = some v := by simpa using hv
      exact ⟨v, fun w => by simp [part, run_isAgg' ha, hv'], hr'⟩

theorem eqFs_run {P : Program} {E : Env} {q : TypeId → AV → AV → Option Bool} {d : Nat} (hq : ∀ (t : TypeId) (x y : AV) (v u : Value) (b : Bool), q t x y = some b → Rep E x v → Rep E y u → ∀ w, (Op.equalIn d t v u).run P w = .ok b w)
    {xs ys : List AV} {vs us : Array Value} (hx : RepL E xs vs.toList) (hy : RepL E ys us.toList) : ∀ {fs : List Field} {b : Bool}, eqFs P q xs ys fs = some b → ∀ w, (Op.eqFields d vs us fs).run P w = .ok b w
  | [], b, h, w => by simp only [eqFs, Option.some.injEq] at h; subst h; simp [Op.eqFields]
  | f :: r, b, h, w => by
    simp only [eqFs] at h
    split at h
    · rename_i hn
      simp only [Op.eqFields, hn, ne_eq, not_true_eq_false, if_false]
      exact eqFs_run hq hx hy h w
    · rename_i hn
      split at h
      · rename_i a c ha hc
        obtain ⟨va, ra, xa⟩ := partV_run hx ha
        obtain ⟨vc, rc, xc⟩ := partV_run hy hc
        split at h
        · rename_i b1 b2 e1 e2
          simp only [Option.some.injEq] at h
          subst h
          have hr := eqFs_run hq hx hy e2
          simp only [Op.eqFields, ne_eq, hn, not_false_eq_true, if_true, Sem.run_bind, ra, rc, Result.andThen_ok, hq _ _ _ _ _ _ e1 xa xc w]
          cases b1
          · simp
          · simpa using hr w
        · cases h
      · cases h
theorem eqIs_run {P : Program} {E : Env} {q : TypeId → AV → AV → Option Bool} {d : Nat} (hq : ∀ (t : TypeId) (x y : AV) (v u : Value) (b : Bool), q t x y = some b → Rep E x v → Rep E y u → ∀ w, (Op.equalIn d t v u).run P w = .ok b w)
    {e : TypeId} {c : Nat} {xs ys : List AV} {vs us : Array Value} (hx : RepL E xs vs.toList) (hy : RepL E ys us.toList) : ∀ {is : List Nat} {b : Bool}, eqIs P q e c xs ys is = some b → ∀ w, (Op.eqItems d e c vs us is).run P w = .ok b w
  | [], b, h, w => by simp only [eqIs, Option.some.injEq] at h; subst h; simp [Op.eqItems]
  | i :: r, b, h, w => by
    simp only [eqIs] at h
    split at h
    · rename_i a c' ha hc
      obtain ⟨va, ra, xa⟩ := partV_run hx ha
      obtain ⟨vc, rc, xc⟩ := partV_run hy hc
      split at h
      · rename_i b1 b2 e1 e2
        simp only [Option.some.injEq] at h
        subst h
        have hr := eqIs_run hq hx hy e2
        simp only [Op.eqItems, Sem.run_bind, ra, rc, Result.andThen_ok, hq _ _ _ _ _ _ e1 xa xc w]
        cases b1
        · simp
        · simpa using hr w
      · cases h
    · cases h
theorem eqV_run {P : Program} {E : Env} : ∀ {d : Nat} (m : Nat), d ≤ m → ∀ (t : TypeId) (x y : AV) (v u : Value) (b : Bool), eqV P d t x y = some b → Rep E x v → Rep E y u → ∀ w, (Op.equalIn m t v u).run P w = .ok b w
  | 0, _, _, _, _, _, _, _, _, h, _, _, _ => by simp [eqV] at h
  | d + 1, 0, hm, _, _, _, _, _, _, _, _, _, _ => by omega
  | d + 1, m + 1, hm, t, x, y, v, u, b, h, hx, hy, w => by
    simp only [eqV] at h
    split at h
    · rename_i hu
      simp only [Rep] at hx hy; subst hx; subst hy
      simp only [Option.some.injEq] at h; subst h
      exact run_equalIn_bool' w m t _ _ hu
    · rename_i hu
      simp only [Rep] at hx hy; subst hx; subst hy
      split at h
      · rename_i hk; subst hk
        simp only [Option.some.injEq] at h; subst h
        exact run_equalIn_int w m t _ _ _ _ hu
      · cases h
    · rename_i hu
      simp only [Rep] at hx hy; subst hx; subst hy
      simp only [Option.some.injEq] at h; subst h
      exact run_equalIn_string w m t _ _ hu
    · rename_i fs xs ys hu
      simp only [Rep] at hx hy
      obtain ⟨vs, rfl, hvx⟩ := hx
      obtain ⟨us, rfl, hvy⟩ := hy
      split at h
      · rename_i hp
        have hf : P.fieldsOf t = fs := by simp [Program.fieldsOf, hu]
        rw [run_equalIn_struct w m t vs us (by rw [hf]; exact hu) hp, hf]
        exact eqFs_run (fun t x y v u b h1 h2 h3 w => eqV_run m (by omega) t x y v u b h1 h2 h3 w) hvx hvy h w
      · cases h
    · rename_i n e xs ys hu
      simp only [Rep] at hx hy
      obtain ⟨vs, rfl, hvx⟩ := hx
      obtain ⟨us, rfl, hvy⟩ := hy
      split at h
      · rename_i hi
        obtain ⟨i, hi⟩ := Option.isSome_iff_exists.1 hi
        rw [run_equalIn_array w m vs us hu hi]
        exact eqIs_run (fun t x y v u b h1 h2 h3 w => eqV_run m (by omega) t x y v u b h1 h2 h3 w) hvx hvy h w
      · cases h
    · cases h

def isNil : AV → Option Bool
  | .nils | .nilp | .nilf | .nilm => some true
  | .sl _ _ _ (_ + 1) | .ptr _ _ _ _ | .cptr _ | .fn _ _ _ | .amap _ _ => some false
  | .list _ (_ :: _) => some false
  | _ => none
/-- '==' and '!=' where one side is a nil that the text names, or both are structs, arrays or truth values. -/
def eqlA (P : Program) (op : BinOp) (t : TypeId) (x y : AV) : AP AV :=
  match op with
  | .eql => match x, y with
    | .bool a, .bool b => match P.underlying t with
      | some .bool => .ret (.bool (a == b))
      | _ => .fail
    | .agg xs, .agg ys => if P.eqGuardType P.depth t = false then match eqV P 9 t (.agg xs) (.agg ys) with
        | some b => .ret (.bool b)
        | none => .fail
      else .fail
    | x, y => nilA P false t x y
  | .neq => match x, y with
    | .bool a, .bool b => match P.underlying t with
      | some .bool => .ret (.bool (!(a == b)))
      | _ => .fail
    | .agg xs, .agg ys => if P.eqGuardType P.depth t = false then match eqV P 9 t (.agg xs) (.agg ys) with
        | some b => .ret (.bool (!b))
        | none => .fail
      else .fail
    | x, y => nilA P true t x y
  | _ => .fail
theorem eql_snd {P : Program} {E : Env} {H : NL ABlk} (hH : E.H = lk H) (hr : HR E) {op : BinOp} {t : TypeId} {ox oy : Operand} {x y : AV} {v u : Value} (hx : Rep E x v) (hy : Rep E y u) :
    Snd P E H (eqlA P op t x y) (do eqGuard op t ox oy v u; binOp op t v u) := by
  unfold eqlA
  split
  · split
    · rename_i a b
      simp only [Rep] at hx hy; subst hx; subst hy
      split
      · rename_i hu
        refine Snd.retBool hH hr ?_
        have := run_equalIn_bool' (P := P) E.w 9999 t a b hu
        simp [eqGuard_at_bool, binOp, Op.equal, Op.maxDepth, this]
      · exact Snd.fail
    · rename_i xs ys
      split
      · rename_i hgd
        cases he : eqV P 9 t (.agg xs) (.agg ys) with
        | none => exact Snd.fail
        | some b =>
          have hrun := eqV_run (P := P) (E := E) (d := 9) 10000 (by omega) t _ _ v u b he hx hy E.w
          simp only [Rep] at hx hy
          obtain ⟨vs, rfl, _⟩ := hx
          obtain ⟨us, rfl, _⟩ := hy
          refine Snd.retBool hH hr ?_
          simp only [Sem.run_bind, run_eqGuard_agg E.w .eql t ox oy vs us hgd, Result.andThen_ok, run_eql_struct, hrun]
      · exact Snd.fail
    · exact (nil_snd hH hr hx hy).1
  · split
    · rename_i a b
      simp only [Rep] at hx hy; subst hx; subst hy
      split
      · rename_i hu
        refine Snd.retBool hH hr ?_
        have := run_equalIn_bool' (P := P) E.w 9999 t a b hu
        simp [eqGuard_at_bool, binOp, Op.equal, Op.maxDepth, this]
      · exact Snd.fail
    · rename_i xs ys
      split
      · rename_i hgd
        cases he : eqV P 9 t (.agg xs) (.agg ys) with
        | none => exact Snd.fail
        | some b =>
          have hrun := eqV_run (P := P) (E := E) (d := 9) 10000 (by omega) t _ _ v u b he hx hy E.w
          simp only [Rep] at hx hy
          obtain ⟨vs, rfl, _⟩ := hx
          obtain ⟨us, rfl, _⟩ := hy
          refine Snd.retBool hH hr ?_
          simp only [Sem.run_bind, run_eqGuard_agg E.w .neq t ox oy vs us hgd, Result.andThen_ok, run_neq_struct, hrun]
      · exact Snd.fail
    · exact (nil_snd hH hr hx hy).2
  · exact Snd.fail

/-! ### The table -/
def binA (P : Program) (op : BinOp) (t : TypeId) (x y : AV) : AP AV :=
  match x, y with
  | .int _ _, .int _ _ => binOpA op x y
  | .str _, .str _ => binOpA op x y
  | _, _ => eqlA P op t x y
theorem bin_snd {P : Program} {E : Env} {H : NL ABlk} (hH : E.H = lk H) (hr : HR E) {op : BinOp} {t : TypeId} {ox oy : Operand} {x y : AV} {v u : Value} (hx : Rep E x v) (hy : Rep E y u) :
    Snd P E H (binA P op t x y) (do eqGuard op t ox oy v u; binOp op t v u) := by
  unfold binA
  split
  · exact binOp_snd hH hr hx hy
  · exact binOp_snd hH hr hx hy
  · exact eql_snd hH hr hx hy

def pickA (c a b : AV) : AP AV :=
  match c with
  | .bool true => .ret a
  | .bool false => .ret b
  | _ => .fail
def nilCheckA (x : AV) : AP AV :=
  match x with
  | .ptr _ _ _ _ | .cptr _ => .ret x
  | .fn (.func _) _ _ => .ret x
  | _ => .fail

/-- The less or the greater one of two integers. -/
def mmA (mx : Bool) (xs : List AV) : AP AV :=
  match xs with
  | [.int k x, .int _ y] => .ret (.int k (if mx then (if y > x then y else x) else (if y < x then y else x)))
  | _ => .fail
theorem mm_snd {P : Program} {E : Env} {H : NL ABlk} (hH : E.H = lk H) (hr : HR E) {mx : Bool} {ts : Array TypeId} {ty : TypeId} {xs : List AV} {vs : Array Value} (hx : RepL E xs vs.toList) :
    Snd P E H (mmA mx xs) (if mx then Builtin.max_ ts ty vs else Builtin.min_ ts ty vs) := by
  unfold mmA
  split
  · rename_i k x k' y
    simp only [RepL, Rep] at hx
    obtain ⟨_, _, hv, rfl, _, _, rfl, rfl, rfl⟩ := hx
    have ea : vs = #[.int k x, .int k' y] := Array.ext' hv
    refine Snd.ret hH hr (v := .int k (if mx then (if y > x then y else x) else (if y < x then y else x))) ?_ (by simp only [Rep])
    subst ea
    cases mx <;> simp [Builtin.max_, Builtin.min_, Builtin.max2, Builtin.min2]
  · exact Snd.fail

/-- A cut of an array that lies in a block. -/
def sliceArrA (P : Program) (t : TypeId) (x : AV) (lo hi : Option AV) : AP AV :=
  match P.underlying t, x with
  | some (.array n elem), .ptr id g r o => match bndA 0 lo, bndA n hi, szOf P elem with
    | some l, some h, some s => if l < h ∧ h ≤ n then .ret (.psl id g r (o + l * s) (h - l)) else .fail
    | _, _, _ => .fail
  | _, .slc i g o l c => sliceCA P t (.slc i g o l c) lo hi
  | _, _ => sliceA P t x lo hi
theorem sliceArr_snd {P : Program} {E : Env} {H : NL ABlk} (hH : E.H = lk H) (hr : HR E) {t : TypeId} {x : AV} {v : Value} {lo hi : Option AV} {vlo vhi : Option Value} (hx : Rep E x v) (h1 : RepO E lo vlo) (h2 : RepO E hi vhi) :
    Snd P E H (sliceArrA P t x lo hi) (Instr.sliceAt t v vlo vhi none) := by
  unfold sliceArrA
  split
  · rename_i n elem id g r o hu
    split
    · rename_i l h s e1 e2 e3
      split
      · rename_i hc
        obtain ⟨g1, g2⟩ := hc
        obtain ⟨a, rfl, hp⟩ := ptr_add (k := l * s) hx
        have hb := bounds_run (P := P) (isSlice := false) (len := n) (cap := n) h1 h2 e1 e2 (by omega) g2
        refine Snd.ret hH hr (v := .slice (some (a.add (l * s))) (h - l) (n - l)) ?_ ?_
        · have : ¬ (n = l) := by omega
          simp [Instr.sliceAt, run_underlying' hu, Instr.sureAddr, hb, run_sizeOf' e3, this]
        · simp only [Rep] at hp ⊢
          obtain ⟨blk, a', q1, q2, q3, q4⟩ := hp
          simp only [Value.pointer.injEq, Option.some.injEq] at q3
          exact ⟨blk, _, _, q1, q2, rfl, fun e => by rw [q3]; exact q4 e⟩
      · exact Snd.fail
    · exact Snd.fail
  · exact sliceC_snd hH hr hx h1 h2
  · exact slice_snd hH hr hx h1 h2
def arrayAtA (P : Program) (t : TypeId) (x : AV) : AP AV :=
  match P.underlying t, x with
  | some (.array n _), .psl id g r o len => if n ≤ len then .ret (.ptr id g r o) else .fail
  | _, _ => .fail
theorem arrayAt_snd {P : Program} {E : Env} {H : NL ABlk} (hH : E.H = lk H) (hr : HR E) {t : TypeId} {x : AV} {v : Value} (hx : Rep E x v) :
    Snd P E H (arrayAtA P t x) (Instr.arrayAt t v) := by
  unfold arrayAtA
  split
  · rename_i n elem id g r o len hu
    split
    · rename_i hn
      simp only [Rep] at hx
      obtain ⟨blk, a, cap, q1, q2, rfl, q4⟩ := hx
      refine Snd.ret hH hr (v := .pointer (some a)) ?_ ?_
      · have : ¬ len < n := by omega
        simp [Instr.arrayAt, run_underlying' hu, this]
      · simp only [Rep]
        exact ⟨blk, a, q1, q2, rfl, q4⟩
    · exact Snd.fail
  · exact Snd.fail

def builtinA (P : Program) (dst : Nat) (b : Builtin) (ts : List TypeId) (xs : List AV) : AP AV :=
  match b with
  | .len => match ts, xs with
    | [t], [x] => lenXA P t x
    | _, _ => .fail
  | .append => match ts, xs with
    | [t, t'], [s, x] => appendSA P dst t t' s x
    | _, _ => .fail
  | .clear => match ts, xs with
    | [t], [x] => clearA P t x
    | _, _ => .fail
  | .cap => match ts, xs with
    | [t], [x] => capA P t x
    | _, _ => .fail
  | .copy => match ts, xs with
    | [t, _], [d, s] => copyA P t d s
    | _, _ => .fail
  | .min => mmA false xs
  | .max => mmA true xs
  | _ => .fail

def opA (P : Program) (ρ : Operand → AV) (dst : Nat) (op : Op) : AP AV :=
  match op with
  | .move x | .assign x => .ret (ρ x)
  | .pick c a b => pickA (ρ c) (ρ a) (ρ b)
  | .alloc elem => allocA P elem dst
  | .box elem x => boxA elem dst (ρ x)
  | .build t parts => buildA P t (parts.toList.map fun p => (p.1, ρ p.2))
  | .buildSlice t len parts => buildSliceA P dst t len (parts.toList.map fun p => (p.1, ρ p.2))
  | .load t a => loadA P t (ρ a)
  | .store t a x => storeA P t (ρ a) (ρ x)
  | .nilCheck x => nilCheckA (ρ x)
  | .binOp op xType x y _ => binA P op xType (ρ x) (ρ y)
  | .unOp op _ x => unOpA op (ρ x)
  | .convert src dst x => convertA P src dst (ρ x)
  | .makeFunc fn first captured => .ret (.fn fn (first.toList.map ρ) (captured.toList.map ρ))
  | .makeSlice t l c => makeSliceA P dst t (ρ l) (ρ c)
  | .slice t x lo hi none => sliceArrA P t (ρ x) (lo.map ρ) (hi.map ρ)
  | .slice t x lo hi (some m) => slice3A P t (ρ x) (lo.map ρ) (hi.map ρ) (ρ m)
  | .fieldAddr s x f => fieldAddrA P s f (ρ x)
  | .field t x f => fieldA P t f (ρ x)
  | .indexAddr t x ix => indexAddrA P t (ρ x) (ρ ix)
  | .index t x ix => indexA P t (ρ x) (ρ ix)
  | .extract t ix => extractA (ρ t) ix
  | .makeMap _ r => makeMapA dst (r.map ρ)
  | .lookup t m x ok => lookupA P t (ρ m) (ρ x) ok
  | .sliceToArrayPointer t x => arrayAtA P t (ρ x)
  | .mapUpdate t m x v | .insert t m x v => mapUpdateA P t (ρ m) (ρ x) (ρ v)
  | .call c => match c.callee with
    | .builtin b => builtinA P dst b c.argTypes.toList (c.args.toList.map ρ)
    | _ => .fail
  | _ => .fail

/-- One operation in the abstract frame: what its run owes. -/
def SndN (P : Program) (E : Env) (H : NL ABlk) (p : AP AV) (c : Sem Next) : Prop :=
  ∀ out, p.run H = some out → ∃ v E' n, c.run P E.w = .ok n E'.w ∧ (n = .value v ∨ n = .skip ∧ v = undef) ∧ E'.H = lk out.H ∧ HR E' ∧ Step E E' ∧ Rep E' out.val v ∧ out.as
theorem Snd.next {P : Program} {E : Env} {H : NL ABlk} {p : AP AV} {c : Sem Value} (h : Snd P E H p c) : SndN P E H p (do pure (.value (← c))) := fun out ho => by
  obtain ⟨v, E', h1, h2⟩ := h out ho
  exact ⟨v, E', .value v, by simp [h1], .inl rfl, h2⟩
theorem Snd.skip {P : Program} {E : Env} {H : NL ABlk} {p : AP AV} {c : Sem Unit} (h : Snd P E H p (do c; pure undef)) : SndN P E H p (do c; pure .skip) := fun out ho => by
  obtain ⟨v, E', h1, h2⟩ := h out ho
  simp only [Sem.run_bind, Sem.run_pure] at h1
  cases hc : c.run P E.w with
  | ok a w =>
    simp only [hc, Result.andThen_ok, Result.ok.injEq] at h1
    obtain ⟨rfl, rfl⟩ := h1
    exact ⟨undef, E', .skip, by simp [hc], .inr ⟨rfl, rfl⟩, h2⟩
  | halt x w => simp [hc] at h1

theorem op_snd {P : Program} {E : Env} {H : NL ABlk} (hH : E.H = lk H) (hr : HR E) {ρA : Operand → AV} {ρ : Operand → Value} {o : Oper} {dst : Nat}
    (hρ : ∀ x, Rep E (ρA x) (ρ x)) : SndN P E H (opA P ρA dst o.op) (execOp ρ o) := by
  obtain ⟨d, op, type, pos, after, guard⟩ := o
  have parts : ∀ (ps : Array (Nat × Operand)) (k i : Nat) (x : AV), (ps.toList.map fun p => (p.1, ρA p.2))[k]? = some (i, x) → ∃ v, (ps.map fun (p : Nat × Operand) => (p.1, ρ p.2)).toList[k]? = some (i, v) ∧ Rep E x v := by
    intro ps k i x h
    simp only [List.getElem?_map, Option.map_eq_some_iff] at h
    obtain ⟨p, hp, he⟩ := h
    simp only [Prod.mk.injEq] at he
    obtain ⟨rfl, rfl⟩ := he
    exact ⟨ρ p.2, by rw [Array.toList_map, List.getElem?_map, hp]; rfl, hρ _⟩
  have hopt : ∀ o : Option Operand, RepO E (o.map ρA) (o.map ρ) := by
    intro o; cases o with
    | none => trivial
    | some x => exact hρ x
  have fail : ∀ c, SndN P E H .fail c := fun c out h => by simp [AP.run] at h
  cases op with
  | move x => exact Snd.next (c := pure (ρ x)) (Snd.ret hH hr (v := ρ x) rfl (hρ x))
  | assign x => exact Snd.next (c := pure (ρ x)) (Snd.ret hH hr (v := ρ x) rfl (hρ x))
  | pick c a b =>
    simp only [opA, pickA]
    have hc := hρ c
    split
    · rename_i e
      rw [e] at hc; simp only [Rep] at hc
      intro out ho
      simp only [AP.run, Option.some.injEq] at ho; subst ho
      exact ⟨ρ a, E, .value (ρ a), by simp [execOp, hc, asBool], .inl rfl, hH, hr, Step.refl E, hρ a, trivial⟩
    · rename_i e
      rw [e] at hc; simp only [Rep] at hc
      intro out ho
      simp only [AP.run, Option.some.injEq] at ho; subst ho
      exact ⟨ρ b, E, .value (ρ b), by simp [execOp, hc, asBool], .inl rfl, hH, hr, Step.refl E, hρ b, trivial⟩
    · exact fail _
  | alloc elem => exact Snd.next (alloc_snd hH hr)
  | box elem x => exact Snd.next (box_snd hH hr (hρ x))
  | build t ps => exact Snd.next (build_snd hH hr (by simp) (parts ps))
  | buildSlice t len ps => exact Snd.next (buildSlice_snd hH hr (by simp) (parts ps))
  | load t a => exact Snd.next (load_snd hH hr (hρ a))
  | store t a x => exact Snd.skip (store_snd hH hr (hρ a) (hρ x))
  | nilCheck x =>
    simp only [opA, nilCheckA]
    have hx := hρ x
    split
    · rename_i e
      have hx' := hx
      rw [e] at hx'; simp only [Rep] at hx'
      obtain ⟨_, a, _, _, hv, _⟩ := hx'
      intro out ho
      simp only [AP.run, Option.some.injEq] at ho; subst ho
      exact ⟨ρ x, E, .value (ρ x), by simp [execOp, hv], .inl rfl, hH, hr, Step.refl E, hx, trivial⟩
    · rename_i e
      have hx' := hx
      rw [e] at hx'; simp only [Rep, RepI] at hx'
      obtain ⟨_, _, hv, _⟩ := hx'
      intro out ho
      simp only [AP.run, Option.some.injEq] at ho; subst ho
      exact ⟨ρ x, E, .value (ρ x), by simp [execOp, hv], .inl rfl, hH, hr, Step.refl E, hx, trivial⟩
    · rename_i e
      have hx' := hx
      rw [e] at hx'; simp only [Rep] at hx'
      obtain ⟨_, _, hv, _⟩ := hx'
      intro out ho
      simp only [AP.run, Option.some.injEq] at ho; subst ho
      exact ⟨ρ x, E, .value (ρ x), by simp [execOp, hv], .inl rfl, hH, hr, Step.refl E, hx, trivial⟩
    · exact fail _
  | binOp op xt x y yt => exact Snd.next (bin_snd hH hr (hρ x) (hρ y))
  | unOp op xt x => exact Snd.next (unOp_snd hH hr (hρ x))
  | convert src dst x => exact Snd.next (convert_snd hH hr (hρ x))
  | makeFunc fn first captured =>
    have hl : ∀ a : Array Operand, RepL E (a.toList.map ρA) (a.map ρ).toList := fun a =>
      RepL.of_get (by simp) fun i x h => by
        simp only [List.getElem?_map, Option.map_eq_some_iff] at h
        obtain ⟨p, hp, rfl⟩ := h
        exact ⟨ρ p, by rw [Array.toList_map, List.getElem?_map, hp]; rfl, hρ p⟩
    refine Snd.next (Snd.ret hH hr (v := .func fn (first.map ρ) (captured.map ρ)) (by simp [Instr.makeFunc]) ?_)
    simp only [Rep]
    exact ⟨_, _, rfl, hl first, hl captured⟩
  | makeSlice t l c => exact Snd.next (makeSlice_snd hH hr (hρ l) (hρ c))
  | slice t x lo hi mx =>
    cases mx with
    | none => exact Snd.next (sliceArr_snd hH hr (hρ x) (hopt lo) (hopt hi))
    | some m => exact Snd.next (slice3_snd hH hr (hρ x) (hopt lo) (hopt hi) (hρ m))
  | fieldAddr s x f => exact Snd.next (fieldAddr_snd hH hr (hρ x))
  | field t x f => exact Snd.next (field_snd hH hr (hρ x))
  | indexAddr t x ix => exact Snd.next (indexAddr_snd hH hr (hρ x) (hρ ix))
  | index t x ix => exact Snd.next (index_snd hH hr (hρ x) (hρ ix))
  | extract t ix => exact Snd.next (extract_snd hH hr (hρ t))
  | makeMap t r =>
    cases r with
    | none => exact Snd.next (makeMap_snd hH hr)
    | some r => exact fail _
  | lookup t m x ok => exact Snd.next (lookup_snd hH hr (hρ m) (hρ x))
  | sliceToArrayPointer t x => exact Snd.next (arrayAt_snd hH hr (hρ x))
  | insert t m x v => exact Snd.skip (mapUpdate_snd hH hr (hρ m) (hρ x) (hρ v))
  | mapUpdate t m x v => exact Snd.skip (mapUpdate_snd hH hr (hρ m) (hρ x) (hρ v))
  | call c =>
    obtain ⟨callee, args, ts⟩ := c
    have hargs : RepL E (args.toList.map ρA) (args.map ρ).toList := RepL.of_get (by simp) fun i x h => by
      simp only [List.getElem?_map, Option.map_eq_some_iff] at h
      obtain ⟨p, hp, rfl⟩ := h
      exact ⟨ρ p, by rw [Array.toList_map, List.getElem?_map, hp]; rfl, hρ p⟩
    cases callee with
    | builtin b =>
      simp only [opA, builtinA]
      cases b <;> dsimp only <;> first
        | exact fail _
        | skip
      case append =>
        split
        · rename_i t t' s x e1 e2
          rw [e2] at hargs
          simp only [RepL] at hargs
          obtain ⟨v, _, hv, hs, u, _, rfl, hx, rfl⟩ := hargs
          have ea : args.map ρ = #[v, u] := Array.ext' hv
          have et : ts = #[t, t'] := Array.ext' e1
          have := (appendS_snd (P := P) hH hr (dst := dst) (t := t) (t' := t') (ty := type) hs hx).next
          simpa [execOp, resolve, invoke, builtin, ea, et] using this
        · exact fail _
      case min =>
        have := (mm_snd (P := P) hH hr (mx := false) (ts := ts) (ty := type) hargs).next
        simpa [execOp, resolve, invoke, builtin] using this
      case max =>
        have := (mm_snd (P := P) hH hr (mx := true) (ts := ts) (ty := type) hargs).next
        simpa [execOp, resolve, invoke, builtin] using this
      case len =>
        split
        · rename_i t x e1 e2
          rw [e2] at hargs
          simp only [RepL] at hargs
          obtain ⟨v, _, hv, hx, rfl⟩ := hargs
          have ea : args.map ρ = #[v] := Array.ext' hv
          have et : ts = #[t] := Array.ext' e1
          have := (lenX_snd (P := P) hH hr (t := t) (ty := type) hx).next
          simpa [execOp, resolve, invoke, builtin, ea, et] using this
        · exact fail _
      case clear =>
        split
        · rename_i t x e1 e2
          rw [e2] at hargs
          simp only [RepL] at hargs
          obtain ⟨v, _, hv, hx, rfl⟩ := hargs
          have ea : args.map ρ = #[v] := Array.ext' hv
          have et : ts = #[t] := Array.ext' e1
          have := (clear_snd (P := P) hH hr (t := t) (ty := type) hx).next
          simpa [execOp, resolve, invoke, builtin, ea, et] using this
        · exact fail _
      case cap =>
        split
        · rename_i t x e1 e2
          rw [e2] at hargs
          simp only [RepL] at hargs
          obtain ⟨v, _, hv, hx, rfl⟩ := hargs
          have ea : args.map ρ = #[v] := Array.ext' hv
          have et : ts = #[t] := Array.ext' e1
          have := (cap_snd (P := P) hH hr (t := t) (ty := type) hx).next
          simpa [execOp, resolve, invoke, builtin, ea, et] using this
        · exact fail _
      case copy =>
        split
        · rename_i t t' s x e1 e2
          rw [e2] at hargs
          simp only [RepL] at hargs
          obtain ⟨v, _, hv, hs, u, _, rfl, hx, rfl⟩ := hargs
          have ea : args.map ρ = #[v, u] := Array.ext' hv
          have et : ts = #[t, t'] := Array.ext' e1
          have := (copy_snd (P := P) hH hr (t := t) (t' := t') (ty := type) hs hx).next
          simpa [execOp, resolve, invoke, builtin, ea, et] using this
        · exact fail _
    | _ => exact fail _
  | _ => exact fail _
end Go.Abs
