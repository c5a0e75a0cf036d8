/- Walks with a list of what is still to be done, so that goals stay small. Conditions: none. -/
import Derived.Test.YtidbfifednannaaAbsO
namespace Go.Abs
open Go

inductive Fr where
  | seq (c : Code)
  | blk (id : Nat)
  | loop (back : AS → Prop)
def post (P : Program) (Q : AS → Prop) : List Fr → Exit → AS → Prop
  | [], e, σ => (e = .normal ∨ e = .ret) ∧ Q σ
  | .seq y :: fs, e, σ => match e with
    | .normal => WP P y (post P Q fs) σ
    | e => post P Q fs e σ
  | .blk id :: fs, e, σ => match e with
    | .exit i => if i = id then post P Q fs .normal σ else post P Q fs (.exit i) σ
    | e => post P Q fs e σ
  | .loop b :: fs, e, σ => match e with
    | .normal => b σ
    | e => post P Q fs e σ
/-- Walk the code, then what is to be done. -/
structure W (P : Program) (Q : AS → Prop) (c : Code) (fs : List Fr) (σ : AS) : Prop where
  h : WP P c (post P Q fs) σ
/-- Do what is still to be done. -/
structure N (P : Program) (Q : AS → Prop) (fs : List Fr) (σ : AS) : Prop where
  h : post P Q fs .normal σ
/-- Leave towards a block. -/
structure X (P : Program) (Q : AS → Prop) (i : Nat) (fs : List Fr) (σ : AS) : Prop where
  h : post P Q fs (.exit i) σ

variable {P : Program} {Q : AS → Prop}
theorem post_ret : ∀ (fs : List Fr) (σ : AS), Q σ → post P Q fs .ret σ
  | [], _, h => ⟨.inr rfl, h⟩
  | .seq _ :: fs, σ, h => post_ret fs σ h
  | .blk _ :: fs, σ, h => post_ret fs σ h
  | .loop _ :: fs, σ, h => post_ret fs σ h
theorem N.nil {σ : AS} (h : Q σ) : N P Q [] σ := ⟨.inl rfl, h⟩
theorem N.seq {y : Code} {fs : List Fr} {σ : AS} (h : W P Q y fs σ) : N P Q (.seq y :: fs) σ := ⟨h.h⟩
theorem N.blk {id : Nat} {fs : List Fr} {σ : AS} (h : N P Q fs σ) : N P Q (.blk id :: fs) σ := ⟨h.h⟩
theorem N.loop {b : AS → Prop} {fs : List Fr} {σ : AS} (h : b σ) : N P Q (.loop b :: fs) σ := ⟨h⟩
theorem X.seq {i : Nat} {y : Code} {fs : List Fr} {σ : AS} (h : X P Q i fs σ) : X P Q i (.seq y :: fs) σ := ⟨h.h⟩
theorem X.loop {i : Nat} {b : AS → Prop} {fs : List Fr} {σ : AS} (h : X P Q i fs σ) : X P Q i (.loop b :: fs) σ := ⟨h.h⟩
theorem X.hit {i : Nat} {fs : List Fr} {σ : AS} (h : N P Q fs σ) : X P Q i (.blk i :: fs) σ := by
  refine ⟨?_⟩
  simp only [post, if_true]
  exact h.h
theorem X.pass {i j : Nat} {fs : List Fr} {σ : AS} (hne : i ≠ j) (h : X P Q i fs σ) : X P Q i (.blk j :: fs) σ := by
  refine ⟨?_⟩
  simp only [post, if_neg hne]
  exact h.h
theorem W.seq {c : Code} {fs : List Fr} {σ : AS} (hc : c = .seq (cL c) (cR c)) (h : W P Q (cL c) (.seq (cR c) :: fs) σ) : W P Q c fs σ := by
  refine ⟨?_⟩
  rw [hc]
  exact WP.seq (h.h.mono fun e σ h => by cases e <;> exact h)
theorem W.block {c : Code} {fs : List Fr} {σ : AS} {id : Nat} (hc : c = .block id (cL c)) (h : W P Q (cL c) (.blk id :: fs) σ) : W P Q c fs σ := by
  refine ⟨?_⟩
  rw [hc]
  exact WP.block (h.h.mono fun e σ h => by cases e <;> exact h)
theorem W.skip {c : Code} {fs : List Fr} {σ : AS} (hc : c = .skip) (h : N P Q fs σ) : W P Q c fs σ := by
  refine ⟨?_⟩
  rw [hc]
  exact WP.skip h.h
theorem W.exit {c : Code} {fs : List Fr} {σ : AS} {i : Nat} (hc : c = .exit i) (h : X P Q i fs σ) : W P Q c fs σ := by
  refine ⟨?_⟩
  rw [hc]
  exact WP.exit h.h
theorem W.ret {c : Code} {fs : List Fr} {σ : AS} (hc : c = .ret) (h : Q σ) : W P Q c fs σ := by
  refine ⟨?_⟩
  rw [hc]
  exact WP.ret (post_ret fs σ h)
theorem W.cond {c : Code} {fs : List Fr} {σ : AS} {t : Nat} {b : Bool} (hc : c = .cond (.tmp t) (cL c) (cR c)) (hv : lk σ.tmps t = some (.bool b)) (ht : b = true → W P Q (cL c) fs σ) (hf : b = false → W P Q (cR c) fs σ) : W P Q c fs σ := by
  refine ⟨?_⟩
  rw [hc]
  exact WP.cond (by simp [AS.ev, hv]) (fun e => (ht e).h) (fun e => (hf e).h)
theorem W.condT {c : Code} {fs : List Fr} {σ : AS} {t : Nat} (hc : c = .cond (.tmp t) (cL c) (cR c)) (hv : lk σ.tmps t = some (.bool true)) (ht : W P Q (cL c) fs σ) : W P Q c fs σ :=
  W.cond hc hv (fun _ => ht) (fun h => by cases h)
theorem W.condF {c : Code} {fs : List Fr} {σ : AS} {t : Nat} (hc : c = .cond (.tmp t) (cL c) (cR c)) (hv : lk σ.tmps t = some (.bool false)) (hf : W P Q (cR c) fs σ) : W P Q c fs σ :=
  W.cond hc hv (fun h => by cases h) (fun _ => hf)
theorem W.region {specs : NL Spec} (hm : P.follows .mixedOrders = true) (hsp : ∀ p ∈ specs, FnC P p.1 p.2.fn) {c : Code} {fs : List Fr} {id : Nat} {ops : Array Oper} (hc : c = .region id ops false) {σ σ' : AS} {A : Prop}
    (hr : runL P (specOf specs) 0 ops ops.toList σ = some (σ', A)) (h : A → N P Q fs σ') : W P Q c fs σ := by
  refine ⟨?_⟩
  rw [hc]
  exact WP.region hm (specOf_ok hsp) hr fun hA => (h hA).h
/-- Of a region whose order is open: what its open pairs touch. -/
def drawOK (ops : Array Oper) (rw : List (List Nat × List Nat)) : Bool := match openPairs ops with
  | some l => l.all fun p => match rw.getD p.1 ([], []), rw.getD p.2 ([], []) with
    | (r1, w1), (r2, w2) => w1.all (fun id => !r2.contains id && !w2.contains id) && w2.all (fun id => !r1.contains id)
  | none => false
theorem fp_getD (fps : List FP) (i : Nat) : (fps.map fun f => (f.rd, f.wr)).getD i ([], []) = ((fps.getD i nofp).rd, (fps.getD i nofp).wr) := by
  simp only [List.getD_eq_getElem?_getD, List.getElem?_map]
  cases fps[i]? <;> rfl
theorem W.regionD {specs : NL Spec} (hm : P.follows .mixedOrders = true) (hsp : ∀ p ∈ specs, FnC P p.1 p.2.fn) {c : Code} {fs : List Fr} {id : Nat} {ops : Array Oper} (hc : c = .region id ops true) {σ σ' : AS} {fps : List FP} {rw' : List (List Nat × List Nat)}
    (hr : runF P (specOf specs) 0 ops ops.toList σ = some (σ', fps)) (hrw : (fps.map fun f => (f.rd, f.wr)) = rw') (ho : drawOK ops rw' = true) (h : asAll fps → N P Q fs σ') : W P Q c fs σ := by
  refine ⟨?_⟩
  rw [hc]
  refine WP.region (kk := 0) hm (specOf_ok hsp) (A := asAll fps) ?_ fun hA => (h hA).h
  subst hrw
  unfold drawOK at ho
  simp only [runR, runD]
  split at ho
  · rename_i l hl
    simp only [hl, hr]
    rw [if_pos]
    rw [← ho]
    congr 1
    funext p
    rw [fp_getD, fp_getD]
    rfl
  · cases ho
theorem W.loop {c : Code} {fs : List Fr} {σ : AS} (hc : c = .loop (cL c)) {ι : Type} (J : ι → AS) (m : ι → Nat) (i : ι) (h0 : AS.le (J i) σ)
    (step : ∀ i, W P Q (cL c) (.loop (fun σ' => ∃ j, m j < m i ∧ AS.le (J j) σ') :: fs) (J i)) : W P Q c fs σ := by
  refine ⟨?_⟩
  rw [hc]
  exact WP.loop J m (fun i => (step i).h.mono fun e σ h => by cases e <;> exact h) i h0
theorem W.weak {c : Code} {fs : List Fr} {σ σ' : AS} (hl : AS.le σ' σ) (h : W P Q c fs σ') : W P Q c fs σ := ⟨WP.weak hl h.h⟩

/-- What the walked function leaves. -/
def Ret (P : Program) (fn : Func) (r : AV) (B : List ABlk) (σ : AS) : Prop :=
  ∃ xs, resVs P σ fn.results.toList = some xs ∧
    ((B = [] ∧ ∃ out, (frzT (pack xs) .ret).run σ.heap = some out ∧ out.val = r ∧ inlT r = true) ∨
     (∃ exp : List Nat, exp.Nodup ∧ exp.map (expB σ.heap) = B.map some ∧ r = (pack xs).ren (expF exp σ.heap)))
theorem Ret.data {fn : Func} {r : AV} {σ : AS} {xs : List AV} {H : NL ABlk} {rd wr : List Nat} {A : Prop} {rs : List ResultVar} (h0 : fn.results.toList = rs) (h1 : resVs P σ rs = some xs) (h2 : (frzT (pack xs) .ret).run σ.heap = some ⟨r, H, rd, wr, A⟩) (h3 : inlT r = true) : Ret P fn r [] σ :=
  ⟨xs, by rw [h0]; exact h1, .inl ⟨rfl, _, h2, rfl, h3⟩⟩
theorem Ret.news {fn : Func} {r : AV} {B : List ABlk} {σ : AS} {xs : List AV} {rs : List ResultVar} (exp : List Nat) (h0 : fn.results.toList = rs) (h1 : resVs P σ rs = some xs) (h2 : exp.Nodup) (h3 : exp.map (expB σ.heap) = B.map some) (h4 : r = (pack xs).ren (expF exp σ.heap)) : Ret P fn r B σ :=
  ⟨xs, by rw [h0]; exact h1, .inr ⟨exp, h2, h3, h4⟩⟩
theorem FnC.walk {α : Type} {enc : α → List AV} {res : α → AV × List ABlk} (f : FuncId) {fn : Func} (hf : P.funcs[f]? = some fn) (hb : fn.body = some (codeOf fn)) (hname : (fn.name == "runtime.NumGoroutine") = false)
    (h : ∀ x, W P (Ret P fn (res x).1 (res x).2) (codeOf fn) [] (init fn (enc x))) : FnC P f (mkS enc res) :=
  FnC.ofEnc f hf hb hname fun x => (h x).h.mono fun _ _ h => h
end Go.Abs
