/- Short rules for walks, with default proofs of what is seen by computing. Conditions: none. -/
import Derived.Test.YtbndcamifghfaaaAb8
import Derived.KernelRfl
namespace Go.Abs
open Go
set_option linter.unusedVariables false
variable {P : Program} {Q : AS → Prop} {c : Code} {fs : List Fr} {σ : AS}
theorem Za {y : Code} (h : W P Q y fs σ) : N P Q (.seq y :: fs) σ := N.seq h
theorem Zb {id : Nat} (h : N P Q fs σ) : N P Q (.blk id :: fs) σ := N.blk h
theorem Zc (h : W P Q (cL c) (.seq (cR c) :: fs) σ) (hc : c = .seq (cL c) (cR c) := by exact rfl) : W P Q c fs σ := W.seq hc h
theorem Zd {id : Nat} (h : W P Q (cL c) (.blk id :: fs) σ) (hc : c = .block id (cL c) := by exact rfl) : W P Q c fs σ := W.block hc h
theorem Ze (h : N P Q fs σ) (hc : c = .skip := by exact rfl) : W P Q c fs σ := W.skip hc h
theorem Zf (h : Q σ) (hc : c = .ret := by exact rfl) : W P Q c fs σ := W.ret hc h
theorem Zg (h : Q σ) : N P Q [] σ := N.nil h
theorem Zh {b : AS → Prop} (h : b σ) : N P Q (.loop b :: fs) σ := N.loop h
theorem Zi {i : Nat} (h : X P Q i fs σ) (hc : c = .exit i := by exact rfl) : W P Q c fs σ := W.exit hc h
theorem Zj {i : Nat} {y : Code} (h : X P Q i fs σ) : X P Q i (.seq y :: fs) σ := X.seq h
theorem Zk {i : Nat} {b : AS → Prop} (h : X P Q i fs σ) : X P Q i (.loop b :: fs) σ := X.loop h
theorem Zl {i : Nat} (h : N P Q fs σ) : X P Q i (.blk i :: fs) σ := X.hit h
theorem Zm {i j : Nat} (h : X P Q i fs σ) (hne : i ≠ j := by decide) : X P Q i (.blk j :: fs) σ := X.pass hne h
theorem Zn {t : Nat} {b : Bool} (h : W P Q (cL c) fs σ) (hc : c = .cond (.tmp t) (cL c) (cR c) := by exact rfl) (hv : lk σ.tmps t = some (.bool b) := by exact rfl) (hb : b = true := by with_reducible rfl) : W P Q c fs σ := W.cT hc hv hb h
theorem Zo {t : Nat} {b : Bool} (h : W P Q (cR c) fs σ) (hc : c = .cond (.tmp t) (cL c) (cR c) := by exact rfl) (hv : lk σ.tmps t = some (.bool b) := by exact rfl) (hb : b = false := by with_reducible rfl) : W P Q c fs σ := W.cF hc hv hb h
theorem Zp {t : Nat} (h : W P Q (cL c) fs σ) (hc : c = .cond (.tmp t) (cL c) (cR c) := by exact rfl) (hv : lk σ.tmps t = some (.bool true) := by exact rfl) : W P Q c fs σ := W.condT hc hv h
theorem Zq {t : Nat} (h : W P Q (cR c) fs σ) (hc : c = .cond (.tmp t) (cL c) (cR c) := by exact rfl) (hv : lk σ.tmps t = some (.bool false) := by exact rfl) : W P Q c fs σ := W.condF hc hv h
theorem ZA {t : Nat} {b : Bool} (ht : b = true → W P Q (cL c) fs σ) (hf : b = false → W P Q (cR c) fs σ) (hc : c = .cond (.tmp t) (cL c) (cR c) := by exact rfl) (hv : lk σ.tmps t = some (.bool b) := by exact rfl) : W P Q c fs σ := W.cond hc hv ht hf
variable {specs : NL Spec} {ops : Array Oper} {kn : List Nat} {acc : List (List Nat × List Nat)} {B : Prop} {l : List Oper}
theorem ZB {id : Nat} {d : Bool} (hm : P.follows .mixedOrders = true) (hsp : ∀ p ∈ specs, FnC P p.1 p.2.fn) (h : RW P Q specs ops d fs [] [] True ops.toList σ) (hc : c = .region id ops d := by exact rfl) : W P Q c fs σ := W.reg hm hsp hc h
theorem ZC (h : N P Q fs σ) : RW P Q specs ops false fs kn acc B [] σ := RW.donz h
theorem ZD (h : N P Q fs σ) (hd : drawOK ops acc = true := by kernel_rfl) : RW P Q specs ops true fs kn acc B [] σ := RW.donzD hd h
theorem ZE {d : Bool} {t : Nat} {b : Bool} (h : RW P Q specs ops d fs (t :: kn) acc B l σ) (ht : headG ops l = some t := by exact rfl) (hk : kn.contains t = false := by exact rfl) (hv : lk σ.tmps t = some (.bool b) := by exact rfl) (hb : b = true := by with_reducible rfl) : RW P Q specs ops d fs kn acc B l σ := RW.hT ht hk hv hb h
theorem ZF {d : Bool} {t : Nat} {b : Bool} (h : RW P Q specs ops d fs (t :: kn) acc B l σ) (ht : headG ops l = some t := by exact rfl) (hk : kn.contains t = false := by exact rfl) (hv : lk σ.tmps t = some (.bool b) := by exact rfl) (hb : b = false := by with_reducible rfl) : RW P Q specs ops d fs kn acc B l σ := RW.hF ht hk hv hb h
theorem ZG {d : Bool} {t : Nat} {xs : List AV} (h : RW P Q specs ops d fs (t :: kn) acc B l σ) (ht : headG ops l = some t := by exact rfl) (hk : kn.contains t = false := by exact rfl) (hv : lk σ.tmps t = some (.tup xs) := by exact rfl) : RW P Q specs ops d fs kn acc B l σ := RW.gU ht hk hv h
theorem ZH {d : Bool} {n t : Nat} {ts : NL AV} {H : NL ABlk} {b : Bool} (hT : b = true → RW P Q specs ops d fs (t :: kn) acc B l ⟨n, (t, .bool true) :: ts, H⟩) (hF : b = false → RW P Q specs ops d fs (t :: kn) acc B l ⟨n, (t, .bool false) :: ts, H⟩)
    (hq : seqFr fs = true := by exact rfl) (ht : headG ops l = some t := by exact rfl) (hk : kn.contains t = false := by exact rfl) (hv : lk ts t = some (.bool b) := by exact rfl) : RW P Q specs ops d fs kn acc B l ⟨n, ts, H⟩ := RW.gS hq ht hk hv hT hF
theorem ZK {id : Nat} {σ' : AS} {A : Prop} (hm : P.follows .mixedOrders = true) (hsp : ∀ p ∈ specs, FnC P p.1 p.2.fn) (hc : c = .region id ops false) (hr : runL P (specOf specs) 0 ops ops.toList σ = some (σ', A)) (h : A → N P Q fs σ') : W P Q c fs σ := W.region hm hsp hc hr h
theorem ZL {id : Nat} {σ' : AS} {fps : List FP} {rw' : List (List Nat × List Nat)} (hm : P.follows .mixedOrders = true) (hsp : ∀ p ∈ specs, FnC P p.1 p.2.fn) (hc : c = .region id ops true) (hr : runF P (specOf specs) 0 ops ops.toList σ = some (σ', fps)) (h : asAll fps → N P Q fs σ') (hrw : (fps.map fun f => (f.rd, f.wr)) = rw' := by conv => lhs; simp) (ho : drawOK ops rw' = true := by kernel_rfl) : W P Q c fs σ := W.regionD hm hsp hc hr hrw ho h
inductive RunAcc : Bool → List (List Nat × List Nat) → List FP → List (List Nat × List Nat) → Prop
  | lin {acc : List (List Nat × List Nat)} {f1 : List FP} : RunAcc false acc f1 []
  | drw {d : Bool} {acc : List (List Nat × List Nat)} {f1 : List FP} {acc' : List (List Nat × List Nat)} (h : acc ++ (f1.map fun f => (f.rd, f.wr)) = acc') : RunAcc d acc f1 acc'
theorem ZJ {d : Bool} {σ1 : AS} {f1 : List FP} {rest : List Oper} {acc' : List (List Nat × List Nat)} (hr : runG P (specOf specs) 0 ops kn l σ = some (σ1, f1, rest)) (h : RW P Q specs ops d fs kn acc' (B ∧ asAll f1) rest σ1) (hp : headStop ops kn l = false := by exact rfl)
    (ha : RunAcc d acc f1 acc' := by first | exact RunAcc.lin | exact RunAcc.drw (by simp; rfl)) : RW P Q specs ops d fs kn acc B l σ := by
  cases ha with
  | lin => exact RW.runL hp hr h
  | drw ha => exact RW.run hp hr ha h
/-! Several steps at once: what is left is the new goal. -/
theorem ZS {R G : Prop} (g : G) (h : G → R := by (intro g; (first | refine Za ?_ | refine Zb ?_ | refine Zc ?_ | refine Zd ?_ | refine Ze ?_ | refine Zf ?_ | refine Zg ?_ | refine Zh ?_ | refine Zi ?_ | refine Zj ?_ | refine Zk ?_ | refine Zl ?_ | refine Zm ?_ | refine Zp ?_ | refine Zq ?_); (repeat (first | refine Za ?_ | refine Zb ?_ | refine Zc ?_ | refine Zd ?_ | refine Ze ?_ | refine Zf ?_ | refine Zg ?_ | refine Zh ?_ | refine Zi ?_ | refine Zj ?_ | refine Zk ?_ | refine Zl ?_ | refine Zm ?_ | refine Zp ?_ | refine Zq ?_)); exact g)) : R := h g
theorem ZT {R G : Prop} (g : G) (h : G → R := by (intro g; (first | refine Za ?_ | refine Zb ?_ | refine Zc ?_ | refine Zd ?_ | refine Ze ?_ | refine Zf ?_ | refine Zg ?_ | refine Zh ?_ | refine Zi ?_ | refine Zj ?_ | refine Zk ?_ | refine Zl ?_ | refine Zm ?_); (repeat (first | refine Za ?_ | refine Zb ?_ | refine Zc ?_ | refine Zd ?_ | refine Ze ?_ | refine Zf ?_ | refine Zg ?_ | refine Zh ?_ | refine Zi ?_ | refine Zj ?_ | refine Zk ?_ | refine Zl ?_ | refine Zm ?_)); exact g)) : R := h g
theorem ZU {R G : Prop} (g : G) (h : G → R := by (intro g; (first | refine Za ?_ | refine Zb ?_ | refine Zc ?_ | refine Zd ?_ | refine Ze ?_ | refine Zg ?_ | refine Zh ?_ | refine Zi ?_ | refine Zj ?_ | refine Zk ?_ | refine Zl ?_ | refine Zm ?_ | refine Zp ?_ | refine Zq ?_); (repeat (first | refine Za ?_ | refine Zb ?_ | refine Zc ?_ | refine Zd ?_ | refine Ze ?_ | refine Zg ?_ | refine Zh ?_ | refine Zi ?_ | refine Zj ?_ | refine Zk ?_ | refine Zl ?_ | refine Zm ?_ | refine Zp ?_ | refine Zq ?_)); exact g)) : R := h g
theorem ZV {R G : Prop} (g : G) (h : G → R := by (intro g; (first | refine Za ?_ | refine Zb ?_ | refine Zc ?_ | refine Zd ?_ | refine Ze ?_ | refine Zf ?_ | refine Zg ?_ | refine Zh ?_ | refine Zi ?_ | refine Zj ?_ | refine Zk ?_ | refine Zl ?_ | refine Zm ?_ | refine Zn ?_ | refine Zo ?_ | refine ZC ?_ | refine ZD ?_ | refine ZE ?_ | refine ZF ?_ | refine ZG ?_); (repeat (first | refine Za ?_ | refine Zb ?_ | refine Zc ?_ | refine Zd ?_ | refine Ze ?_ | refine Zf ?_ | refine Zg ?_ | refine Zh ?_ | refine Zi ?_ | refine Zj ?_ | refine Zk ?_ | refine Zl ?_ | refine Zm ?_ | refine Zn ?_ | refine Zo ?_ | refine ZC ?_ | refine ZD ?_ | refine ZE ?_ | refine ZF ?_ | refine ZG ?_)); exact g)) : R := h g
end Go.Abs
