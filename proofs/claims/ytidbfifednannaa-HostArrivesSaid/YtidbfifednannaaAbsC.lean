/- The abstract operations that leave the store alone, each with what it owes. Conditions: none. -/
import Derived.Test.YtidbfifednannaaAbsB
import Derived.Laws.StructEq
import Derived.Laws.Entries
import Derived.Laws.Strings
namespace Go.Abs
open Go

/-! ### Constants -/
def ofFlat : Value → AV
  | .bool b => .bool b
  | .int k n => .int k n
  | .string s => .str s
  | .pointer none => .nilp
  | .slice none 0 0 => .nils
  | .map none => .nilm
  | .nilFunc => .nilf
  | .func f fs cs => if fs.size = 0 ∧ cs.size = 0 then .fn f [] [] else .any
  | _ => .any
def ofValue : Value → AV
  | .agg cs => .agg (cs.toList.map ofFlat)
  | .tuple cs => .tup (cs.toList.map ofFlat)
  | v => ofFlat v
theorem ofFlat_rep {w : World} {I : Nat → Prop} (v : Value) : RepI w I (ofFlat v) v := by
  unfold ofFlat
  split <;> try (simp only [RepI]; done)
  split
  · rename_i f fs cs h
    simp only [RepI]
    have h1 : fs.toList = [] := by simpa using h.1
    have h2 : cs.toList = [] := by simpa using h.2
    exact ⟨fs, cs, rfl, by simp only [RepIL]; exact h1, by simp only [RepIL]; exact h2⟩
  · simp only [RepI]
theorem flats_rep {w : World} {I : Nat → Prop} : ∀ vs : List Value, RepIL w I (vs.map ofFlat) vs
  | [] => by simp only [List.map_nil, RepIL]
  | v :: r => by simp only [List.map_cons, RepIL]; exact ⟨v, r, rfl, ofFlat_rep v, flats_rep r⟩
theorem ofValue_rep {w : World} {I : Nat → Prop} (v : Value) : RepI w I (ofValue v) v := by
  unfold ofValue
  split
  · simp only [RepI]; exact ⟨_, rfl, flats_rep _⟩
  · simp only [RepI]; exact ⟨_, rfl, flats_rep _⟩
  · exact ofFlat_rep v

/-! ### Addresses -/
def fieldAddrA (P : Program) (s : TypeId) (f : Nat) (x : AV) : AP AV :=
  match P.underlying s with
  | some (.struct fields) => match fields[f]? with
    | some fl => match szOf P fl.type with
      | some (_ + 1) => match x with
        | .ptr id g r o => .ret (.ptr id g r (o + fl.offset))
        | .cptr cells => .ret (.cptr (cells.drop fl.offset))
        | _ => .fail
      | _ => .fail
    | none => .fail
  | _ => .fail

theorem add_add' (a : Addr) (n : Nat) (h : a.spot = none) : a.add n = ⟨a.block, a.off + n, none⟩ := by
  obtain ⟨b, o, s⟩ := a
  simp only at h; subst h
  exact add_mk b o n

theorem ptr_add {E : Env} {id g r o k : Nat} {v : Value} (h : Rep E (.ptr id g r o) v) : ∃ a, v = .pointer (some a) ∧ Rep E (.ptr id g r (o + k)) (.pointer (some (a.add k))) := by
  simp only [Rep] at h ⊢
  obtain ⟨blk, a, hb, hle, rfl, hg⟩ := h
  refine ⟨a, rfl, blk, _, hb, hle, rfl, fun e => ?_⟩
  obtain ⟨h1, rfl⟩ := hg e
  exact ⟨h1, by rw [add_mk, Nat.add_assoc]⟩
theorem cptr_add {E : Env} {cells : List AV} {k : Nat} {v : Value} (h : Rep E (.cptr cells) v) : ∃ a, v = .pointer (some a) ∧ Rep E (.cptr (cells.drop k)) (.pointer (some (a.add k))) := by
  simp only [Rep, RepI] at h ⊢
  obtain ⟨b, off, rfl, hi, hc⟩ := h
  exact ⟨_, rfl, b, off + k, by rw [add_mk], hi, hc.drop k⟩

theorem fieldAddr_snd {P : Program} {E : Env} {H : NL ABlk} (hH : E.H = lk H) (hr : HR E) {s : TypeId} {f : Nat} {x : AV} {v : Value} (hx : Rep E x v) :
    Snd P E H (fieldAddrA P s f x) (Instr.fieldAt s v f) := by
  unfold fieldAddrA
  cases hu : P.underlying s with
  | none => exact Snd.fail
  | some d =>
    cases d with
    | struct fields =>
      dsimp only
      cases hf : fields[f]? with
      | none => exact Snd.fail
      | some fl =>
        dsimp only
        cases hs : szOf P fl.type with
        | none => exact Snd.fail
        | some n =>
          cases n with
          | zero => exact Snd.fail
          | succ n =>
            dsimp only
            cases x with
            | ptr id g r o =>
              obtain ⟨a, rfl, h⟩ := ptr_add (k := fl.offset) hx
              refine Snd.ret hH hr ?_ h
              simp [Instr.fieldAt, run_underlying' hu, hf, Instr.sureAddr, fieldPlace, run_sizeOf' hs]
            | cptr cells =>
              obtain ⟨a, rfl, h⟩ := cptr_add (k := fl.offset) hx
              refine Snd.ret hH hr ?_ h
              simp [Instr.fieldAt, run_underlying' hu, hf, Instr.sureAddr, fieldPlace, run_sizeOf' hs]
            | _ => exact Snd.fail
    | _ => exact Snd.fail

def indexAddrA (P : Program) (t : TypeId) (x ix : AV) : AP AV :=
  match ix with
  | .int _ n =>
    if 0 ≤ n then
      match P.underlying t with
      | some (.slice elem) => match x with
        | .list size rows => match rows[n.toNat]? with
          | some row => if szOf P elem = some size then .ret (.cptr row) else .fail
          | none => .fail
        | .sl id g off len => if n < len then .get id fun b => if b.gen = g ∧ szOf P elem = some b.size then .ret (.ptr id g (off + n.toNat) 0) else .fail else .fail
        | _ => .fail
      | some (.array len elem) => if n < len then match szOf P elem with
          | some s => match x with
            | .ptr id g r o => .ret (.ptr id g r (o + n.toNat * s))
            | .cptr cells => .ret (.cptr (cells.drop (n.toNat * s)))
            | _ => .fail
          | none => .fail
        else .fail
      | _ => .fail
    else .fail
  | _ => .fail

theorem indexAddr_snd {P : Program} {E : Env} {H : NL ABlk} (hH : E.H = lk H) (hr : HR E) {t : TypeId} {x ix : AV} {v u : Value} (hx : Rep E x v) (hi : Rep E ix u) :
    Snd P E H (indexAddrA P t x ix) (Instr.indexAt t v u) := by
  unfold indexAddrA
  cases ix with
  | int k n =>
    simp only [Rep] at hi
    subst hi
    dsimp only
    split
    · rename_i hn
      cases hu : P.underlying t with
      | none => exact Snd.fail
      | some d =>
        cases d with
        | slice elem =>
          dsimp only
          cases x with
          | list size rows =>
            dsimp only
            cases hrow : rows[n.toNat]? with
            | none => exact Snd.fail
            | some row =>
              dsimp only
              split
              · rename_i hs
                simp only [Rep, RepI] at hx
                have hlt : n.toNat < rows.length := (List.getElem?_eq_some_iff.1 hrow).1
                rcases hx with ⟨_, rfl⟩ | ⟨a, cap, rfl, h1, h2, h3, h4⟩
                · simp at hrow
                · have hne : rows ≠ [] := by intro e; subst e; simp at hlt
                  obtain ⟨hsp, him⟩ := h3 hne
                  have hg := h4.get hrow
                  refine Snd.ret hH hr (v := .pointer (some (a.add (n.toNat * size)))) ?_ ?_
                  · have hlt' : n < (rows.length : Int) := by omega
                    simp [Instr.indexAt, asIntOf, run_underlying' hu, hn, hlt', run_sizeOf' hs]
                  · simp only [Rep, RepI]
                    refine ⟨a.block, a.off + n.toNat * size, by rw [add_add' a _ hsp], him, ?_⟩
                    exact hg.2
              · exact Snd.fail
          | sl id g off len =>
            dsimp only
            split
            · rename_i hlt
              simp only [Rep] at hx
              obtain ⟨blk, a, len', cap, hb, hle, rfl, hg⟩ := hx
              refine Snd.get (by rw [← hH]; exact hb) ?_
              split
              · rename_i hc
                obtain ⟨hk, rfl, h1, h2, h3⟩ := hg hc.1
                obtain ⟨rfl, h4⟩ := h3 (by omega)
                refine Snd.ret hH hr (v := .pointer (some ⟨E.φ id, off * blk.size + n.toNat * blk.size, none⟩)) ?_ ?_
                · simp [Instr.indexAt, asIntOf, run_underlying' hu, hn, hlt, run_sizeOf' hc.2, add_mk]
                · simp only [Rep]
                  exact ⟨blk, _, hb, hle, rfl, fun _ => ⟨hk, by rw [Nat.add_mul, Nat.add_zero]⟩⟩
              · exact Snd.fail
            · exact Snd.fail
          | _ => exact Snd.fail
        | array len elem =>
          dsimp only
          split
          · rename_i hlt
            cases hs : szOf P elem with
            | none => exact Snd.fail
            | some s =>
              dsimp only
              cases x with
              | ptr id g r o =>
                obtain ⟨a, rfl, h⟩ := ptr_add (k := n.toNat * s) hx
                refine Snd.ret hH hr ?_ h
                simp [Instr.indexAt, asIntOf, run_underlying' hu, Instr.sureAddr, hn, hlt, run_sizeOf' hs]
              | cptr cells =>
                obtain ⟨a, rfl, h⟩ := cptr_add (k := n.toNat * s) hx
                refine Snd.ret hH hr ?_ h
                simp [Instr.indexAt, asIntOf, run_underlying' hu, Instr.sureAddr, hn, hlt, run_sizeOf' hs]
              | _ => exact Snd.fail
          · exact Snd.fail
        | _ => exact Snd.fail
    · exact Snd.fail
  | _ => exact Snd.fail

/-! ### Parts of values -/
def partA (P : Program) (t : TypeId) (cells : List AV) (off : Nat) : AP AV :=
  match aggT P t with
  | some true => match szOf P t with
    | some s => .ret (.agg ((cells.drop off).take s))
    | none => .fail
  | some false => match cells[off]? with
    | some x => .ret x
    | none => .fail
  | none => .fail
theorem part_snd {P : Program} {E : Env} {H : NL ABlk} (hH : E.H = lk H) (hr : HR E) {t : TypeId} {cells : List AV} {cs : Array Value} {off : Nat} (hx : RepL E cells cs.toList) :
    Snd P E H (partA P t cells off) (part t cs off) := by
  unfold partA
  cases ha : aggT P t with
  | none => exact Snd.fail
  | some b =>
    cases b with
    | true =>
      dsimp only
      cases hs : szOf P t with
      | none => exact Snd.fail
      | some s =>
        refine Snd.ret hH hr (v := .agg (cs.extract off (off + s))) ?_ ?_
        · simp [part, run_isAgg' ha, run_sizeOf' hs]
        · simp only [Rep]
          refine ⟨_, rfl, ?_⟩
          rw [Array.toList_extract, List.extract_eq_take_drop, show off + s - off = s from by omega]
          exact (hx.drop off).take s
    | false =>
      dsimp only
      cases hc : cells[off]? with
      | none => exact Snd.fail
      | some x =>
        obtain ⟨v, hv, hr'⟩ := hx.get hc
        refine Snd.ret hH hr (v := v) ?_ hr'
        have hv' : cs[off]? = some v := by simpa using hv
        simp [part, run_isAgg' ha, hv']
def fieldA (P : Program) (t : TypeId) (f : Nat) (x : AV) : AP AV :=
  match P.underlying t with
  | some (.struct fields) => match fields[f]? with
    | some fl => match x with
      | .agg cells => partA P fl.type cells fl.offset
      | _ => .fail
    | none => .fail
  | _ => .fail
theorem field_snd {P : Program} {E : Env} {H : NL ABlk} (hH : E.H = lk H) (hr : HR E) {t : TypeId} {f : Nat} {x : AV} {v : Value} (hx : Rep E x v) :
    Snd P E H (fieldA P t f x) (Instr.field t v f) := by
  unfold fieldA
  cases hu : P.underlying t with
  | none => exact Snd.fail
  | some d =>
    cases d with
    | struct fields =>
      dsimp only
      cases hf : fields[f]? with
      | none => exact Snd.fail
      | some fl =>
        cases x with
        | agg cells =>
          simp only [Rep] at hx
          obtain ⟨cs, rfl, hc⟩ := hx
          have h := part_snd (P := P) hH hr (t := fl.type) (off := fl.offset) hc
          intro out ho
          obtain ⟨v, E', h1, h2⟩ := h out ho
          refine ⟨v, E', ?_, h2⟩
          simpa [Instr.field, run_underlying' hu, hf, asAgg] using h1
        | _ => exact Snd.fail
    | _ => exact Snd.fail
def indexA (P : Program) (t : TypeId) (x ix : AV) : AP AV :=
  match ix with
  | .int _ n =>
    if 0 ≤ n then
      match P.underlying t with
      | some (.array len elem) => if n < len then match szOf P elem with
          | some s => match x with
            | .agg cells => partA P elem cells (n.toNat * s)
            | _ => .fail
          | none => .fail
        else .fail
      | some .string => match x with
        | .str s => match s[n.toNat]? with
          | some b => .ret (.int .u8 b.toNat)
          | none => .fail
        | _ => .fail
      | _ => .fail
    else .fail
  | _ => .fail
theorem index_snd {P : Program} {E : Env} {H : NL ABlk} (hH : E.H = lk H) (hr : HR E) {t : TypeId} {x ix : AV} {v u : Value} (hx : Rep E x v) (hi : Rep E ix u) :
    Snd P E H (indexA P t x ix) (Instr.index t v u) := by
  unfold indexA
  cases ix with
  | int k n =>
    simp only [Rep] at hi
    subst hi
    dsimp only
    split
    · rename_i hn
      cases hu : P.underlying t with
      | none => exact Snd.fail
      | some d =>
        cases d with
        | array len elem =>
          dsimp only
          split
          · rename_i hlt
            cases hs : szOf P elem with
            | none => exact Snd.fail
            | some s =>
              dsimp only
              cases x with
              | agg cells =>
                simp only [Rep] at hx
                obtain ⟨cs, rfl, hc⟩ := hx
                have h := part_snd (P := P) hH hr (t := elem) (off := n.toNat * s) hc
                intro out ho
                obtain ⟨v, E', h1, h2⟩ := h out ho
                refine ⟨v, E', ?_, h2⟩
                simpa [Instr.index, asIntOf, run_underlying' hu, hn, hlt, run_sizeOf' hs] using h1
              | _ => exact Snd.fail
          · exact Snd.fail
        | string =>
          dsimp only
          cases x with
          | str s =>
            dsimp only
            simp only [Rep] at hx
            subst hx
            cases hb : s[n.toNat]? with
            | none => exact Snd.fail
            | some b =>
              refine Snd.ret hH hr (v := .int .u8 b.toNat) ?_ (by simp only [Rep])
              simp [Instr.index, asIntOf, run_underlying' hu, hn, hb]
          | _ => exact Snd.fail
        | _ => exact Snd.fail
    · exact Snd.fail
  | _ => exact Snd.fail

def extractA (x : AV) (i : Nat) : AP AV :=
  match x with
  | .tup vs => match vs[i]? with
    | some v => .ret v
    | none => .fail
  | _ => .fail
theorem extract_snd {P : Program} {E : Env} {H : NL ABlk} (hH : E.H = lk H) (hr : HR E) {x : AV} {v : Value} {i : Nat} (hx : Rep E x v) :
    Snd P E H (extractA x i) (Instr.extract v i) := by
  unfold extractA
  cases x with
  | tup vs =>
    dsimp only
    simp only [Rep] at hx
    obtain ⟨cs, rfl, hc⟩ := hx
    cases h : vs[i]? with
    | none => exact Snd.fail
    | some y =>
      obtain ⟨u, hu, hy⟩ := hc.get h
      have hu' : cs[i]? = some u := by simpa using hu
      exact Snd.ret hH hr (by simp [Instr.extract, hu']) hy
  | _ => exact Snd.fail

/-! ### Numbers, strings, truth values -/
def binOpA (op : BinOp) (x y : AV) : AP AV :=
  match x, y with
  | .int k a, .int k' b =>
    match op with
    | .shl => if 0 ≤ b then .ret (.int k (k.wrap (a * 2 ^ min b.toNat k.bits))) else .fail
    | .shr => if 0 ≤ b then .ret (.int k (a.fdiv (2 ^ min b.toNat k.bits))) else .fail
    | op => if k = k' then
        match op with
        | .add => .ret (.int k (k.wrap (a + b)))
        | .sub => .ret (.int k (k.wrap (a - b)))
        | .mul => .ret (.int k (k.wrap (a * b)))
        | .quo => if b = 0 then .fail else .ret (.int k (k.wrap (a.tdiv b)))
        | .rem => if b = 0 then .fail else .ret (.int k (a.tmod b))
        | .and => .ret (.int k (k.wrap (BitVec.ofInt k.bits a &&& BitVec.ofInt k.bits b).toNat))
        | .or => .ret (.int k (k.wrap (BitVec.ofInt k.bits a ||| BitVec.ofInt k.bits b).toNat))
        | .xor => .ret (.int k (k.wrap (BitVec.ofInt k.bits a ^^^ BitVec.ofInt k.bits b).toNat))
        | .andNot => .ret (.int k (k.wrap (BitVec.ofInt k.bits a &&& ~~~ BitVec.ofInt k.bits b).toNat))
        | .eql => .ret (.bool (a == b))
        | .neq => .ret (.bool (a != b))
        | .lss => .ret (.bool (a < b))
        | .leq => .ret (.bool (a ≤ b))
        | .gtr => .ret (.bool (a > b))
        | .geq => .ret (.bool (a ≥ b))
        | _ => .fail
      else .fail
  | .str a, .str b =>
    match op with
    | .add => if a.size + b.size ≤ maxLen then .ret (.str (a ++ b)) else .fail
    | .eql => .ret (.bool (a.toList == b.toList))
    | .neq => .ret (.bool (!(a.toList == b.toList)))
    | .lss => .ret (.bool (Op.bytesLess a.toList b.toList))
    | .leq => .ret (.bool (Op.bytesLess a.toList b.toList || a.toList == b.toList))
    | .gtr => .ret (.bool (!(Op.bytesLess a.toList b.toList || a.toList == b.toList)))
    | .geq => .ret (.bool (!(Op.bytesLess a.toList b.toList)))
    | _ => .fail
  | _, _ => .fail

theorem Snd.retInt {P : Program} {E : Env} {H : NL ABlk} {c : Sem Value} {k : IntKind} {n : Int} (hH : E.H = lk H) (hr : HR E) (h : c.run P E.w = .ok (.int k n) E.w) : Snd P E H (.ret (.int k n)) c :=
  Snd.ret hH hr h (by simp only [Rep])
theorem Snd.retBool {P : Program} {E : Env} {H : NL ABlk} {c : Sem Value} {b : Bool} (hH : E.H = lk H) (hr : HR E) (h : c.run P E.w = .ok (.bool b) E.w) : Snd P E H (.ret (.bool b)) c :=
  Snd.ret hH hr h (by simp only [Rep])
theorem Snd.retStr {P : Program} {E : Env} {H : NL ABlk} {c : Sem Value} {b : ByteArray} (hH : E.H = lk H) (hr : HR E) (h : c.run P E.w = .ok (.string b) E.w) : Snd P E H (.ret (.str b)) c :=
  Snd.ret hH hr h (by simp only [Rep])
theorem eqGuard_int {P : Program} {w : World} (op : BinOp) (t : TypeId) (x y : Operand) (k : IntKind) (n : Int) (v : Value) : (eqGuard op t x y (.int k n) v).run P w = .ok () w := by rw [eqGuard_at_int]; rfl
theorem eqGuard_str {P : Program} {w : World} (op : BinOp) (t : TypeId) (x y : Operand) (s : ByteArray) (v : Value) : (eqGuard op t x y (.string s) v).run P w = .ok () w := by rw [eqGuard_at_string]; rfl

theorem binOp_snd {P : Program} {E : Env} {H : NL ABlk} (hH : E.H = lk H) (hr : HR E) {op : BinOp} {t : TypeId} {ox oy : Operand} {x y : AV} {v u : Value} (hx : Rep E x v) (hy : Rep E y u) :
    Snd P E H (binOpA op x y) (do eqGuard op t ox oy v u; binOp op t v u) := by
  unfold binOpA
  cases x with
  | int k a =>
    cases y with
    | int k' b =>
      simp only [Rep] at hx hy
      subst hx; subst hy
      dsimp only
      cases op <;> dsimp only
      case shl =>
        split
        · rename_i hk; exact Snd.retInt hH hr (by simp [eqGuard_int, binOp, Op.shift, Int.not_lt.2 hk])
        · exact Snd.fail
      case shr =>
        split
        · rename_i hk; exact Snd.retInt hH hr (by simp [eqGuard_int, binOp, Op.shift, Int.not_lt.2 hk])
        · exact Snd.fail
      all_goals
        split
        · rename_i hk
          subst hk
          first
            | exact Snd.retInt hH hr (by simp [eqGuard_int, binOp, Op.intArith, Op.intBits])
            | exact Snd.retBool hH hr (by simp [eqGuard_int, binOp, Op.intCmp])
            | (split
               · exact Snd.fail
               · rename_i hb
                 exact Snd.retInt hH hr (by simp [eqGuard_int, binOp, Op.intDiv, hb]))
        · exact Snd.fail
    | _ => exact Snd.fail
  | str a =>
    cases y with
    | str b =>
      simp only [Rep] at hx hy
      subst hx; subst hy
      dsimp only
      cases op <;> dsimp only
      case add =>
        split
        · rename_i hb
          simp only [maxLen] at hb
          have h' : ¬ (9223372036854775807 : Int) < (a.size : Int) + (b.size : Int) := by omega
          exact Snd.retStr hH hr (by simp [eqGuard_str, binOp, Op.stringOp, h'])
        · exact Snd.fail
      all_goals first
        | exact Snd.fail
        | exact Snd.retBool hH hr (by simp [eqGuard_str, binOp, Op.stringOp])
    | _ => exact Snd.fail
  | _ => exact Snd.fail

def unOpA (op : UnOp) (x : AV) : AP AV :=
  match op, x with
  | .not, .bool b => .ret (.bool (!b))
  | .neg, .int k n => .ret (.int k (k.wrap (0 - n)))
  | .xor, .int k n => .ret (.int k (k.wrap (BitVec.ofInt k.bits (if k.signed then -1 else k.max) ^^^ BitVec.ofInt k.bits n).toNat))
  | _, _ => .fail
theorem unOp_snd {P : Program} {E : Env} {H : NL ABlk} (hH : E.H = lk H) (hr : HR E) {op : UnOp} {x : AV} {v : Value} (hx : Rep E x v) :
    Snd P E H (unOpA op x) (Op.unary op v) := by
  unfold unOpA
  split
  · simp only [Rep] at hx; subst hx
    exact Snd.retBool hH hr (by simp [Op.unary])
  · simp only [Rep] at hx; subst hx
    exact Snd.retInt hH hr (by simp [Op.unary, Op.intArith])
  · simp only [Rep] at hx; subst hx
    exact Snd.retInt hH hr (by simp [Op.unary, Op.intBits])
  · exact Snd.fail

def convertA (P : Program) (src dst : TypeId) (x : AV) : AP AV :=
  match P.underlying src, P.underlying dst, x with
  | some _, some (.int k), .int _ n => .ret (.int k (k.wrap n))
  | some .string, some .string, .str s => .ret (.str s)
  | _, _, _ => .fail
theorem convert_snd {P : Program} {E : Env} {H : NL ABlk} (hH : E.H = lk H) (hr : HR E) {src dst : TypeId} {x : AV} {v : Value} (hx : Rep E x v) :
    Snd P E H (convertA P src dst x) (convert src dst v) := by
  unfold convertA
  split
  · rename_i h1 h2
    simp only [Rep] at hx; subst hx
    exact Snd.retInt hH hr (by simp [convert, run_underlying' h1, run_underlying' h2, Conv.intToInt])
  · rename_i h1 h2
    simp only [Rep] at hx; subst hx
    exact Snd.retStr hH hr (by simp [convert, run_underlying' h1, run_underlying' h2])
  · exact Snd.fail

/-! ### Lengths, cuts -/
def lenA (P : Program) (t : TypeId) (x : AV) : AP AV :=
  match P.underlying t, x with
  | some (.slice _), .nils => .ret (.int .i64 0)
  | some (.slice _), .list _ rows => .asm (rows.length ≤ maxLen) (.ret (.int .i64 rows.length))
  | some (.slice _), .sl id g _ len => .get id fun b => if b.gen = g then .asm (len ≤ maxLen) (.ret (.int .i64 len)) else .fail
  | some .string, .str s => .ret (.int .i64 s.size)
  | some (.array n _), _ => .ret (.int .i64 n)
  | _, _ => .fail
theorem len_snd {P : Program} {E : Env} {H : NL ABlk} (hH : E.H = lk H) (hr : HR E) {t ty : TypeId} {x : AV} {v : Value} (hx : Rep E x v) :
    Snd P E H (lenA P t x) (Builtin.len_ #[t] ty #[v]) := by
  unfold lenA
  split
  · rename_i h1
    simp only [Rep] at hx; subst hx
    exact Snd.retInt hH hr (by simp [Builtin.len_, run_underlying' h1, goInt])
  · rename_i h1
    simp only [Rep, RepI] at hx
    rcases hx with ⟨rfl, rfl⟩ | ⟨a, cap, rfl, h2, h3, _⟩
    · refine Snd.asm (by simp) (Snd.retInt hH hr ?_)
      simp [Builtin.len_, run_underlying' h1, goInt]
    · refine Snd.asm (by omega) (Snd.retInt hH hr ?_)
      simp [Builtin.len_, run_underlying' h1, goInt]
  · rename_i h1
    simp only [Rep] at hx
    obtain ⟨blk, a, len', cap, hb, hle, rfl, hg⟩ := hx
    refine Snd.get (by rw [← hH]; exact hb) ?_
    split
    · rename_i hc
      obtain ⟨hk, rfl, h2, h3, h4⟩ := hg hc
      refine Snd.asm (by omega) (Snd.retInt hH hr ?_)
      simp [Builtin.len_, run_underlying' h1, goInt]
    · exact Snd.fail
  · rename_i h1
    simp only [Rep] at hx; subst hx
    exact Snd.retInt hH hr (by simp [Builtin.len_, run_underlying' h1, goInt])
  · rename_i h1
    exact Snd.retInt hH hr (by simp [Builtin.len_, run_underlying' h1, goInt])
  · exact Snd.fail
end Go.Abs
