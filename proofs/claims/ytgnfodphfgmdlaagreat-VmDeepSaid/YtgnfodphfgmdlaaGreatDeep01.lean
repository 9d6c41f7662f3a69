/- VmDeep answers true at every input and leaves its arguments as they were; no condition: text 1 of 12. -/
import Derived.Orders
import Derived.Scope
import Derived.Laws.World
import Derived.Laws.Sem
set_option linter.all false
/- A transformer of loaded Go code into plain propositions over the memory, and its soundness against the library's weakest preconditions: the ground on which the walks of this claim stand. -/
namespace Go.GX
open Go

/-! ### Environments: which temporaries are known, the newest first -/

abbrev Env := List (Nat × Value)

def lk : Env → Nat → Option Value
  | [], _ => none
  | (k, v) :: r, t => cond (Nat.beq k t) (some v) (lk r t)

def ev (E : Env) : Operand → Option Value
  | .tmp t => lk E t
  | .const v => some v
  | .global g => some (.pointer (some ⟨g, 0, none⟩))
  | .func f => some (.func (.func f) #[] #[])

def rho (E : Env) (x : Operand) : Value :=
  match ev E x with
  | some v => v
  | none => undef

def known (E : Env) (x : Operand) : Bool :=
  match ev E x with
  | some _ => true
  | none => false

def Agrees (E : Env) (a : Act) : Prop := ∀ t v, lk E t = some v → a.tmps[t]? = some v

theorem lk_cons (k : Nat) (v : Value) (r : Env) (t : Nat) : lk ((k, v) :: r) t = if k = t then some v else lk r t := by
  simp only [lk]
  by_cases h : k = t
  · subst h; simp
  · have : Nat.beq k t = false := by rw [← Bool.not_eq_true]; intro hb; exact h (Nat.eq_of_beq_eq_true hb)
    simp [this, h]

theorem Agrees.eval {E : Env} {a : Act} (h : Agrees E a) {x : Operand} (hk : known E x = true) : a.eval x = rho E x := by
  cases x with
  | tmp t =>
    simp only [known, rho, ev] at *
    cases hl : lk E t with
    | none => simp [hl] at hk
    | some v =>
      have := h t v hl
      simp [Act.eval, this]
  | _ => rfl

def Op.noSel : Op → Bool
  | .select .. => false
  | _ => true

theorem Agrees.exec {E : Env} {a : Act} (h : Agrees E a) {o : Oper} (hk : o.op.operands.toList.all (known E) = true) (hs : Op.noSel o.op = true) :
    execOp a.eval o = execOp (rho E) o := by
  refine execOp_congr o (fun cs b he => ?_) (fun x hx => h.eval ?_)
  · rw [he] at hs; simp [Op.noSel] at hs
  · exact List.all_eq_true.1 hk x (by simpa using hx)

/-- The environment behind a value that is put. -/
def putE (N : Nat) (E : Env) (dst : Option Nat) (v : Value) : Env :=
  match dst with
  | some d => cond (Nat.blt d N) ((d, v) :: E) E
  | none => E

theorem Agrees.put {E : Env} {a : Act} (h : Agrees E a) (N : Nat) (hN : N = a.tmps.size) (dst : Option Nat) (v : Value) : Agrees (putE N E dst v) (a.put dst v) := by
  cases dst with
  | none => exact h
  | some d =>
    intro t u hl
    simp only [putE] at hl
    by_cases hd : d < N
    · have hb : Nat.blt d N = true := by simpa [Nat.blt_eq] using hd
      rw [hb] at hl
      simp only [cond_true, lk_cons] at hl
      by_cases e : d = t
      · subst e
        simp only [if_true, Option.some.injEq] at hl
        subst hl
        simp [Act.put, hN ▸ hd]
      · simp only [e, if_false] at hl
        simp [Act.put, Array.getElem?_setIfInBounds_ne e, h t u hl]
    · have hb : Nat.blt d N = false := by rw [← Bool.not_eq_true]; simpa [Nat.blt_eq] using hd
      rw [hb] at hl
      simp only [cond_false] at hl
      have hs : ¬ d < a.tmps.size := by omega
      have : (a.put (some d) v).tmps = a.tmps := by simp [Act.put, Array.setIfInBounds, hs]
      rw [this]; exact h t u hl

/-- The entries whose keys are in a list. -/
def keepE (ks : List Nat) : Env → Env
  | [] => []
  | (k, v) :: r => cond (ks.elem k) ((k, v) :: keepE ks r) (keepE ks r)

/-- The entries whose keys are not in a list. -/
def dropE (ks : List Nat) : Env → Env
  | [] => []
  | (k, v) :: r => cond (ks.elem k) (dropE ks r) ((k, v) :: dropE ks r)

theorem lk_keepE (ks : List Nat) (E : Env) (t : Nat) (v : Value) (h : lk (keepE ks E) t = some v) : t ∈ ks ∧ lk E t = some v := by
  induction E with
  | nil => simp [keepE, lk] at h
  | cons p r ih =>
    obtain ⟨k, u⟩ := p
    rw [lk_cons]
    cases hk : ks.elem k with
    | true =>
      simp only [keepE, hk, cond_true, lk_cons] at h
      split at h
      · rename_i e; subst e; exact ⟨by simpa using hk, by simpa using h⟩
      · rename_i e; rw [if_neg e]; exact ih h
    | false =>
      simp only [keepE, hk, cond_false] at h
      obtain ⟨h1, h2⟩ := ih h
      have : k ≠ t := by rintro rfl; simp at hk; exact hk h1
      rw [if_neg this]; exact ⟨h1, h2⟩

theorem lk_dropE (ks : List Nat) (E : Env) (t : Nat) (v : Value) (h : lk (dropE ks E) t = some v) : t ∉ ks ∧ lk E t = some v := by
  induction E with
  | nil => simp [dropE, lk] at h
  | cons p r ih =>
    obtain ⟨k, u⟩ := p
    rw [lk_cons]
    cases hk : ks.elem k with
    | false =>
      simp only [dropE, hk, cond_false, lk_cons] at h
      split at h
      · rename_i e; subst e; exact ⟨by simpa using hk, by simpa using h⟩
      · rename_i e; rw [if_neg e]; exact ih h
    | true =>
      simp only [dropE, hk, cond_true] at h
      obtain ⟨h1, h2⟩ := ih h
      have : k ≠ t := by rintro rfl; simp at hk; exact h1 hk
      rw [if_neg this]; exact ⟨h1, h2⟩

/-! ### What is read stays: 'Keeps' -/

/-- Every cell of the first world is in the second one as it was. -/
def Keeps (w w' : World) : Prop := ∀ a v, w.cell? a = some v → w'.cell? a = some v

theorem Keeps.refl (w : World) : Keeps w w := fun _ _ h => h
theorem Keeps.trans {a b c : World} (h : Keeps a b) (h' : Keeps b c) : Keeps a c := fun x v e => h' x v (h x v e)

/-! ### Values of operations that write nothing -/

inductive TC where
  | int | bool | str | ptr | other

def tclass (P : Program) (t : TypeId) : TC :=
  match P.underlying t with
  | some (.int _) => .int
  | some .bool => .bool
  | some .string => .str
  | some (.pointer _) => .ptr
  | _ => .other

def arith (op : BinOp) (k : IntKind) (a b : Int) : Option Value :=
  match op with
  | .add => some (.int k (k.wrap (a + b)))
  | .sub => some (.int k (k.wrap (a - b)))
  | .mul => some (.int k (k.wrap (a * b)))
  | .quo => if b = 0 then none else some (.int k (k.wrap (a.tdiv b)))
  | .rem => if b = 0 then none else some (.int k (a.tmod b))
  | .and => some (.int k (k.wrap (BitVec.ofInt k.bits a &&& BitVec.ofInt k.bits b).toNat))
  | .or => some (.int k (k.wrap (BitVec.ofInt k.bits a ||| BitVec.ofInt k.bits b).toNat))
  | .xor => some (.int k (k.wrap (BitVec.ofInt k.bits a ^^^ BitVec.ofInt k.bits b).toNat))
  | .andNot => some (.int k (k.wrap (BitVec.ofInt k.bits a &&& ~~~ BitVec.ofInt k.bits b).toNat))
  | .eql => some (.bool (a == b))
  | .neq => some (.bool (a != b))
  | .lss => some (.bool (a < b))
  | .leq => some (.bool (a ≤ b))
  | .gtr => some (.bool (a > b))
  | .geq => some (.bool (a ≥ b))
  | _ => none

def shiftV (op : BinOp) (k : IntKind) (a b : Int) : Option Value :=
  if b < 0 then none else
  match op with
  | .shl => some (.int k (k.wrap (a * 2 ^ (min b.toNat k.bits))))
  | .shr => some (.int k (a.fdiv (2 ^ (min b.toNat k.bits))))
  | _ => none

def isShift : BinOp → Bool
  | .shl | .shr => true
  | _ => false

def strV (op : BinOp) (a b : ByteArray) : Option Value :=
  match op with
  | .add => if ((a.size + b.size : Nat) : Int) > IntKind.i64.max then none else some (.string (a ++ b))
  | .eql => some (.bool (a.toList == b.toList))
  | .neq => some (.bool (!(a.toList == b.toList)))
  | .lss => some (.bool (Op.bytesLess a.toList b.toList))
  | .gtr => some (.bool (!(Op.bytesLess a.toList b.toList || a.toList == b.toList)))
  | .leq => some (.bool (Op.bytesLess a.toList b.toList || a.toList == b.toList))
  | .geq => some (.bool (!Op.bytesLess a.toList b.toList))
  | _ => none

def binV (c : TC) (op : BinOp) (x y : Value) : Option Value :=
  match x, y with
  | .int k a, .int k' b => if isShift op then shiftV op k a b else if k = k' then arith op k a b else none
  | .string a, .string b => strV op a b
  | .bool a, .bool b =>
    match c, op with
    | .bool, .eql => some (.bool (a == b))
    | .bool, .neq => some (.bool (!(a == b)))
    | _, _ => none
  | .pointer a, .pointer none =>
    match c, op with
    | .ptr, .eql => some (.bool a.isNone)
    | .ptr, .neq => some (.bool (!a.isNone))
    | _, _ => none
  | _, _ => none

theorem underlying_run {P : Program} {t : TypeId} {d : TypeDesc} (h : P.underlying t = some d) (w : World) : (underlying t).run P w = .ok d w := by
  simp [underlying, h]

theorem run_bind_ok {α β : Type} {P : Program} (s : Sem α) (f : α → Sem β) (w : World) {a : α} {w' : World} (h : s.run P w = .ok a w') :
    (s >>= f).run P w = (f a).run P w' := by rw [Sem.run_bind, h]; rfl

/-- 'do pure (.value (← s))' -/
theorem run_value {P : Program} {s : Sem Value} {w : World} {v : Value} {w' : World} (h : s.run P w = .ok v w') :
    (do pure (Next.value (← s)) : Sem Next).run P w = .ok (.value v) w' := by rw [run_bind_ok _ _ _ h]; rfl

theorem eqGuard_int {P : Program} (op : BinOp) (t : TypeId) (x y : Operand) (k k' : IntKind) (a b : Int) (w : World) :
    (eqGuard op t x y (.int k a) (.int k' b)).run P w = .ok () w := by
  simp only [eqGuard]
  split <;> rfl

theorem tclass_bool {P : Program} {t : TypeId} (h : tclass P t = .bool) : P.underlying t = some .bool := by
  unfold tclass at h
  split at h <;> first | cases h; done | assumption

theorem tclass_ptr {P : Program} {t : TypeId} (h : tclass P t = .ptr) : ∃ e, P.underlying t = some (.pointer e) := by
  unfold tclass at h
  split at h <;> first | cases h; done | exact ⟨_, by assumption⟩

theorem equalIn_bool {P : Program} {t : TypeId} (hu : P.underlying t = some .bool) (d : Nat) (a b : Bool) (w : World) :
    (Op.equalIn (d + 1) t (.bool a) (.bool b)).run P w = .ok (a == b) w := by
  simp [Op.equalIn, underlying_run hu]

theorem equal_bool {P : Program} {t : TypeId} (hu : P.underlying t = some .bool) (a b : Bool) (w : World) :
    (Op.equal t (.bool a) (.bool b)).run P w = .ok (a == b) w := equalIn_bool hu 9999 a b w

theorem equalIn_ptr_nil {P : Program} {t e : TypeId} (hu : P.underlying t = some (.pointer e)) (d : Nat) (a : Option Addr) (w : World) :
    (Op.equalIn (d + 1) t (.pointer a) (.pointer none)).run P w = .ok a.isNone w := by
  cases a <;> simp [Op.equalIn, underlying_run hu]

theorem equal_ptr_nil {P : Program} {t e : TypeId} (hu : P.underlying t = some (.pointer e)) (a : Option Addr) (w : World) :
    (Op.equal t (.pointer a) (.pointer none)).run P w = .ok a.isNone w := equalIn_ptr_nil hu 9999 a w

theorem binV_sound {P : Program} {op : BinOp} {t : TypeId} {xo yo : Operand} {x y v : Value} (h : binV (tclass P t) op x y = some v) (w : World) :
    (do eqGuard op t xo yo x y; binOp op t x y : Sem Value).run P w = .ok v w := by
  unfold binV at h
  split at h
  · rename_i k a k' b
    rw [run_bind_ok _ _ w (eqGuard_int op t xo yo k k' a b w)]
    cases op <;> simp [isShift, shiftV, arith] at h <;>
      (first
        | (obtain ⟨h0, rfl⟩ := h; have h1 : ¬ b < 0 := by omega
           simp [binOp, Op.shift, h1]; done)
        | (obtain ⟨rfl, h0, rfl⟩ := h; simp [binOp, Op.intDiv, h0]; done)
        | (obtain ⟨rfl, rfl⟩ := h; simp [binOp, Op.intArith, Op.intBits, Op.intCmp]; done)
        | skip)
  · rename_i a b
    have he : (eqGuard op t xo yo (.string a) (.string b)).run P w = .ok () w := by simp only [eqGuard]; split <;> rfl
    rw [run_bind_ok _ _ w he]
    cases op <;> simp [strV] at h <;>
      (first
        | (obtain ⟨h0, rfl⟩ := h; have h1 : ¬ (9223372036854775807 < (a.size : Int) + b.size) := by omega
           simp [binOp, Op.stringOp, h1]; done)
        | (subst h; simp [binOp, Op.stringOp]; done)
        | skip)
  · rename_i a b
    have he : (eqGuard op t xo yo (.bool a) (.bool b)).run P w = .ok () w := by simp only [eqGuard]; split <;> rfl
    rw [run_bind_ok _ _ w he]
    split at h
    · rename_i hc
      cases h
      simp only [binOp]
      rw [run_bind_ok _ _ w (equal_bool (tclass_bool hc) a b w)]
      rfl
    · rename_i hc
      cases h
      simp only [binOp]
      rw [run_bind_ok _ _ w (equal_bool (tclass_bool hc) a b w)]
      rfl
    · cases h
  · rename_i a
    have he : (eqGuard op t xo yo (.pointer a) (.pointer none)).run P w = .ok () w := by simp only [eqGuard]; split <;> rfl
    rw [run_bind_ok _ _ w he]
    split at h
    · rename_i hc
      obtain ⟨e, hu⟩ := tclass_ptr hc
      cases h
      simp only [binOp]
      rw [run_bind_ok _ _ w (equal_ptr_nil hu a w)]
      rfl
    · rename_i hc
      obtain ⟨e, hu⟩ := tclass_ptr hc
      cases h
      simp only [binOp]
      rw [run_bind_ok _ _ w (equal_ptr_nil hu a w)]
      rfl
    · cases h
  · cases h

/-! ### The other operations that write nothing -/

def unV (op : UnOp) (x : Value) : Option Value :=
  match op, x with
  | .neg, .int k n => some (.int k (k.wrap (0 - n)))
  | .xor, .int k n => some (.int k (k.wrap (BitVec.ofInt k.bits (if k.signed then -1 else k.max) ^^^ BitVec.ofInt k.bits n).toNat))
  | .not, .bool b => some (.bool !b)
  | _, _ => none

theorem unV_sound {P : Program} {op : UnOp} {x v : Value} (h : unV op x = some v) (w : World) : (Op.unary op x).run P w = .ok v w := by
  unfold unV at h
  split at h <;> first | (cases h; done) | (cases h; simp [Op.unary, Op.intArith, Op.intBits])

def pickV (c a b : Value) : Option Value :=
  match c with
  | .bool t => some (cond t a b)
  | _ => none

theorem pickV_sound {P : Program} {c a b v : Value} (h : pickV c a b = some v) (w : World) :
    (do pure (Next.value (if ← asBool c then a else b)) : Sem Next).run P w = .ok (.value v) w := by
  unfold pickV at h
  split at h
  · rename_i t; cases h; cases t <;> simp [asBool]
  · cases h

def nilV (x : Value) : Option Value :=
  match x with
  | .pointer (some a) => some (.pointer (some a))
  | .func (.func f) first captured => some (.func (.func f) first captured)
  | _ => none

def fieldOff (P : Program) (s : TypeId) (f : Nat) : Option Nat :=
  match P.underlying s with
  | some (.struct fields) =>
    match fields.toList[f]? with
    | some fl =>
      match P.info? fl.type with
      | some i => cond (Nat.beq i.size 0) none (some fl.offset)
      | none => none
    | none => none
  | _ => none

def faddV (off : Option Nat) (x : Value) : Option Value :=
  match off, x with
  | some n, .pointer (some a) => some (.pointer (some (a.add n)))
  | _, _ => none

theorem faddV_sound {P : Program} {s : TypeId} {f : Nat} {x v : Value} (h : faddV (fieldOff P s f) x = some v) (w : World) :
    (Instr.fieldAt s x f).run P w = .ok v w := by
  unfold faddV at h
  split at h
  · rename_i n a hf
    cases h
    unfold fieldOff at hf
    split at hf
    · rename_i fields hu
      split at hf
      · rename_i fl hfl
        have hfl' : fields[f]? = some fl := by simpa using hfl
        split at hf
        · rename_i i hi
          cases hb : Nat.beq i.size 0 with
          | true => simp [hb] at hf
          | false =>
            simp only [hb, cond_false, Option.some.injEq] at hf
            subst hf
            have hne : i.size ≠ 0 := by intro e; rw [e] at hb; simp at hb
            simp [Instr.fieldAt, underlying_run hu, hfl', Instr.sureAddr, fieldPlace, sizeOf, typeInfo, hi, hne]
        · cases hf
      · cases hf
    · cases hf
  · cases h

inductive FP where
  | one (off : Nat)
  | agg (off size : Nat)

def isAggB (P : Program) (t : TypeId) : Option Bool :=
  match P.underlying t with
  | some (.struct _) => some true
  | some (.array _ _) => some true
  | some _ => some false
  | none => none

theorem isAggB_run {P : Program} {t : TypeId} {b : Bool} (h : isAggB P t = some b) (w : World) : (isAgg t).run P w = .ok b w := by
  unfold isAggB at h
  split at h
  · rename_i hu; cases h; simp [isAgg, underlying_run hu]
  · rename_i hu; cases h; simp [isAgg, underlying_run hu]
  · rename_i d h1 h2 hu
    cases h
    simp only [isAgg, Sem.run_bind, underlying_run hu, Result.andThen_ok]
    rfl
  · cases h

def sizeB (P : Program) (t : TypeId) : Option Nat :=
  match P.info? t with
  | some i => some i.size
  | none => none

theorem sizeB_run {P : Program} {t : TypeId} {n : Nat} (h : sizeB P t = some n) (w : World) : (sizeOf t).run P w = .ok n w := by
  unfold sizeB at h
  split at h
  · rename_i i hi; cases h; simp [sizeOf, typeInfo, hi]
  · cases h

def partP (P : Program) (t : TypeId) (off : Nat) : Option FP :=
  match isAggB P t, sizeB P t with
  | some true, some n => some (.agg off n)
  | some false, some _ => some (.one off)
  | _, _ => none

def fieldP (P : Program) (s : TypeId) (f : Nat) : Option FP :=
  match P.underlying s with
  | some (.struct fields) =>
    match fields.toList[f]? with
    | some fl => partP P fl.type fl.offset
    | none => none
  | _ => none

def fieldV (c : Option FP) (x : Value) : Option Value :=
  match c, x with
  | some (.one o), .agg cs => cs.toList[o]?
  | some (.agg o n), .agg cs => some (.agg (cs.extract o (o + n)))
  | _, _ => none

theorem partP_sound {P : Program} {t : TypeId} {off : Nat} {cs : Array Value} {v : Value} (h : fieldV (partP P t off) (.agg cs) = some v) (w : World) :
    (part t cs off).run P w = .ok v w := by
  unfold partP at h
  split at h
  · rename_i n ha hs
    simp only [fieldV, Option.some.injEq] at h
    subst h
    simp [part, isAggB_run ha, sizeB_run hs]
  · rename_i n ha hs
    simp only [fieldV] at h
    have h' : cs[off]? = some v := by simpa using h
    simp [part, isAggB_run ha, h']
  · simp [fieldV] at h

theorem fieldV_sound {P : Program} {s : TypeId} {f : Nat} {x v : Value} (h : fieldV (fieldP P s f) x = some v) (w : World) :
    (Instr.field s x f).run P w = .ok v w := by
  cases x with
  | agg cs =>
    unfold fieldP at h
    split at h
    · rename_i fields hu
      split at h
      · rename_i fl hfl
        have hfl' : fields[f]? = some fl := by simpa using hfl
        simp [Instr.field, underlying_run hu, hfl', asAgg, partP_sound h]
      · simp [fieldV] at h
    · simp [fieldV] at h
  | _ => unfold fieldV at h; split at h <;> simp_all

inductive IX where
  | sl (size : Nat)
  | ar (len size : Nat)

def idxP (P : Program) (t : TypeId) : Option IX :=
  match P.underlying t with
  | some (.slice e) => match sizeB P e with
    | some n => some (.sl n)
    | none => none
  | some (.array len e) => match sizeB P e with
    | some n => some (.ar len n)
    | none => none
  | _ => none

def iaddV (c : Option IX) (x i : Value) : Option Value :=
  match c, x, i with
  | some (.sl n), .slice (some a) len _, .int _ i => if 0 ≤ i ∧ i < len then some (.pointer (some (a.add (i.toNat * n)))) else none
  | some (.ar len n), .pointer (some a), .int _ i => if 0 ≤ i ∧ i < len then some (.pointer (some (a.add (i.toNat * n)))) else none
  | _, _, _ => none

theorem iaddV_sound {P : Program} {t : TypeId} {x i v : Value} (h : iaddV (idxP P t) x i = some v) (w : World) : (Instr.indexAt t x i).run P w = .ok v w := by
  unfold iaddV at h
  split at h
  · rename_i n a len c k j hc
    split at h
    · rename_i hb
      cases h
      unfold idxP at hc
      split at hc
      · rename_i e hu
        split at hc
        · rename_i m hs; cases hc; simp [Instr.indexAt, asIntOf, underlying_run hu, hb, sizeB_run hs]
        · cases hc
      · split at hc <;> cases hc
      · cases hc
    · cases h
  · rename_i len n a k j hc
    split at h
    · rename_i hb
      cases h
      unfold idxP at hc
      split at hc
      · split at hc <;> cases hc
      · rename_i ln e hu
        split at hc
        · rename_i m hs; cases hc; simp [Instr.indexAt, Instr.sureAddr, asIntOf, underlying_run hu, hb, sizeB_run hs]
        · cases hc
      · cases hc
    · cases h
  · cases h

theorem tclass_str {P : Program} {t : TypeId} (h : tclass P t = .str) : P.underlying t = some .string := by
  unfold tclass at h
  split at h <;> first | cases h; done | assumption

def indexV (c : TC) (x i : Value) : Option Value :=
  match c, x, i with
  | .str, .string s, .int _ i =>
    if 0 ≤ i then
      match s[i.toNat]? with
      | some b => some (.int .u8 b.toNat)
      | none => none
    else none
  | _, _, _ => none

theorem indexV_sound {P : Program} {t : TypeId} {x i v : Value} (h : indexV (tclass P t) x i = some v) (w : World) : (Instr.index t x i).run P w = .ok v w := by
  unfold indexV at h
  split at h
  · rename_i s k j hc
    split at h
    · rename_i hj
      split at h
      · rename_i b hb
        cases h
        simp [Instr.index, asIntOf, underlying_run (tclass_str hc), hj, hb]
      · cases h
    · cases h
  · cases h

def extractV (x : Value) (i : Nat) : Option Value :=
  match x with
  | .tuple vs => vs.toList[i]?
  | _ => none

theorem extractV_sound {P : Program} {x v : Value} {i : Nat} (h : extractV x i = some v) (w : World) : (Instr.extract x i).run P w = .ok v w := by
  unfold extractV at h
  split at h
  · rename_i vs
    have h' : vs[i]? = some v := by simpa using h
    simp [Instr.extract, h']
  · cases h

inductive SLK where
  | str
  | sl (size : Nat)

def slP (P : Program) (t : TypeId) : Option SLK :=
  match P.underlying t with
  | some .string => some .str
  | some (.slice e) => match sizeB P e with
    | some n => some (.sl n)
    | none => none
  | _ => none

/-- One bound of a slice expression: an int from 0 up to 'top'. -/
def bound (v : Option Value) (top dflt : Nat) : Option Nat :=
  match v with
  | none => some dflt
  | some (.int _ i) => if 0 ≤ i ∧ i ≤ top then some i.toNat else none
  | _ => none

def sliceV (c : Option SLK) (x : Value) (lo hi : Option Value) : Option Value :=
  match c, x with
  | some .str, .string s =>
    match bound hi s.size s.size with
    | some h => match bound lo h 0 with
      | some l => some (.string (s.extract l h))
      | none => none
    | none => none
  | some (.sl n), .slice a len cap =>
    match bound hi cap len with
    | some h => match bound lo h 0 with
      | some l => some (.slice (if cap = l then a else a.map (·.add (l * n))) (h - l) (cap - l))
      | none => none
    | none => none
  | _, _ => none

theorem bound_sound {P : Program} {v : Value} {top d n : Nat} (h : bound (some v) top d = some n) (c : BoundsCode) (w : World) :
    (Instr.sliceBound v top c).run P w = .ok n w := by
  cases v <;> simp only [bound] at h <;> try (cases h; done)
  split at h
  · rename_i hb; cases h; simp [Instr.sliceBound, asIntOf, hb]
  · cases h

theorem sliceBounds_sound {P : Program} {s : Bool} {len cap h l : Nat} {lo hi : Option Value} (hh : bound hi cap len = some h) (hl : bound lo h 0 = some l) (w : World) :
    (Instr.sliceBounds s len cap lo hi none).run P w = .ok (l, h, cap) w := by
  cases hi with
  | none =>
    simp only [bound, Option.some.injEq] at hh
    subst hh
    cases lo with
    | none => simp only [bound, Option.some.injEq] at hl; subst hl; simp [Instr.sliceBounds]
    | some v => simp [Instr.sliceBounds, bound_sound hl]
  | some u =>
    cases lo with
    | none => simp only [bound, Option.some.injEq] at hl; subst hl; simp [Instr.sliceBounds, bound_sound hh]
    | some v => simp [Instr.sliceBounds, bound_sound hh, bound_sound hl]

theorem sliceV_sound {P : Program} {t : TypeId} {x v : Value} {lo hi : Option Value} (h : sliceV (slP P t) x lo hi = some v) (w : World) :
    (Instr.sliceAt t x lo hi none).run P w = .ok v w := by
  unfold sliceV at h
  split at h
  · rename_i s hc
    have hu : P.underlying t = some .string := by
      unfold slP at hc; split at hc
      · assumption
      · split at hc <;> cases hc
      · cases hc
    split at h
    · rename_i hn h1
      split at h
      · rename_i ln h2
        cases h
        simp [Instr.sliceAt, Instr.slice, underlying_run hu, sliceBounds_sound h1 h2]
      · cases h
    · cases h
  · rename_i n a len cap hc
    obtain ⟨e, hu, hs⟩ : ∃ e, P.underlying t = some (.slice e) ∧ sizeB P e = some n := by
      unfold slP at hc; split at hc
      · cases hc
      · rename_i e hu
        split at hc
        · rename_i m hs; cases hc; exact ⟨e, hu, hs⟩
        · cases hc
      · cases hc
    split at h
    · rename_i hn h1
      split at h
      · rename_i ln h2
        cases h
        simp [Instr.sliceAt, Instr.slice, underlying_run hu, sliceBounds_sound h1 h2, sizeB_run hs]
      · cases h
    · cases h
  · cases h

def lenV (c : Option SLK) (x : Value) : Option Value :=
  match c, x with
  | some .str, .string s => some (.int .i64 s.size)
  | some (.sl _), .slice _ n _ => some (.int .i64 n)
  | _, _ => none

theorem slP_str {P : Program} {t : TypeId} (h : slP P t = some .str) : P.underlying t = some .string := by
  unfold slP at h; split at h
  · assumption
  · split at h <;> cases h
  · cases h

theorem slP_sl {P : Program} {t : TypeId} {n : Nat} (h : slP P t = some (.sl n)) : ∃ e, P.underlying t = some (.slice e) ∧ sizeB P e = some n := by
  unfold slP at h; split at h
  · cases h
  · rename_i e hu
    split at h
    · rename_i m hs; cases h; exact ⟨e, hu, hs⟩
    · cases h
  · cases h

theorem lenV_sound {P : Program} {t ty : TypeId} {x v : Value} {ts : Array TypeId} {xs : Array Value} (ht : ts[0]? = some t) (hx : xs[0]? = some x)
    (h : lenV (slP P t) x = some v) (w : World) : (Builtin.len_ ts ty xs).run P w = .ok v w := by
  unfold lenV at h
  split at h
  · rename_i s hc; cases h; simp [Builtin.len_, ht, hx, underlying_run (slP_str hc), goInt]
  · rename_i n a m k hc
    cases h
    obtain ⟨e, hu, _⟩ := slP_sl hc
    simp [Builtin.len_, ht, hx, underlying_run hu, goInt]
  · cases h

def min2V (x y : Value) : Option Value :=
  match x, y with
  | .int k a, .int _ b => some (.int k (if b < a then b else a))
  | _, _ => none

def max2V (x y : Value) : Option Value :=
  match x, y with
  | .int k a, .int _ b => some (.int k (if b > a then b else a))
  | _, _ => none

theorem min2V_sound {P : Program} {x y v : Value} (h : min2V x y = some v) (w : World) : (Builtin.min2 x y).run P w = .ok v w := by
  unfold min2V at h
  split at h
  · cases h; simp [Builtin.min2]
  · cases h

theorem max2V_sound {P : Program} {x y v : Value} (h : max2V x y = some v) (w : World) : (Builtin.max2 x y).run P w = .ok v w := by
  unfold max2V at h
  split at h
  · cases h; simp [Builtin.max2]
  · cases h

/-! ### Literals: build -/

/-- The list with other values from a place on. -/
def setRange : List Value → Nat → List Value → List Value
  | l, _, [] => l
  | l, o, v :: r => setRange (l.set o v) (o + 1) r

theorem setRange_length (l : List Value) (o : Nat) (vs : List Value) : (setRange l o vs).length = l.length := by
  induction vs generalizing l o with
  | nil => rfl
  | cons v r ih => simp [setRange, ih]

def fillL (pl : Nat → Option (Nat × Nat)) : List Value → List (Nat × Value) → Option (List Value)
  | cells, [] => some cells
  | cells, (i, v) :: r =>
    match pl i with
    | some (off, size) => if v.cells.toList.length = size ∧ off + size ≤ cells.length then fillL pl (setRange cells off v.cells.toList) r else none
    | none => none

theorem foldl_setRange (vs : List Value) : ∀ (k o : Nat) (l : List Value),
    ((vs.zipIdx k).foldl (fun (cs : Array Value) (p : Value × Nat) => cs.setIfInBounds (o + p.2) p.1) l.toArray) = (setRange l (o + k) vs).toArray := by
  induction vs with
  | nil => intro k o l; rfl
  | cons v r ih =>
    intro k o l
    simp only [List.zipIdx_cons, List.foldl_cons, setRange]
    rw [show l.toArray.setIfInBounds (o + k) v = (l.set (o + k) v).toArray by simp, ih (k + 1) o]
    rfl

theorem fillL_sound (pl : Nat → Option (Nat × Nat)) : ∀ (parts : List (Nat × Value)) (cells out : List Value), fillL pl cells parts = some out →
    Instr.fill pl cells.toArray parts = some out.toArray := by
  intro parts
  induction parts with
  | nil => intro cells out h; simp only [fillL, Option.some.injEq] at h; subst h; rfl
  | cons p r ih =>
    intro cells out h
    obtain ⟨i, v⟩ := p
    simp only [fillL] at h
    simp only [Instr.fill]
    split at h
    · rename_i off size hp
      simp only [hp]
      split at h
      · rename_i hb
        obtain ⟨h1, h2⟩ := hb
        have h1' : v.cells.size = size := by simpa using h1
        rw [if_neg (by rw [h1']; simp; omega)]
        have hf := foldl_setRange v.cells.toList 0 off cells
        have := ih _ _ h
        rw [← Array.foldl_toList]
        rw [show v.cells.zipIdx.toList = v.cells.toList.zipIdx 0 by simp]
        rw [Nat.add_zero] at hf
        rw [hf]; exact this
      · cases h
    · cases h

/-- Where the fields of a struct lie. -/
def placesP (P : Program) : List Field → Option (List (Nat × Nat))
  | [] => some []
  | f :: r =>
    match sizeB P f.type, placesP P r with
    | some n, some l => some ((f.offset, n) :: l)
    | _, _ => none

theorem placesP_run {P : Program} : ∀ {fs : List Field} {pl : List (Nat × Nat)} (_ : placesP P fs = some pl) (w : World),
    (fs.mapM (fun f => do pure (f.offset, ← sizeOf f.type)) : Sem (List (Nat × Nat))).run P w = .ok pl w := by
  intro fs
  induction fs with
  | nil => intro pl h w; simp only [placesP, Option.some.injEq] at h; subst h; simp
  | cons f r ih =>
    intro pl h w
    simp only [placesP] at h
    split at h
    · rename_i n l hn hl
      cases h
      rw [List.mapM_cons, Sem.run_bind, Sem.run_bind, sizeB_run hn, Result.andThen_ok, Sem.run_pure, Result.andThen_ok, Sem.run_bind, ih hl, Result.andThen_ok]
      rfl
    · cases h

def zeroB (P : Program) (t : TypeId) : Option (List Value) :=
  match P.info? t with
  | some i => match i.zero with
    | some v => some v.cells.toList
    | none => none
  | none => none

theorem zeroB_run {P : Program} {t : TypeId} {l : List Value} (h : zeroB P t = some l) (w : World) : ∃ z, (zeroValue t).run P w = .ok z w ∧ z.cells.toList = l := by
  unfold zeroB at h
  split at h
  · rename_i i hi
    split at h
    · rename_i v hv; cases h; exact ⟨v, by simp [zeroValue, typeInfo, hi, hv], rfl⟩
    · cases h
  · cases h

inductive BK where
  | fields (places : List (Nat × Nat)) (zero : List Value)
  | elems (size : Nat) (zero : List Value)

def bldP (P : Program) (t : TypeId) : Option BK :=
  match P.underlying t, zeroB P t with
  | some (.struct fs), some z => match placesP P fs.toList with
    | some pl => some (.fields pl z)
    | none => none
  | some (.array _ e), some z => match sizeB P e with
    | some n => some (.elems n z)
    | none => none
  | _, _ => none

def buildV (c : Option BK) (parts : List (Nat × Value)) : Option Value :=
  match c with
  | some (.fields pl z) => match fillL (fun i => pl[i]?) z parts with
    | some l => some (.agg l.toArray)
    | none => none
  | some (.elems n z) => match fillL (fun i => some (i * n, n)) z parts with
    | some l => some (.agg l.toArray)
    | none => none
  | none => none

theorem buildV_sound {P : Program} {t : TypeId} {parts : Array (Nat × Value)} {v : Value} (h : buildV (bldP P t) parts.toList = some v) (w : World) :
    (Instr.build t parts).run P w = .ok v w := by
  unfold buildV at h
  split at h
  · rename_i pl z hc
    split at h
    · rename_i l hl
      cases h
      unfold bldP at hc
      split at hc
      · rename_i fs z' hu hz
        split at hc
        · rename_i pl' hpl
          cases hc
          obtain ⟨zv, hzr, hzc⟩ := zeroB_run hz w
          have hz' : zv.cells = z.toArray := by rw [← hzc]
          have hfill := fillL_sound _ _ _ _ hl
          have hm : (fs.mapM (fun f => do pure (f.offset, ← sizeOf f.type)) : Sem (Array (Nat × Nat))).run P w = .ok pl.toArray w := by
            rw [Array.mapM_eq_mapM_toList]
            rw [Sem.run_map, placesP_run hpl w]; rfl
          simp only [Instr.build, Sem.run_bind, hzr, Result.andThen_ok, underlying_run hu, hm, hz']
          rw [show (fun x => pl.toArray[x]?) = (fun i => pl[i]?) by funext i; simp]
          rw [hfill]; rfl
        · cases hc
      · rename_i hu hz; split at hc <;> cases hc
      · cases hc
    · cases h
  · rename_i n z hc
    split at h
    · rename_i l hl
      cases h
      unfold bldP at hc
      split at hc
      · split at hc <;> cases hc
      · rename_i ln e z' hu hz
        split at hc
        · rename_i m hs
          cases hc
          obtain ⟨zv, hzr, hzc⟩ := zeroB_run hz w
          have hz' : zv.cells = z.toArray := by rw [← hzc]
          have hfill := fillL_sound _ _ _ _ hl
          simp only [Instr.build, Sem.run_bind, hzr, Result.andThen_ok, underlying_run hu, sizeB_run hs, hz']
          rw [hfill]; rfl
        · cases hc
      · cases hc
    · cases h
  · cases h

/-! ### Loads -/

def rdCells (w : World) (a : Addr) : Nat → Nat → Option (List Value)
  | 0, _ => some []
  | n + 1, i =>
    match w.cell? (a.add i), rdCells w a n (i + 1) with
    | some v, some l => some (v :: l)
    | _, _ => none

theorem rdCells_run {P : Program} {w : World} {a : Addr} : ∀ (n i : Nat) (acc : Array Value) {l : List Value}, rdCells w a n i = some l →
    (loadCellsFrom a i n acc).run P w = .ok (acc ++ l.toArray) w := by
  intro n
  induction n with
  | zero => intro i acc l h; simp only [rdCells, Option.some.injEq] at h; subst h; simp [loadCellsFrom]
  | succ n ih =>
    intro i acc l h
    simp only [rdCells] at h
    split at h
    · rename_i v l' hv hl
      cases h
      have h1 : (load (a.add i)).run P w = .ok v w := by simp [load, Sem.run, hv]
      simp only [loadCellsFrom, Sem.run_bind, h1, Result.andThen_ok]
      rw [ih (i + 1) (acc.push v) hl]
      simp
    · cases h

theorem rdCells_keeps {w w' : World} (hk : Keeps w w') {a : Addr} : ∀ (n i : Nat) {l : List Value}, rdCells w a n i = some l → rdCells w' a n i = some l := by
  intro n
  induction n with
  | zero => intro i l h; exact h
  | succ n ih =>
    intro i l h
    simp only [rdCells] at h ⊢
    split at h
    · rename_i v l' hv hl
      cases h
      rw [hk _ _ hv, ih _ hl]
    · cases h

inductive LDK where
  | one
  | many (n : Nat)

def ldP (P : Program) (t : TypeId) : Option LDK :=
  match isAggB P t, sizeB P t with
  | some true, some n => some (.many n)
  | some false, _ => some .one
  | _, _ => none

def loadV (c : Option LDK) (w : World) (x : Value) : Option Value :=
  match c, x with
  | some .one, .pointer (some a) => w.cell? a
  | some (.many n), .pointer (some a) =>
    match rdCells w a n 0 with
    | some l => some (.agg l.toArray)
    | none => none
  | _, _ => none

theorem loadV_sound {P : Program} {t : TypeId} {x v : Value} {w : World} (h : loadV (ldP P t) w x = some v) : (Instr.loadAt t x).run P w = .ok v w := by
  unfold loadV at h
  split at h
  · rename_i a hc
    have ha : isAggB P t = some false := by
      unfold ldP at hc; split at hc <;> first | cases hc; done | assumption
    simp [Instr.loadAt, Instr.sureAddr, loadVar, isAggB_run ha, h]
  · rename_i n a hc
    have ha : isAggB P t = some true ∧ sizeB P t = some n := by
      unfold ldP at hc; split at hc
      · rename_i h1 h2; cases hc; exact ⟨h1, h2⟩
      · cases hc
      · cases hc
    split at h
    · rename_i l hl
      cases h
      have := rdCells_run (P := P) n 0 #[] hl
      simp [Instr.loadAt, Instr.sureAddr, loadVar, isAggB_run ha.1, sizeB_run ha.2, loadCells, this]
    · cases h
  · cases h

theorem loadV_keeps {c : Option LDK} {w w' : World} (hk : Keeps w w') {x v : Value} (h : loadV c w x = some v) : loadV c w' x = some v := by
  unfold loadV at h ⊢
  split at h
  · exact hk _ _ h
  · split at h
    · rename_i l hl; cases h; simp [rdCells_keeps hk _ _ hl]
    · cases h
  · cases h

/-! ### One operation -/

def cvP (P : Program) (s d : TypeId) : Option IntKind :=
  match P.underlying s, P.underlying d with
  | some _, some (.int k) => some k
  | _, _ => none

def convV (c : Option IntKind) (x : Value) : Option Value :=
  match c, x with
  | some k, .int _ n => some (.int k (k.wrap n))
  | _, _ => none

theorem convV_sound {P : Program} {s d : TypeId} {x v : Value} (h : convV (cvP P s d) x = some v) (w : World) : (convert s d x).run P w = .ok v w := by
  unfold convV at h
  split at h
  · rename_i k k' n hc
    cases h
    unfold cvP at hc
    split at hc
    · rename_i hs hd
      cases hc
      simp [convert, underlying_run hs, underlying_run hd, Conv.intToInt]
    · cases hc
  · cases h

def ifcP (P : Program) (t : TypeId) : Bool :=
  match P.underlying t with
  | some (.interface _) => false
  | some _ => true
  | none => false

theorem ifcP_sound {P : Program} {t : TypeId} (h : ifcP P t = true) (x : Value) (w : World) : (Instr.makeInterface t x).run P w = .ok (.iface t x) w := by
  unfold ifcP at h
  split at h
  · cases h
  · rename_i d hd hu
    simp only [Instr.makeInterface, Sem.run_bind, underlying_run hu, Result.andThen_ok]
    rfl
  · cases h

def foldl2 (f : Value → Value → Option Value) : Value → List Value → Option Value
  | x, [] => some x
  | x, y :: r =>
    match f x y with
    | some z => foldl2 f z r
    | none => none

theorem foldl2_sound {P : Program} {f : Value → Value → Option Value} {g : Value → Value → Sem Value} (hfg : ∀ x y v w, f x y = some v → (g x y).run P w = .ok v w) :
    ∀ (l : List Value) (x v : Value) (w : World), foldl2 f x l = some v → (l.foldlM g x).run P w = .ok v w := by
  intro l
  induction l with
  | nil => intro x v w h; simp only [foldl2, Option.some.injEq] at h; subst h; rfl
  | cons y r ih =>
    intro x v w h
    simp only [foldl2] at h
    split at h
    · rename_i z hz
      rw [List.foldlM_cons, Sem.run_bind, hfg _ _ _ w hz, Result.andThen_ok]
      exact ih _ _ _ h
    · cases h

def args2 (E : Env) (l : List Operand) : List Value := l.map (rho E)

def firstOf (f : Value → Value → Option Value) : List Value → Option Value
  | [] => none
  | x :: r => foldl2 f x r

def isVB : Builtin → Bool
  | .len | .max | .min => true
  | _ => false

def isV (P : Program) : Op → Bool
  | .move _ | .assign _ | .pick .. | .nilCheck _ | .binOp .. | .unOp .. | .fieldAddr .. | .field .. | .indexAddr .. | .index .. | .extract .. | .slice _ _ _ _ none
  | .makeFunc .. | .makeInterface .. | .build .. | .load .. => true
  | .convert s d _ => match cvP P s d with
    | some _ => true
    | none => false
  | .call c => match c.callee with
    | .builtin b => isVB b
    | _ => false
  | _ => false

def lenOp (P : Program) (ts : List TypeId) (xs : List Value) : Option Value :=
  match ts, xs with
  | t :: _, x :: _ => lenV (slP P t) x
  | _, _ => none

def opV (P : Program) (E : Env) (o : Op) (w : World) : Option Value :=
  match o with
  | .move x => some (rho E x)
  | .assign x => some (rho E x)
  | .pick c a b => pickV (rho E c) (rho E a) (rho E b)
  | .nilCheck x => nilV (rho E x)
  | .binOp op t x y _ => binV (tclass P t) op (rho E x) (rho E y)
  | .unOp op _ x => unV op (rho E x)
  | .convert s d x => convV (cvP P s d) (rho E x)
  | .fieldAddr s x f => faddV (fieldOff P s f) (rho E x)
  | .field s x f => fieldV (fieldP P s f) (rho E x)
  | .indexAddr t x i => iaddV (idxP P t) (rho E x) (rho E i)
  | .index t x i => indexV (tclass P t) (rho E x) (rho E i)
  | .extract x i => extractV (rho E x) i
  | .slice t x lo hi none => sliceV (slP P t) (rho E x) (lo.map (rho E)) (hi.map (rho E))
  | .makeFunc fn first captured => some (.func fn (args2 E first.toList).toArray (args2 E captured.toList).toArray)
  | .makeInterface t x => cond (ifcP P t) (some (.iface t (rho E x))) none
  | .build t parts => buildV (bldP P t) (parts.toList.map fun p => (p.1, rho E p.2))
  | .load t x => loadV (ldP P t) w (rho E x)
  | .call c =>
    match c.callee with
    | .builtin .len => lenOp P c.argTypes.toList (args2 E c.args.toList)
    | .builtin .max => firstOf max2V (args2 E c.args.toList)
    | .builtin .min => firstOf min2V (args2 E c.args.toList)
    | _ => none
  | _ => none

theorem opV_keeps {P : Program} {E : Env} {o : Op} {w w' : World} (hk : Keeps w w') {v : Value} (h : opV P E o w = some v) : opV P E o w' = some v := by
  unfold opV at h ⊢
  split at h <;> first | exact h | exact loadV_keeps hk h

theorem map_args (E : Env) (l : Array Operand) : l.map (rho E) = (args2 E l.toList).toArray := by
  apply Array.toList_inj.1; simp [args2]

theorem run_nil {P : Program} {x v : Value} (h : nilV x = some v) (w : World) (ρ : Operand → Value) (y : Operand) (hy : ρ y = x) (d : Option Nat) (ty : TypeId) (pos : String) (af : Array Edge) (g : Option (Nat × Bool)) :
    (execOp ρ { dst := d, op := .nilCheck y, type := ty, pos := pos, after := af, guard := g }).run P w = .ok (.value v) w := by
  simp only [execOp, hy]
  unfold nilV at h
  split at h <;> first | (cases h; rfl) | (cases h; done)

theorem opV_exec {P : Program} {E : Env} {o : Oper} {w : World} {v : Value} (hv : isV P o.op = true) (h : opV P E o.op w = some v) :
    (execOp (rho E) o).run P w = .ok (.value v) w := by
  obtain ⟨dst, op, ty, pos, af, gd⟩ := o
  cases op <;> simp only [isV, Bool.false_eq_true] at hv <;> simp only [opV] at h
  case move x => cases h; rfl
  case assign x => cases h; rfl
  case pick c a b => exact pickV_sound h w
  case nilCheck x => exact run_nil h w _ x rfl _ _ _ _ _
  case binOp op t x y yt => exact run_value (binV_sound h w)
  case unOp op t x => exact run_value (unV_sound h w)
  case convert s d x => exact run_value (convV_sound h w)
  case fieldAddr s x f => exact run_value (faddV_sound h w)
  case field s x f => exact run_value (fieldV_sound h w)
  case indexAddr t x i => exact run_value (iaddV_sound h w)
  case index t x i => exact run_value (indexV_sound h w)
  case extract x i => exact run_value (extractV_sound h w)
  case slice t x lo hi mx =>
    cases mx with
    | some m => simp at hv
    | none => exact run_value (sliceV_sound h w)
  case makeFunc fn first captured =>
    cases h
    simp only [execOp, map_args]
    rfl
  case makeInterface t x =>
    cases hi : ifcP P t with
    | true => rw [hi] at h; cases h; exact run_value (ifcP_sound hi _ w)
    | false => rw [hi] at h; cases h
  case build t parts =>
    refine run_value (buildV_sound ?_ w)
    rw [← h]
    congr 1
    simp
  case load t x => exact run_value (loadV_sound h)
  case call c =>
    obtain ⟨callee, args, ts⟩ := c
    cases callee with
    | builtin b =>
      simp only [execOp, resolve, map_args]
      cases b <;> simp only [isVB, Bool.false_eq_true] at hv
      case len =>
        simp only at h
        unfold lenOp at h
        split at h
        · rename_i t tr x xr ht hx
          have ht' : ts[0]? = some t := by rw [← Array.getElem?_toList, ht]; rfl
          have hx' : (args2 E args.toList).toArray[0]? = some x := by rw [List.getElem?_toArray, hx]; rfl
          simp only [pure_bind, invoke, builtin]
          exact run_value (lenV_sound ht' hx' h w)
        · cases h
      case max =>
        simp only at h
        unfold firstOf at h
        split at h
        · cases h
        · rename_i x r hx
          simp only [pure_bind, invoke, builtin]
          refine run_value ?_
          simp only [Builtin.max_, hx]
          exact foldl2_sound (fun _ _ _ w h => max2V_sound h w) _ _ _ w h
      case min =>
        simp only at h
        unfold firstOf at h
        split at h
        · cases h
        · rename_i x r hx
          simp only [pure_bind, invoke, builtin]
          refine run_value ?_
          simp only [Builtin.min_, hx]
          exact foldl2_sound (fun _ _ _ w h => min2V_sound h w) _ _ _ w h
    | value f => simp at hv
    | invoke r m => simp at hv

/-! ### Operations that write, make memory, or call -/

def wrCells (w : World) (a : Addr) : List Value → Nat → Option World
  | [], _ => some w
  | v :: r, i =>
    match w.cell? (a.add i) with
    | some _ => cond (w.frozen? (a.add i)) none (cond v.oneCell' (wrCells (w.setCell (a.add i) v) a r (i + 1)) none)
    | none => none

/-- What a call of these functions leaves alone beside the heap. -/
def Io (w w' : World) : Prop := w'.os = w.os ∧ w'.output = w.output
theorem Io.refl (w : World) : Io w w := ⟨rfl, rfl⟩
theorem Io.trans {a b c : World} (h : Io a b) (h' : Io b c) : Io a c := ⟨h'.1.trans h.1, h'.2.trans h.2⟩

theorem wrCells_io {a : Addr} : ∀ (l : List Value) (i : Nat) {w w' : World}, wrCells w a l i = some w' → Io w w' := by
  intro l
  induction l with
  | nil => intro i w w' h; simp only [wrCells, Option.some.injEq] at h; subst h; exact Io.refl _
  | cons v r ih =>
    intro i w w' h
    simp only [wrCells] at h
    split at h
    · cases hf : w.frozen? (a.add i) with
      | true => rw [hf] at h; cases h
      | false =>
        rw [hf] at h
        cases hv : v.oneCell' with
        | false => rw [hv] at h; cases h
        | true => rw [hv] at h; exact Io.trans (show Io w (w.setCell (a.add i) v) from ⟨rfl, rfl⟩) (ih _ h)
    · cases h

theorem wrCells_run {P : Program} {a : Addr} : ∀ (l : List Value) (i : Nat) {w w' : World}, wrCells w a l i = some w' →
    (storeCells a l i).run P w = .ok () w' := by
  intro l
  induction l with
  | nil => intro i w w' h; simp only [wrCells, Option.some.injEq] at h; subst h; rfl
  | cons v r ih =>
    intro i w w' h
    simp only [wrCells] at h
    split at h
    · rename_i u hu
      cases hf : w.frozen? (a.add i) with
      | true => simp [hf] at h
      | false =>
        cases ho : v.oneCell' with
        | false => simp [hf, ho] at h
        | true =>
          simp only [hf, ho, cond_false, cond_true] at h
          have h1 : (store (a.add i) v).run P w = .ok () (w.setCell (a.add i) v) := by
            cases v <;> simp [Value.oneCell'] at ho <;> simp [store, Sem.run, hu, hf]
          simp only [storeCells, Sem.run_bind, h1, Result.andThen_ok]
          exact ih _ h
    · cases h

/-- A store. -/
def STO (n : Option Nat) (w : World) (x v : Value) (K : World → Prop) : Prop :=
  match n, x with
  | some n, .pointer (some a) =>
    v.cells.toList.length = n ∧ match wrCells w a v.cells.toList 0 with
    | some w' => K w'
    | none => False
  | _, _ => False

def ALC (z : Option (List Value)) (t : TypeId) (w : World) (K : Value → World → Prop) : Prop :=
  match z with
  | some l => K (.pointer (some ⟨w.heap.size, 0, none⟩)) (w.alloc (.cells l.toArray t))
  | none => False

inductive BSK where
  | mk (elem : TypeId) (size : Nat) (zero : List Value)

def bslP (P : Program) (t : TypeId) : Option BSK :=
  match P.underlying t with
  | some (.slice e) => match sizeB P e, zeroB P e with
    | some n, some z => some (.mk e n z)
    | _, _ => none
  | _ => none

def zeroRow (z : List Value) (n : Nat) : List Value := (List.range n).map fun i => z.getD (i % z.length) default

def BSL (c : Option BSK) (n : Nat) (parts : List (Nat × Value)) (w : World) (K : Value → World → Prop) : Prop :=
  match c with
  | some (.mk e size z) =>
    n * size ≤ 16777216 ∧ match fillL (fun i => some (i * size, size)) (zeroRow z (n * size)) parts with
    | some l => K (.slice (some ⟨w.heap.size, 0, none⟩) n n) (w.alloc (.cells l.toArray e))
    | none => False
  | none => False

/-- Whatever an operation's run gives. -/
def RUN (P : Program) (s : Sem Value) (w : World) (K : Value → World → Prop) : Prop :=
  match s.run P w with
  | .ok v w' => Io w w' ∧ K v w'
  | .halt _ _ => False

/-- What is asked behind a call. -/
def post (K : Value → World → Prop) (X : List PanicEntry → World → Prop) : Ending → World → Prop
  | .returned v, w => K v w
  | .panicked ch, w => X ch w
  | .outgrown, _ => False

/-- A call of the function 'f'. -/
def CAL (P : Program) (f : FuncId) (args : Array Value) (w : World) (K : Value → World → Prop) (X : List PanicEntry → World → Prop) : Prop :=
  Calls P f args w fun e w' => Io w w' ∧ post K X e w'

/-- A call of a function without a body, which the model stands in for. -/
def XCAL (P : Program) (f : FuncId) (args : Array Value) (w : World) (K : Value → World → Prop) : Prop :=
  match (callFunc f args).run P w with
  | .ok (.value v) w' => Io w w' ∧ K v w'
  | _ => False

/-- A call of a function value. -/
def CALV (P : Program) (ent : Nat → Bool) (fv : Value) (args : List Value) (w : World) (K : Value → World → Prop) (X : List PanicEntry → World → Prop) : Prop :=
  match fv with
  | .func (.func f) first captured => cond (ent f) (CAL P f (first.toList ++ args ++ captured.toList).toArray w K X) (XCAL P f (first.toList ++ args ++ captured.toList).toArray w K)
  | _ => False

def PAN (x : Value) (w : World) (X : List PanicEntry → World → Prop) : Prop :=
  match x with
  | .iface t v => X [{ v := .iface t v, recovered := false }] w
  | _ => False

def opW (P : Program) (ent : Nat → Bool) (E : Env) (o : Op) (ty : TypeId) (w : World) (K : Value → World → Prop) (X : List PanicEntry → World → Prop) : Prop :=
  match o with
  | .store t x v => STO (sizeB P t) w (rho E x) (rho E v) (K undef)
  | .alloc t => ALC (zeroB P t) t w K
  | .box t v => K (.pointer (some ⟨w.heap.size, 0, none⟩)) (w.alloc (.cells (rho E v).cells t))
  | .buildSlice t n parts => BSL (bslP P t) n (parts.toList.map fun p => (p.1, rho E p.2)) w K
  | .makeSlice t l c => RUN P (Instr.makeSlice t (rho E l) (rho E c)) w K
  | .convert s d x => RUN P (convert s d (rho E x)) w K
  | .panic x => PAN (rho E x) w X
  | .call c =>
    match c.callee with
    | .builtin .append => RUN P (Builtin.append_ c.argTypes ty (args2 E c.args.toList).toArray) w K
    | .builtin .copy => RUN P (Builtin.copy_ c.argTypes ty (args2 E c.args.toList).toArray) w K
    | .builtin .clear => RUN P (Builtin.clear_ c.argTypes ty (args2 E c.args.toList).toArray) w K
    | .value f => CALV P ent (rho E f) (args2 E c.args.toList) w K X
    | _ => False
  | _ => False

theorem opW_sound {P : Program} {ent : Nat → Bool} (hent : ∀ f, ent f = true → ∀ args w, (callFunc f args).run P w = .ok (.enter f args) w)
    {E : Env} {o : Oper} {a : Act} {w : World} {K : Value → World → Prop} {X : List PanicEntry → World → Prop} {Q : Exit → Act → World → Prop}
    (he : execOp a.eval o = execOp (rho E) o) (hX : ∀ ch w', X ch w' → Q (.panic ch) a w') (h : opW P ent E o.op o.type w K X) :
    o.wp P a w (fun a' w' => ∃ v, a' = a.put o.dst v ∧ K v w') Q := by
  unfold Oper.wp
  rw [he]
  obtain ⟨dst, op, ty, pos, af, gd⟩ := o
  cases op <;> simp only [opW] at h <;> try exact h.elim
  case store t x v =>
    unfold STO at h
    split at h
    · rename_i n a' hn hx
      obtain ⟨hc, h⟩ := h
      split at h
      · rename_i w' hw
        have hc' : (rho E v).cells.size = n := by simpa using hc
        have : (execOp (rho E) { dst := dst, op := .store t x v, type := ty, pos := pos, after := af, guard := gd }).run P w = .ok .skip w' := by
          simp [execOp, Instr.storeAt, Instr.sureAddr, hx, storeVar, sizeB_run hn, hc', wrCells_run _ _ hw]
        rw [this]; exact ⟨_, rfl, h⟩
      · exact h.elim
    · exact h.elim
  case alloc t =>
    unfold ALC at h
    split at h
    · rename_i l hl
      obtain ⟨z, hz, hzc⟩ := zeroB_run hl w
      have hz' : z.cells = l.toArray := by rw [← hzc]
      have : (execOp (rho E) { dst := dst, op := .alloc t, type := ty, pos := pos, after := af, guard := gd }).run P w =
          .ok (.value (.pointer (some ⟨w.heap.size, 0, none⟩))) (w.alloc (.cells l.toArray t)) := by
        simp only [execOp, Instr.alloc, Sem.run_bind, hz, Result.andThen_ok, newVar, newRow, run_newObj, hz', Sem.run_pure]
        rfl
      rw [this]; exact ⟨_, rfl, h⟩
    · exact h.elim
  case box t v =>
    have : (execOp (rho E) { dst := dst, op := .box t v, type := ty, pos := pos, after := af, guard := gd }).run P w =
        .ok (.value (.pointer (some ⟨w.heap.size, 0, none⟩))) (w.alloc (.cells (rho E v).cells t)) := by
      simp only [execOp, Instr.box, newVar, newRow, Sem.run_bind, run_newObj, Result.andThen_ok, Sem.run_pure]
      rfl
    rw [this]; exact ⟨_, rfl, h⟩
  case buildSlice t n parts =>
    unfold BSL at h
    split at h
    · rename_i e size z hc
      obtain ⟨hn, h⟩ := h
      split at h
      · rename_i l hl
        unfold bslP at hc
        split at hc
        · rename_i e' hu
          split at hc
          · rename_i m z' hs hz
            cases hc
            obtain ⟨zv, hzr, hzc⟩ := zeroB_run hz w
            have hz' : zv.cells = z.toArray := by rw [← hzc]
            have hfill := fillL_sound _ _ _ _ hl
            have hzero : ∀ (zz : Array Value), (n * size = 0 → zz = #[]) → (n * size ≠ 0 → zz = z.toArray) →
                ((Array.range (n * size)).map (zz[· % zz.size]!)) = (zeroRow z (n * size)).toArray := by
              intro zz h0 h1
              by_cases h2 : n * size = 0
              · simp [h2, zeroRow]
              · rw [h1 h2]
                apply Array.toList_inj.1
                simp [zeroRow, Array.toList_range]
            have hp : (parts.map fun x => (x.1, rho E x.2)).toList = parts.toList.map fun p => (p.1, rho E p.2) := by simp
            have : (execOp (rho E) { dst := dst, op := .buildSlice t n parts, type := ty, pos := pos, after := af, guard := gd }).run P w =
                .ok (.value (.slice (some ⟨w.heap.size, 0, none⟩) n n)) (w.alloc (.cells l.toArray e)) := by
              have hlt : ¬ (n * size > 2 ^ 24) := by simpa using hn
              simp only [execOp, Instr.buildSlice, Sem.run_bind, underlying_run hu, sizeB_run hs, Result.andThen_ok]
              rw [if_neg hlt]
              by_cases h2 : n * size = 0
              · rw [if_pos h2]
                simp only [Sem.run_bind, Sem.run_pure, Result.andThen_ok, hp]
                rw [hzero #[] (fun _ => rfl) (fun h => absurd h2 h), hfill]
                simp only [newRow, Sem.run_bind, run_newObj, Result.andThen_ok, Sem.run_pure]
                rfl
              · rw [if_neg h2]
                simp only [Sem.run_bind, Sem.run_pure, Result.andThen_ok, hp, hzr, hz']
                rw [hzero z.toArray (fun h => absurd h h2) (fun _ => rfl), hfill]
                simp only [newRow, Sem.run_bind, run_newObj, Result.andThen_ok, Sem.run_pure]
                rfl
            rw [this]; exact ⟨_, rfl, h⟩
          · cases hc
        · cases hc
      · exact h.elim
    · exact h.elim
  case makeSlice t l c =>
    unfold RUN at h
    split at h
    · rename_i v w' hr
      rw [show (execOp (rho E) { dst := dst, op := .makeSlice t l c, type := ty, pos := pos, after := af, guard := gd }).run P w = .ok (.value v) w' from run_value hr]
      exact ⟨_, rfl, h.2⟩
    · exact h.elim
  case convert s d x =>
    unfold RUN at h
    split at h
    · rename_i v w' hr
      rw [show (execOp (rho E) { dst := dst, op := .convert s d x, type := ty, pos := pos, after := af, guard := gd }).run P w = .ok (.value v) w' from run_value hr]
      exact ⟨_, rfl, h.2⟩
    · exact h.elim
  case panic x =>
    unfold PAN at h
    split at h
    · rename_i t v hx
      have : (execOp (rho E) { dst := dst, op := .panic x, type := ty, pos := pos, after := af, guard := gd }).run P w = .halt (.panic (.iface t v)) w := by
        simp [execOp, hx, Instr.panic]
      rw [this]; exact hX _ _ h
    · exact h.elim
  case call c =>
    obtain ⟨callee, args, ts⟩ := c
    cases callee with
    | builtin b =>
      cases b <;> simp only at h <;> try exact h.elim
      all_goals
        unfold RUN at h
        split at h
        · rename_i v w' hr
          simp only [execOp, resolve, map_args, pure_bind, invoke, builtin]
          rw [run_value hr]
          exact ⟨_, rfl, h.2⟩
        · exact h.elim
    | value f =>
      simp only at h
      unfold CALV at h
      split at h
      · rename_i g first captured hf
        cases hg : ent g with
        | false =>
          simp only [hg, cond_false] at h
          unfold XCAL at h
          split at h
          · rename_i v w' hr
            have : (execOp (rho E) { dst := dst, op := .call { callee := .value f, args := args, argTypes := ts }, type := ty, pos := pos, after := af, guard := gd }).run P w =
                .ok (.value v) w' := by
              simp only [execOp, resolve, map_args, hf, Deferred.ofValue, pure_bind, invoke]
              rw [← hr]
              congr 2
              apply Array.toList_inj.1
              simp
            rw [this]; exact ⟨_, rfl, h.2⟩
          · exact h.elim
        | true =>
          simp only [hg, cond_true] at h
          have : (execOp (rho E) { dst := dst, op := .call { callee := .value f, args := args, argTypes := ts }, type := ty, pos := pos, after := af, guard := gd }).run P w =
              .ok (.enter g (first.toList ++ args2 E args.toList ++ captured.toList).toArray) w := by
            simp only [execOp, resolve, map_args, hf, Deferred.ofValue, pure_bind, invoke]
            rw [hent g hg]
            simp
          rw [this]
          refine Calls.mono h fun e w' he => ?_
          cases e with
          | returned v => exact ⟨_, rfl, he.2⟩
          | panicked ch => exact hX _ _ he.2
          | outgrown => exact he.2.elim
      · exact h.elim
    | invoke r m => exact h.elim

end Go.GX
