/- VmDeep answers true at every input and leaves its arguments as they were; no condition: text 2 of 12. -/
import Derived.Test.YtgnfodphfgmdlaaGreatProg
import Derived.KernelRfl
import Derived.Laws.BitsLemmas
import Derived.Test.YtgnfodphfgmdlaaGreatDeep01
set_option linter.all false
/- The transformer over steps, regions and code, and its soundness; the second half of the core. -/
namespace Go.GX
open Go

/-! ### A region's order: what is stable may come first -/

section
variable {Df : List Deferred} {P : Program} {ops : Array Oper} {Q : Exit → Act → World → Prop} {flag : Nat → Bool}

/-- Whatever order is picked from here on; behind each flagged operation the cells of the world ahead of it are as they were. -/
def wpAnyK (P : Program) (ops : Array Oper) (Q : Exit → Act → World → Prop) (flag : Nat → Bool) : Nat → Array Bool → Act → World → Prop
  | 0, listed, a, w => Region.ready .any ops listed = [] ∧ Q .normal a w
  | fuel + 1, listed, a, w =>
    (Region.ready .any ops listed = [] → Q .normal a w) ∧
    ∀ i ∈ Region.ready .any ops listed, wpOp P ops Q i (fun a' w' => (flag i = true → Keeps w w') ∧ wpAnyK P ops Q flag fuel (listed.setIfInBounds i true) a' w') a w

theorem wpAny_of_K : ∀ (fuel : Nat) (listed : Array Bool) (a : Act) (w : World), wpAnyK P ops Q flag fuel listed a w → wpAny P .any ops Q fuel listed a w
  | 0, _, _, _, h => h
  | fuel + 1, _, _, _, h => ⟨h.1, fun i hi => wpOp_mono (fun a' w' h' => wpAny_of_K fuel _ a' w' h'.2) (h.2 i hi)⟩

/-- In state 'a', in every world that keeps 'w', the operation leaves 'v' and does nothing else. -/
def YK (P : Program) (ops : Array Oper) (o : Oper) (v : Value) (a : Act) (w : World) : Prop :=
  (Region.wanted o (yielded ops a.tmps) = true ∧ ∀ w', Keeps w w' → (execOp a.eval o).run P w' = .ok (.value v) w') ∨
  (Region.wanted o (yielded ops a.tmps) = false ∧ v = undef)

theorem YK.wpOp {i : Nat} {o : Oper} {v : Value} {a : Act} {w : World} (hi : ops[i]? = some o) (hy : YK P ops o v a w)
    {K : Act → World → Prop} (h : K (a.put o.dst v) w) : wpOp P ops Q i K a w := by
  unfold Go.wpOp
  simp only [hi]
  rcases hy with ⟨hw, hv⟩ | ⟨hw, rfl⟩
  · simp only [hw, if_true, Oper.wp, hv w (Keeps.refl w), Oper.upon]; exact .inl h
  · simp only [hw, Bool.false_eq_true, if_false]; exact h

theorem YK.later {o : Oper} {v : Value} {a a' : Act} {w w' : World} (hy : YK P ops o v a w) (he : execOp a'.eval o = execOp a.eval o)
    (hw : Region.wanted o (yielded ops a'.tmps) = Region.wanted o (yielded ops a.tmps)) (hk : Keeps w w') : YK P ops o v a' w' := by
  unfold YK at *
  rw [he, hw]
  rcases hy with ⟨h1, h2⟩ | h
  · exact .inl ⟨h1, fun w'' h => h2 w'' (hk.trans h)⟩
  · exact .inr h

theorem wpOp_putK {j : Nat} {oi oj : Oper} {v : Value} (hj : ops[j]? = some oj) (hap : oi.apart ops oj = true)
    (hsi : ∀ cs b, oi.op ≠ .select cs b) (hsj : ∀ cs b, oj.op ≠ .select cs b)
    (hQ : ∀ c a w, Q (.panic c) (a.put oi.dst v) w → Q (.panic c) a w) {K : Act → World → Prop} {a : Act} {w : World}
    (hy : YK P ops oi v a w) (h : wpOp P ops Q j (fun a' w' => Keeps w w' ∧ K a' w') (a.put oi.dst v) w) :
    wpOp P ops Q j (fun a' w' => Keeps w w' ∧ YK P ops oi v a' w' ∧ K (a'.put oi.dst v) w') a w := by
  obtain ⟨h1, h2, h3⟩ := Oper.apart_spec hap
  have keep : ∀ (a : Act) (w w' : World), YK P ops oi v a w → Keeps w w' → ∀ u, YK P ops oi v (a.put oj.dst u) w' := fun a w w' hy hk u =>
    hy.later (execOp_put oi hsi a oj.dst u h3) (wanted_put oi a oj.dst u h3) hk
  have keepD : ∀ d, YK P ops oi v { a with defers := d :: a.defers } w := fun d => hy.later rfl rfl (Keeps.refl w)
  unfold wpOp at *
  simp only [hj] at *
  rw [wanted_put oj a oi.dst v h1] at h
  split
  · rename_i hw
    simp only [hw, if_true] at h
    rcases h with h | ⟨hasks, hlets⟩
    case inr => exact .inr ⟨by unfold Oper.asks at *; rw [execOp_put oj hsj a oi.dst v h1] at hasks; exact hasks, hlets⟩
    refine .inl ?_
    unfold Oper.wp at *
    rw [execOp_put oj hsj a oi.dst v h1] at h
    generalize (execOp a.eval oj).run P w = r at *
    cases r with
    | ok n w' =>
      cases n <;> simp only [Oper.upon] at h ⊢
      case value u => exact ⟨h.1, keep a _ _ hy h.1 u, by rw [← Act.put_comm a v u h2]; exact h.2⟩
      case skip => exact ⟨h.1, keep a _ _ hy h.1 _, by rw [← Act.put_comm a v undef h2]; exact h.2⟩
      case defer d =>
        refine ⟨h.1, keep _ _ _ (keepD d) h.1 _, ?_⟩
        rw [← Act.put_comm _ v undef h2, ← Act.put_defers]
        exact h.2
      case enter f args =>
        refine Calls.mono h fun e w'' he => ?_
        cases e with
        | returned u => exact ⟨he.1, keep a _ _ hy he.1 u, by rw [← Act.put_comm a v u h2]; exact he.2⟩
        | panicked c => exact hQ _ _ _ he
        | outgrown => exact he
      case row row args => exact Rows.mono h fun u w'' he => ⟨he.1, keep a _ _ hy he.1 u, by rw [← Act.put_comm a v u h2]; exact he.2⟩
    | halt x w' =>
      cases x <;> simp only [Oper.upon] at h ⊢
      case panic u => exact hQ _ _ _ h
  · rename_i hw
    simp only [hw] at h
    exact ⟨h.1, keep a _ _ hy h.1 _, by rw [← Act.put_comm a v undef h2]; exact h.2⟩

/-- What has been listed has all that it waits for listed. -/
def DC (ops : Array Oper) (listed : Array Bool) : Prop :=
  ∀ (j : Nat) (o : Oper), ops[j]? = some o → listed.getD j false = true → ∀ e ∈ o.after, Region.binds .any e = true → listed.getD e.on false = true

theorem DC.set {listed : Array Bool} (h : DC ops listed) {i : Nat} (hi : i ∈ Region.ready .any ops listed) : DC ops (listed.setIfInBounds i true) := by
  intro j o ho hl e he hb
  by_cases hij : i = j
  · subst hij
    obtain ⟨_, o', ho', hall⟩ := mem_ready.1 hi
    rw [ho] at ho'; cases ho'
    exact getD_set_true (hall e he hb)
  · rw [getD_set_ne false hij] at hl
    exact getD_set_true (h j o ho hl e he hb)

/-- For each operation the ones that it waits for, one behind the other, as bits. -/
def masks : List Oper → List Nat → List Nat
  | [], acc => acc
  | o :: r, acc => masks r (acc ++ [o.after.toList.foldl (fun s e => cond (Region.binds .any e) (s ||| 2 ^ e.on ||| acc.getD e.on 0) s) 0])

theorem fold_mask (acc : List Nat) (i : Nat) : ∀ (l : List Edge) (s : Nat),
    (l.foldl (fun s e => cond (Region.binds .any e) (s ||| 2 ^ e.on ||| acc.getD e.on 0) s) s).testBit i = true →
    s.testBit i = true ∨ ∃ e ∈ l, Region.binds .any e = true ∧ (e.on = i ∨ (acc.getD e.on 0).testBit i = true) := by
  intro l
  induction l with
  | nil => intro s h; exact .inl h
  | cons e r ih =>
    intro s h
    simp only [List.foldl_cons] at h
    rcases ih _ h with h1 | ⟨e', he', hb, h2⟩
    · cases hb : Region.binds .any e with
      | false => rw [hb] at h1; exact .inl h1
      | true =>
        rw [hb] at h1
        simp only [cond_true, Nat.testBit_or, Bool.or_eq_true] at h1
        rcases h1 with (h1 | h1) | h1
        · exact .inl h1
        · refine .inr ⟨e, by simp, hb, .inl ?_⟩
          rw [Nat.testBit_two_pow] at h1
          simpa using h1
        · exact .inr ⟨e, by simp, hb, .inr h1⟩
    · exact .inr ⟨e', by simp [he'], hb, h2⟩

/-- A list of masks that is right for a beginning of the operations. -/
def MaskOk (l : List Oper) (ms : List Nat) : Prop :=
  ∀ j o, l[j]? = some o → j < ms.length → ∀ i, (ms.getD j 0).testBit i = true →
    ∃ e ∈ o.after, Region.binds .any e = true ∧ (e.on = i ∨ (e.on < j ∧ (ms.getD e.on 0).testBit i = true))

theorem masks_ok (l : List Oper) : ∀ (r : List Oper) (acc : List Nat), l = l.take acc.length ++ r → MaskOk l acc → MaskOk l (masks r acc) := by
  intro r
  induction r with
  | nil => intro acc _ h; exact h
  | cons o r ih =>
    intro acc hl h
    simp only [masks]
    have hlen : acc.length < l.length := by
      have := congrArg List.length hl
      simp at this; omega
    have ho : l[acc.length]? = some o := by
      have h1 : (l.take acc.length).length = acc.length := by simp; omega
      rw [hl, List.getElem?_append_right (by omega), h1]
      simp
    refine ih _ ?_ ?_
    · have h2 : l.take (acc.length + 1) = l.take acc.length ++ [o] := by
        rw [List.take_add_one, ho]; rfl
      rw [List.length_append, List.length_singleton, h2, List.append_assoc]
      exact hl
    · intro j oj hj hlt i hb
      simp only [List.length_append, List.length_singleton] at hlt
      by_cases hjl : j < acc.length
      · have e1 : ∀ k, k < acc.length → ∀ x, (acc ++ [x]).getD k 0 = acc.getD k 0 := fun k hk x => by
          simp [List.getElem?_append_left hk]
        rw [e1 j hjl] at hb
        obtain ⟨e, he, hbe, h3⟩ := h j oj hj hjl i hb
        refine ⟨e, he, hbe, h3.imp id fun ⟨h4, h5⟩ => ⟨h4, ?_⟩⟩
        rw [e1 e.on (by omega)]; exact h5
      · have hj' : j = acc.length := by omega
        subst hj'
        rw [ho] at hj; cases hj
        have e2 : ∀ x, (acc ++ [x]).getD acc.length 0 = x := fun x => by simp
        rw [e2] at hb
        rcases fold_mask acc i _ 0 hb with h0 | ⟨e, he, hbe, h3⟩
        · simp at h0
        · refine ⟨e, by simpa using he, hbe, h3.imp id fun h5 => ?_⟩
          have hlt2 : e.on < acc.length := by
            rcases Nat.lt_or_ge e.on acc.length with h6 | h6
            · exact h6
            · rw [List.getD_eq_getElem?_getD, List.getElem?_eq_none h6] at h5; simp at h5
          refine ⟨hlt2, ?_⟩
          simp [List.getElem?_append_left hlt2] at h5 ⊢
          exact h5

theorem mask_listed {listed : Array Bool} (hsz : listed.size = ops.size) (hd : DC ops listed) (ms : List Nat) (hms : MaskOk ops.toList ms) (i : Nat) :
    ∀ (j : Nat), listed.getD j false = true → j < ms.length → (ms.getD j 0).testBit i = true → listed.getD i false = true := by
  intro j
  induction j using Nat.strongRecOn with
  | _ j ih =>
    intro hl hlt hb
    cases ho : ops[j]? with
    | none =>
      exfalso
      have h1 : ops.size ≤ j := by simpa using ho
      rw [← hsz] at h1
      simp [Array.getElem?_eq_none h1] at hl
    | some o =>
      obtain ⟨e, he, hbe, h3⟩ := hms j o (by simpa using ho) hlt i hb
      have hle := hd j o ho hl e he hbe
      rcases h3 with rfl | ⟨h4, h5⟩
      · exact hle
      · exact ih e.on h4 hle (by omega) h5

/-- Everything that may come up beside number i is flagged and apart from it. -/
def takeOk (ops : Array Oper) (ms : List Nat) (flag : Nat → Bool) (need : Bool) (listed : Array Bool) (i : Nat) : Bool :=
  match ops.toList[i]? with
  | none => false
  | some oi =>
    (Region.ready .any ops listed).contains i && (List.range ops.size).all fun j =>
      Nat.beq j i || (listed.getD j true || ((ms.getD j 0).testBit i || ((!need || flag j) && match ops.toList[j]? with
        | some oj => oi.apart ops oj
        | none => true)))

theorem wpAnyK_first {ms : List Nat} (hms : MaskOk ops.toList ms) (hml : ms.length = ops.size) {i : Nat} {oi : Oper} {v : Value} (hi : ops[i]? = some oi)
    (hsel : ∀ (j : Nat) (o : Oper) cs b, ops[j]? = some o → o.op ≠ .select cs b)
    (hQ : ∀ c a w, Q (.panic c) (a.put oi.dst v) w → Q (.panic c) a w) :
    ∀ (fuel : Nat) (listed : Array Bool) (a : Act) (w : World), listed.size = ops.size → DC ops listed →
      (∀ j oj, ops[j]? = some oj → j ≠ i → listed.getD j true = false → (ms.getD j 0).testBit i = false → flag j = true ∧ oi.apart ops oj = true) →
      i ∈ Region.ready .any ops listed → YK P ops oi v a w →
      wpAnyK P ops Q flag fuel (listed.setIfInBounds i true) (a.put oi.dst v) w → wpAnyK P ops Q flag (fuel + 1) listed a w := by
  intro fuel
  induction fuel with
  | zero =>
    intro listed a w _ _ _ hr hy H
    refine ⟨fun h => (by rw [h] at hr; cases hr), fun j hj => ?_⟩
    by_cases hji : j = i
    · subst hji; exact hy.wpOp hi ⟨fun _ => Keeps.refl w, H⟩
    · have := ready_mono hj hji
      rw [H.1] at this
      cases this
  | succ fuel ih =>
    intro listed a w hsz hdc hfree hr hy H
    refine ⟨fun h => (by rw [h] at hr; cases hr), fun j hj => ?_⟩
    by_cases hji : j = i
    · subst hji; exact hy.wpOp hi ⟨fun _ => Keeps.refl w, H⟩
    · have h1 := H.2 j (ready_mono hj hji)
      obtain ⟨hjun, oj, hoj, hall⟩ := mem_ready.1 hj
      have hiun : listed.getD i false = false := by
        have h0 := (mem_ready.1 hr).1
        have hlt : i < listed.size := by rw [hsz]; exact (Array.getElem?_eq_some_iff.1 hi).1
        simp [hlt] at h0 ⊢; exact h0
      have hbit : (ms.getD j 0).testBit i = false := by
        rw [← Bool.not_eq_true]
        intro hb
        have hjlt : j < ms.length := by rw [hml]; exact (Array.getElem?_eq_some_iff.1 hoj).1
        obtain ⟨e, he, hbe, h3⟩ := hms j oj (by simpa using hoj) hjlt i hb
        have hle := hall e he hbe
        rcases h3 with rfl | ⟨h4, h5⟩
        · rw [hiun] at hle; cases hle
        · have := mask_listed hsz hdc ms hms i e.on hle (by omega) h5
          rw [hiun] at this; cases this
      obtain ⟨hfl, hap⟩ := hfree j oj hoj hji hjun hbit
      have h1' : wpOp P ops Q j (fun a' w' => Keeps w w' ∧ wpAnyK P ops Q flag fuel ((listed.setIfInBounds i true).setIfInBounds j true) a' w') (a.put oi.dst v) w :=
        wpOp_mono (fun a' w' h => ⟨h.1 hfl, h.2⟩) h1
      have h2 := wpOp_putK hoj hap (fun cs b => hsel i oi cs b hi) (fun cs b => hsel j oj cs b hoj) hQ hy h1'
      have hfree' : ∀ k ok, ops[k]? = some ok → k ≠ i → (listed.setIfInBounds j true).getD k true = false →
          (ms.getD k 0).testBit i = false → flag k = true ∧ oi.apart ops ok = true := fun k ok hk hki hun hno => by
        refine hfree k ok hk hki ?_ hno
        by_cases hjk : j = k
        · subst hjk; exact hjun
        · rw [getD_set_ne true hjk] at hun; exact hun
      refine wpOp_mono (fun a' w' h3 => ⟨fun _ => h3.1, ih (listed.setIfInBounds j true) a' w' (by simpa using hsz) (hdc.set hj) hfree' (ready_mono hr (Ne.symm hji)) h3.2.1 ?_⟩) h2
      rw [Array.setIfInBounds_comm _ _ hji]
      exact h3.2.2

/-- As 'wpAnyK_first', where the value does not hang on the world. -/
theorem wpAnyK_firstA {ms : List Nat} (hms : MaskOk ops.toList ms) (hml : ms.length = ops.size) {i : Nat} {oi : Oper} {v : Value} (hi : ops[i]? = some oi)
    (hsel : ∀ (j : Nat) (o : Oper) cs b, ops[j]? = some o → o.op ≠ .select cs b)
    (hQ : ∀ c a w, Q (.panic c) (a.put oi.dst v) w → Q (.panic c) a w) :
    ∀ (fuel : Nat) (listed : Array Bool) (a : Act) (w : World), listed.size = ops.size → DC ops listed →
      (∀ j oj, ops[j]? = some oj → j ≠ i → listed.getD j true = false → (ms.getD j 0).testBit i = false → oi.apart ops oj = true) →
      i ∈ Region.ready .any ops listed → Yields P ops oi v a →
      wpAnyK P ops Q flag fuel (listed.setIfInBounds i true) (a.put oi.dst v) w → wpAnyK P ops Q flag (fuel + 1) listed a w := by
  intro fuel
  induction fuel with
  | zero =>
    intro listed a w _ _ _ hr hy H
    refine ⟨fun h => (by rw [h] at hr; cases hr), fun j hj => ?_⟩
    by_cases hji : j = i
    · subst hji; exact hy.wpOp hi ⟨fun _ => Keeps.refl w, H⟩
    · have := ready_mono hj hji
      rw [H.1] at this
      cases this
  | succ fuel ih =>
    intro listed a w hsz hdc hfree hr hy H
    refine ⟨fun h => (by rw [h] at hr; cases hr), fun j hj => ?_⟩
    by_cases hji : j = i
    · subst hji; exact hy.wpOp hi ⟨fun _ => Keeps.refl w, H⟩
    · have h1 := H.2 j (ready_mono hj hji)
      obtain ⟨hjun, oj, hoj, hall⟩ := mem_ready.1 hj
      have hiun : listed.getD i false = false := by
        have h0 := (mem_ready.1 hr).1
        have hlt : i < listed.size := by rw [hsz]; exact (Array.getElem?_eq_some_iff.1 hi).1
        simp [hlt] at h0 ⊢; exact h0
      have hbit : (ms.getD j 0).testBit i = false := by
        rw [← Bool.not_eq_true]
        intro hb
        have hjlt : j < ms.length := by rw [hml]; exact (Array.getElem?_eq_some_iff.1 hoj).1
        obtain ⟨e, he, hbe, h3⟩ := hms j oj (by simpa using hoj) hjlt i hb
        have hle := hall e he hbe
        rcases h3 with rfl | ⟨h4, h5⟩
        · rw [hiun] at hle; cases hle
        · have := mask_listed hsz hdc ms hms i e.on hle (by omega) h5
          rw [hiun] at this; cases this
      have hap := hfree j oj hoj hji hjun hbit
      have h2 := wpOp_put hoj hap (fun cs b => hsel i oi cs b hi) (fun cs b => hsel j oj cs b hoj) hQ hy h1
      have hfree' : ∀ k ok, ops[k]? = some ok → k ≠ i → (listed.setIfInBounds j true).getD k true = false →
          (ms.getD k 0).testBit i = false → oi.apart ops ok = true := fun k ok hk hki hun hno => by
        refine hfree k ok hk hki ?_ hno
        by_cases hjk : j = k
        · subst hjk; exact hjun
        · rw [getD_set_ne true hjk] at hun; exact hun
      refine wpOp_mono (fun a' w' h3 => ⟨h3.2.1, ih (listed.setIfInBounds j true) a' w' (by simpa using hsz) (hdc.set hj) hfree' (ready_mono hr (Ne.symm hji)) h3.1 ?_⟩) h2
      rw [Array.setIfInBounds_comm _ _ hji]
      exact h3.2.2

theorem wpAnyK_only {i : Nat} {fuel : Nat} {listed : Array Bool} {a : Act} {w : World} (hr : Region.ready .any ops listed = [i])
    (h : wpOp P ops Q i (fun a' w' => (flag i = true → Keeps w w') ∧ wpAnyK P ops Q flag fuel (listed.setIfInBounds i true) a' w') a w) :
    wpAnyK P ops Q flag (fuel + 1) listed a w :=
  ⟨fun h0 => absurd (hr ▸ h0) (by simp), by rw [hr]; simpa using h⟩

def isLd : Op → Bool
  | .load .. => true
  | _ => false

/-- Orders of a region's operations: one behind the other; 'alt i r s': number i comes up first, then r; or s. -/
inductive OT where
  | nil
  | op (i : Nat) (r : OT)
  | alt (i : Nat) (r s : OT)

def OT.app : OT → OT → OT
  | .nil, x => x
  | .op i r, x => .op i (r.app x)
  | .alt i r s, x => .alt i (r.app x) (s.app x)

theorem OT.app_nil : ∀ t : OT, t.app .nil = t
  | .nil => rfl
  | .op i r => by simp [OT.app, OT.app_nil r]
  | .alt i r s => by simp [OT.app, OT.app_nil r, OT.app_nil s]

theorem OT.app_assoc : ∀ t u v : OT, (t.app u).app v = t.app (u.app v)
  | .nil, _, _ => rfl
  | .op i r, u, v => by simp [OT.app, OT.app_assoc r]
  | .alt i r s, u, v => by simp [OT.app, OT.app_assoc r, OT.app_assoc s]

def OT.heads : OT → List Nat
  | .nil => []
  | .op i _ => [i]
  | .alt i _ s => i :: s.heads

def OT.flat : OT → List Nat
  | .nil => []
  | .op i r => i :: r.flat
  | .alt i r s => i :: (r.flat ++ s.flat)

def OT.len : OT → Nat
  | .nil => 0
  | .op _ r => r.len + 1
  | .alt _ r _ => r.len + 1

def OT.noAlt : OT → Bool
  | .nil => true
  | .op _ r => r.noAlt
  | .alt .. => false

def wrOf (P : Program) (ops : List Oper) (i : Nat) : Bool :=
  match ops[i]? with
  | some o => !isV P o.op
  | none => false

def OT.wrHead (P : Program) (ops : List Oper) : OT → Bool
  | .nil => false
  | .op i _ => wrOf P ops i
  | .alt .. => true

/-- Orders in which the operations may be taken; 'b': the first ones have been held against those that may come up. -/
def chkO (P : Program) (ops : Array Oper) (ms : List Nat) (flag : Nat → Bool) : Bool → OT → Array Bool → Bool
  | b, .nil, listed => !b && (Region.ready .any ops listed).isEmpty
  | b, .op i r, listed =>
    cond (wrOf P ops.toList i) (b || Region.ready .any ops listed == [i]) (b || match ops.toList[i]? with
      | none => false
      | some o => takeOk ops ms flag (isLd o.op) listed i) && chkO P ops ms flag false r (listed.setIfInBounds i true)
  | b, .alt i r s, listed =>
    (b || Region.ready .any ops listed == (i :: s.heads)) && (chkO P ops ms flag false r (listed.setIfInBounds i true) &&
      (Nat.beq (r.len + 1) s.len && chkO P ops ms flag true s listed))

/-- What is asked of a way to go through a region's operations: 'G': from here on, in this order; 'B': each of the first ones may come up. -/
structure Logic (P : Program) (ops : Array Oper) (Q : Exit → Act → World → Prop) (flag : Nat → Bool) (G B : OT → Act → World → Prop) : Prop where
  takeV : ∀ {i o r a w v}, ops[i]? = some o → isV P o.op = true → YK P ops o v a w → (isLd o.op = false → Yields P ops o v a) → G r (a.put o.dst v) w → G (.op i r) a w
  oneB : ∀ {i o r a w}, ops[i]? = some o → wpOp P ops Q i (fun a' w' => (flag i = true → Keeps w w') ∧ G r a' w') a w → B (.op i r) a w
  altB : ∀ {i o r s a w}, ops[i]? = some o → wpOp P ops Q i (fun a' w' => (flag i = true → Keeps w w') ∧ G r a' w') a w → B s a w → B (.alt i r s) a w
  close : ∀ {t a w}, t.wrHead P ops.toList = true → B t a w → G t a w

theorem logic_plain : Logic P ops Q flag (fun t a w => t.noAlt = true → wpOps P ops Q t.flat a w) (fun t a w => t.noAlt = true → wpOps P ops Q t.flat a w) where
  takeV := fun hi _ hy _ h hn => by simp only [OT.flat]; rw [wpOps_cons]; exact hy.wpOp hi (h hn)
  oneB := fun _ h hn => by simp only [OT.flat]; rw [wpOps_cons]; exact wpOp_mono (fun _ _ h => h.2 hn) h
  altB := fun _ _ _ hn => by simp [OT.noAlt] at hn
  close := fun _ h => h

theorem logic_drawn {ms : List Nat} (hms : MaskOk ops.toList ms) (hml : ms.length = ops.size)
    (hsel : ∀ (j : Nat) (o : Oper) cs b, ops[j]? = some o → o.op ≠ .select cs b)
    (hQ : ∀ c a w dst v, Q (.panic c) (a.put dst v) w → Q (.panic c) a w) :
    Logic P ops Q flag (fun t a w => ∀ listed : Array Bool, listed.size = ops.size → DC ops listed → chkO P ops ms flag false t listed = true → wpAnyK P ops Q flag t.len listed a w)
      (fun t a w => ∀ listed : Array Bool, listed.size = ops.size → DC ops listed → chkO P ops ms flag true t listed = true → (∀ i ∈ t.heads, i ∈ Region.ready .any ops listed) →
        ∀ i ∈ t.heads, ∃ n, t.len = n + 1 ∧ wpOp P ops Q i (fun a' w' => (flag i = true → Keeps w w') ∧ wpAnyK P ops Q flag n (listed.setIfInBounds i true) a' w') a w) where
  takeV := fun {i o r a w v} hi hv hy hyA h listed hsz hdc hchk => by
    have hi' : ops.toList[i]? = some o := by simpa using hi
    have hw : wrOf P ops.toList i = false := by simp [wrOf, hi', hv]
    simp only [chkO, hi', hw, cond_false, Bool.and_eq_true, Bool.false_or] at hchk
    obtain ⟨htk, hchk⟩ := hchk
    simp only [takeOk, hi', Bool.and_eq_true, List.all_eq_true, List.mem_range, Bool.or_eq_true] at htk
    obtain ⟨hr, hall⟩ := htk
    have hr' : i ∈ Region.ready .any ops listed := by simpa using hr
    have hfree : ∀ j oj, ops[j]? = some oj → j ≠ i → listed.getD j true = false → (ms.getD j 0).testBit i = false → ((isLd o.op = true → flag j = true) ∧ o.apart ops oj = true) := by
      intro j oj hj hji hun hno
      have hlt : j < ops.size := (Array.getElem?_eq_some_iff.1 hj).1
      have hj' : ops.toList[j]? = some oj := by simpa using hj
      rcases hall j hlt with h1 | h1 | h1 | h1
      · exact absurd (Nat.eq_of_beq_eq_true h1) hji
      · rw [hun] at h1; cases h1
      · rw [hno] at h1; cases h1
      · simp only [hj'] at h1
        refine ⟨fun hl => ?_, h1.2⟩
        rcases h1.1 with h2 | h2
        · rw [hl] at h2; cases h2
        · exact h2
    have hnext := h (listed.setIfInBounds i true) (by simpa using hsz) (hdc.set hr') hchk
    cases hld : isLd o.op with
    | true => exact wpAnyK_first hms hml hi hsel (fun c a w => hQ c a w _ _) _ listed a w hsz hdc (fun j oj h1 h2 h3 h4 => ⟨(hfree j oj h1 h2 h3 h4).1 hld, (hfree j oj h1 h2 h3 h4).2⟩) hr' hy hnext
    | false => exact wpAnyK_firstA hms hml hi hsel (fun c a w => hQ c a w _ _) _ listed a w hsz hdc (fun j oj h1 h2 h3 h4 => (hfree j oj h1 h2 h3 h4).2) hr' (hyA hld) hnext
  oneB := fun {i o r a w} hi h listed hsz hdc hchk hh => by
    simp only [chkO, Bool.and_eq_true] at hchk
    intro j hj
    simp only [OT.heads, List.mem_singleton] at hj
    subst hj
    have hr := hh j (by simp [OT.heads])
    exact ⟨r.len, rfl, wpOp_mono (fun a' w' h' => ⟨h'.1, h'.2 _ (by simpa using hsz) (hdc.set hr) hchk.2⟩) h⟩
  altB := fun {i o r s a w} hi h hs listed hsz hdc hchk hh => by
    simp only [chkO, Bool.and_eq_true] at hchk
    obtain ⟨_, h2, h3, h4⟩ := hchk
    intro j hj
    simp only [OT.heads, List.mem_cons] at hj
    rcases hj with rfl | hj
    · have hr := hh j (by simp [OT.heads])
      exact ⟨r.len, rfl, wpOp_mono (fun a' w' h' => ⟨h'.1, h'.2 _ (by simpa using hsz) (hdc.set hr) h2⟩) h⟩
    · have hs2 := hs listed hsz hdc h4 (fun k hk => hh k (by simp [OT.heads, hk]))
      obtain ⟨n, hn, hwp⟩ := hs2 j hj
      refine ⟨r.len, rfl, ?_⟩
      have : n = r.len := by
        have := Nat.eq_of_beq_eq_true h3
        omega
      rw [← this]; exact hwp
  close := fun {t a w} hwh h listed hsz hdc hchk => by
    cases t with
    | nil => simp [OT.wrHead] at hwh
    | op i r =>
      simp only [OT.wrHead] at hwh
      simp only [chkO, hwh, cond_true, Bool.false_or, Bool.and_eq_true, beq_iff_eq] at hchk
      obtain ⟨hr, hc⟩ := hchk
      obtain ⟨n, hn, hwp⟩ := h listed hsz hdc (by simp [chkO, hwh, hc]) (by simp [OT.heads, hr]) i (by simp [OT.heads])
      rw [hn]
      exact wpAnyK_only hr hwp
    | alt i r s =>
      simp only [chkO, Bool.false_or, Bool.and_eq_true, beq_iff_eq] at hchk
      obtain ⟨hr, hc2, hc3, hc4⟩ := hchk
      have hB := h listed hsz hdc (by simp only [chkO, Bool.true_or, Bool.true_and, Bool.and_eq_true]; exact ⟨hc2, hc3, hc4⟩) (by intro k hk; rw [hr]; exact hk)
      refine ⟨fun h0 => absurd (hr ▸ h0) (by simp), fun j hj => ?_⟩
      rw [hr] at hj
      obtain ⟨n, hn, hwp⟩ := hB j hj
      have : n = r.len := by simp only [OT.len] at hn; omega
      rw [← this]; exact hwp

theorem opV_any {P : Program} {E : Env} {o : Op} {w : World} (hl : isLd o = false) (w' : World) {v : Value} (h : opV P E o w = some v) : opV P E o w' = some v := by
  cases o <;> first | exact h | (simp [isLd] at hl; done) | (rename_i mx; cases mx <;> exact h)

/-! ### Steps through a region -/

/-- The way through a region: its operations in an order; 'grp g b body pk': the operations that run only where number g has yielded b, and the pick that joins. -/
inductive Steps where
  | nil
  | op (i : Nat) (kp : Bool) (r : Steps)
  | alt (i : Nat) (kp : Bool) (r s : Steps)
  | grp (g : Nat) (b : Bool) (body : Steps) (pk : Nat) (r : Steps)

/-- n operations one behind the other. -/
def Steps.sq : Nat → Nat → Steps → Steps
  | _, 0, r => r
  | i, n + 1, r => .op i false (Steps.sq (i + 1) n r)

def Steps.ord : Steps → OT
  | .nil => .nil
  | .op i _ r => .op i r.ord
  | .alt i _ r s => .alt i r.ord s.ord
  | .grp _ _ body pk r => body.ord.app (.op pk r.ord)

/-- Is an operation one behind which the cells are to be shown as they were? -/
def Steps.kept : Steps → Nat → Bool
  | .nil, _ => false
  | .op i kp r, j => cond (Nat.beq i j) kp (r.kept j)
  | .alt i kp r s, j => cond (Nat.beq i j) kp (r.kept j || s.kept j)
  | .grp _ _ body _ r, j => body.kept j || r.kept j

def dstOf (ops : List Oper) (i : Nat) : Option Nat :=
  match ops[i]? with
  | some o => o.dst
  | none => none

def dstsOf (ops : List Oper) : OT → List Nat
  | .nil => []
  | .op i r => match dstOf ops i with
    | some d => d :: dstsOf ops r
    | none => dstsOf ops r
  | .alt i r s => match dstOf ops i with
    | some d => d :: (dstsOf ops r ++ dstsOf ops s)
    | none => dstsOf ops r ++ dstsOf ops s

/-- What is asked behind a step: where the mark is set, that the cells are as they were. -/
def KP (kp : Bool) (w w' : World) (p : Prop) : Prop := cond kp (Keeps w w' ∧ p) p

/-- The join of '&&' and '||'. -/
def GRP (c : Value) (b : Bool) (other : Value) (w : World) (body : (Value → World → Prop) → Prop) (J : Value → World → Prop) : Prop :=
  match c with
  | .bool t => cond (cond b t (!t)) (body J) (J other w)
  | _ => False

/-- One operation. -/
def OPT (P : Program) (ent : Nat → Bool) (E : Env) (o : Oper) (w : World) (K : Value → World → Prop) (X : List PanicEntry → World → Prop) : Prop :=
  cond (isV P o.op)
    (match opV P E o.op w with
      | some v => K v w
      | none => False)
    (opW P ent E o.op o.type w K X)

def TS (P : Program) (ent : Nat → Bool) (N : Nat) (ops : List Oper) (X : List PanicEntry → World → Prop) : Steps → Env → World → (Env → World → Prop) → Prop
  | .nil, E, w, K => K E w
  | .op i kp r, E, w, K =>
    match ops[i]? with
    | none => False
    | some o => cond (o.op.operands.toList.all (known E)) (OPT P ent E o w (fun v w' => KP kp w w' (TS P ent N ops X r (putE N E o.dst v) w' K)) X) False
  | .alt i kp r s, E, w, K =>
    (match ops[i]? with
    | none => False
    | some o => cond (o.op.operands.toList.all (known E)) (OPT P ent E o w (fun v w' => KP kp w w' (TS P ent N ops X r (putE N E o.dst v) w' K)) X) False) ∧
    TS P ent N ops X s E w K
  | .grp g b body pk r, E, w, K =>
    match dstOf ops g, ops[pk]? with
    | some gd, some o =>
      match o.op, o.dst with
      | .pick (.tmp c) x y, some d =>
        match lk (dropE (dstsOf ops body.ord) E) gd, ev (dropE (dstsOf ops body.ord) E) (cond b y x) with
        | some cv, some ov =>
          cond (Nat.beq c gd)
            (GRP cv b ov w
              (fun J => TS P ent N ops X body E w (fun E' w' => match ev E' (cond b x y) with
                | some v => J v w'
                | none => False))
              (fun v w' => TS P ent N ops X r (putE N (dropE (dstsOf ops body.ord) E) (some d) v) w' K))
            False
        | _, _ => False
      | _, _ => False
    | _, _ => False

/-- Does the way begin with an operation, or with one of several? -/
def Steps.wrHead (_P : Program) (_ops : List Oper) : Steps → Bool
  | .nil => false
  | .op .. => true
  | .alt .. => true
  | .grp .. => false

def eqG : Option (Nat × Bool) → Option (Nat × Bool) → Bool
  | none, none => true
  | some (i, a), some (j, b) => Nat.beq i j && (cond a b (!b))
  | _, _ => false

theorem eqG_eq {x y : Option (Nat × Bool)} (h : eqG x y = true) : x = y := by
  cases x with
  | none => cases y with
    | none => rfl
    | some y => simp [eqG] at h
  | some x =>
    obtain ⟨i, a⟩ := x
    cases y with
    | none => simp [eqG] at h
    | some y =>
      obtain ⟨j, b⟩ := y
      simp only [eqG, Bool.and_eq_true] at h
      have := Nat.eq_of_beq_eq_true h.1
      subst this
      cases a <;> cases b <;> simp_all

/-- The operations of a body that is not run: each yields nothing. -/
def skipS (ops : List Oper) (g : Nat) (b : Bool) : Steps → List Nat → Option (List Nat)
  | .nil, ud => some ud
  | .op i _ r, ud =>
    match ops[i]? with
    | some o => cond (eqG o.guard (some (g, b))) (skipS ops g b r (match o.dst with
      | some d => d :: ud
      | none => ud)) none
    | none => none
  | .alt i _ r s, ud =>
    match ops[i]? with
    | some o => cond (eqG o.guard (some (g, b))) (match skipS ops g b r [], skipS ops g b s ud with
      | some _, some _ => some ud
      | _, _ => none) none
    | none => none
  | .grp g2 b2 body pk r, ud =>
    match dstOf ops g2, ops[pk]? with
    | some gd2, some o =>
      cond (ud.elem gd2 && eqG o.guard (some (g, b)))
        (match skipS ops g2 b2 body ud with
          | some ud2 => skipS ops g b r (match o.dst with
            | some d => d :: ud2
            | none => ud2)
          | none => none) none
    | _, _ => none

/-- Is the way well formed: guards, places that may not be written, marks. -/
def wfS (P : Program) (ops : List Oper) (flag : Nat → Bool) : Option (Nat × Bool) → List Nat → Steps → Bool
  | _, _, .nil => true
  | gs, prot, .op i kp r =>
    (match ops[i]? with
      | some o => eqG o.guard gs && (Op.noSel o.op && ((match o.dst with
        | some d => !prot.elem d
        | none => true) && cond (isV P o.op) (!kp) (!flag i || kp)))
      | none => false) && wfS P ops flag gs prot r
  | gs, prot, .alt i kp r s =>
    (match ops[i]? with
      | some o => eqG o.guard gs && (Op.noSel o.op && ((match o.dst with
        | some d => !prot.elem d
        | none => true) && (isV P o.op || (!flag i || kp))))
      | none => false) && (wfS P ops flag gs prot r && (wfS P ops flag gs prot s && s.wrHead P ops))
  | gs, prot, .grp g b body pk r =>
    (match dstOf ops g, ops[pk]? with
      | some gd, some o => eqG o.guard gs && ((match o.dst with
        | some d => !prot.elem d
        | none => true) && (wfS P ops flag (some (g, b)) (gd :: prot) body && (match skipS ops g b body [] with
          | some _ => true
          | none => false)))
      | _, _ => false) && wfS P ops flag gs prot r

theorem mem_dstsOf_app (l : List Oper) (x y : OT) (t : Nat) : t ∈ dstsOf l (x.app y) → t ∈ dstsOf l x ∨ t ∈ dstsOf l y := by
  induction x with
  | nil => exact .inr
  | op i r ih =>
    simp only [OT.app, dstsOf]
    cases dstOf l i with
    | none => exact ih
    | some d =>
      intro h
      rcases List.mem_cons.1 h with rfl | h
      · exact .inl (by simp)
      · exact (ih h).imp (fun h => by simp [h]) id
  | alt i r s ihr ihs =>
    simp only [OT.app, dstsOf]
    cases dstOf l i with
    | none =>
      intro h
      rcases List.mem_append.1 h with h | h
      · exact (ihr h).imp (fun h => by simp [h]) id
      · exact (ihs h).imp (fun h => by simp [h]) id
    | some d =>
      intro h
      rcases List.mem_cons.1 h with rfl | h
      · exact .inl (by simp)
      · rcases List.mem_append.1 h with h | h
        · exact (ihr h).imp (fun h => by simp [h]) id
        · exact (ihs h).imp (fun h => by simp [h]) id

theorem mem_dstsOf_left (l : List Oper) (x y : OT) (t : Nat) : t ∈ dstsOf l x → t ∈ dstsOf l (x.app y) := by
  induction x with
  | nil => intro h; simp [dstsOf] at h
  | op i r ih =>
    simp only [OT.app, dstsOf]
    cases dstOf l i with
    | none => exact ih
    | some d =>
      intro h
      rcases List.mem_cons.1 h with rfl | h
      · simp
      · simp [ih h]
  | alt i r s ihr ihs =>
    simp only [OT.app, dstsOf]
    cases dstOf l i with
    | none =>
      intro h
      rcases List.mem_append.1 h with h | h
      · simp [ihr h]
      · simp [ihs h]
    | some d =>
      intro h
      rcases List.mem_cons.1 h with rfl | h
      · simp
      · rcases List.mem_append.1 h with h | h
        · simp [ihr h]
        · simp [ihs h]

/-- What follows an order without an end: the order's own last part is there. -/
theorem mem_dstsOf_right (l : List Oper) (x y : OT) (t : Nat) : t ∈ dstsOf l y → t ∈ dstsOf l (x.app y) := by
  induction x with
  | nil => exact id
  | op i r ih =>
    simp only [OT.app, dstsOf]
    cases dstOf l i with
    | none => exact ih
    | some d => intro h; simp [ih h]
  | alt i r s ihr ihs =>
    simp only [OT.app, dstsOf]
    cases dstOf l i with
    | none => intro h; simp [ihr h]
    | some d => intro h; simp [ihr h]

theorem wfS_prot (P : Program) (l : List Oper) (flag : Nat → Bool) : ∀ (s : Steps) (gs : Option (Nat × Bool)) (prot : List Nat), wfS P l flag gs prot s = true →
    ∀ t ∈ prot, t ∉ dstsOf l s.ord := by
  intro s
  induction s with
  | nil => intro gs prot _ t _; simp [Steps.ord, dstsOf]
  | op i kp r ih =>
    intro gs prot h t ht
    simp only [wfS, Bool.and_eq_true] at h
    obtain ⟨h1, h2⟩ := h
    simp only [Steps.ord, dstsOf, dstOf]
    cases ho : l[i]? with
    | none => simp [ho] at h1
    | some o =>
      simp only [ho, Bool.and_eq_true] at h1
      obtain ⟨_, _, h3, _⟩ := h1
      cases hd : o.dst with
      | none => simp only [hd]; exact ih gs prot h2 t ht
      | some d =>
        simp only [hd] at h3
        simp only [hd, List.mem_cons, not_or]
        refine ⟨?_, ih gs prot h2 t ht⟩
        rintro rfl
        simp at h3; exact h3 ht
  | alt i kp r s ihr ihs =>
    intro gs prot h t ht
    simp only [wfS, Bool.and_eq_true] at h
    obtain ⟨h1, h2, h4, _⟩ := h
    simp only [Steps.ord, dstsOf, dstOf]
    cases ho : l[i]? with
    | none => simp [ho] at h1
    | some o =>
      simp only [ho, Bool.and_eq_true] at h1
      obtain ⟨_, _, h3, _⟩ := h1
      cases hd : o.dst with
      | none => simp only [hd, List.mem_append, not_or]; exact ⟨ihr gs prot h2 t ht, ihs gs prot h4 t ht⟩
      | some d =>
        simp only [hd] at h3
        simp only [hd, List.mem_cons, List.mem_append, not_or]
        refine ⟨?_, ihr gs prot h2 t ht, ihs gs prot h4 t ht⟩
        rintro rfl
        simp at h3; exact h3 ht
  | grp g b body pk r ihb ih =>
    intro gs prot h t ht
    simp only [wfS, Bool.and_eq_true] at h
    obtain ⟨h1, h2⟩ := h
    simp only [Steps.ord]
    intro hmem
    cases hg : dstOf l g with
    | none => simp [hg] at h1
    | some gd =>
      cases ho : l[pk]? with
      | none => simp [hg, ho] at h1
      | some o =>
        simp only [hg, ho, Bool.and_eq_true] at h1
        obtain ⟨_, h3, h4, _⟩ := h1
        rcases mem_dstsOf_app l _ _ t hmem with hm | hm
        · exact ihb _ _ h4 t (by simp [ht]) hm
        · simp only [dstsOf, dstOf, ho] at hm
          cases hd : o.dst with
          | none => simp only [hd] at hm; exact ih gs prot h2 t ht hm
          | some d =>
            simp only [hd] at h3 hm
            rcases List.mem_cons.1 hm with rfl | hm
            · simp at h3; exact h3 ht
            · exact ih gs prot h2 t ht hm

theorem same_put {l : List Oper} {i : Nat} {o : Oper} (ho : l[i]? = some o) {r : OT} {a a' : Act} {v : Value}
    (hs : ∀ t, t ∉ dstsOf l r → a'.tmps[t]? = (a.put o.dst v).tmps[t]?) : ∀ t, t ∉ dstsOf l (.op i r) → a'.tmps[t]? = a.tmps[t]? := by
  intro t ht
  simp only [dstsOf, dstOf, ho] at ht
  cases hd : o.dst with
  | none => rw [hs t (by simpa [hd] using ht), hd]; rfl
  | some e =>
    simp only [hd, List.mem_cons, not_or] at ht
    rw [hs t ht.2, hd]
    refine (?_ : (a.put (some e) v).tmps[t]? = a.tmps[t]?)
    have : e ≠ t := fun e' => ht.1 e'.symm
    simp [Act.put, Array.getElem?_setIfInBounds_ne this]

theorem same_alt {l : List Oper} {i : Nat} {r s : OT} {t : Nat} (ht : t ∉ dstsOf l (.alt i r s)) : t ∉ dstsOf l (.op i r) ∧ t ∉ dstsOf l s := by
  simp only [dstsOf] at ht ⊢
  cases hd : dstOf l i with
  | none => simp only [hd, List.mem_append, not_or] at ht ⊢; exact ht
  | some d => simp only [hd, List.mem_cons, List.mem_append, not_or] at ht ⊢; exact ⟨⟨ht.1, ht.2.1⟩, ht.2.2⟩

def Inv (Df : List Deferred) (N : Nat) (a : Act) : Prop := a.defers = Df ∧ N = a.tmps.size

theorem Inv.put {N : Nat} {a : Act} (h : Inv Df N a) (d : Option Nat) (v : Value) : Inv Df N (a.put d v) := by
  cases d with
  | none => exact h
  | some d => exact ⟨h.1, by simpa [Act.put] using h.2⟩

def HG (ops : Array Oper) (gs : Option (Nat × Bool)) (a : Act) : Prop :=
  match gs with
  | none => True
  | some (g, b) => yielded ops a.tmps g = some b

theorem wanted_HG {gs : Option (Nat × Bool)} {a : Act} {o : Oper} (h : HG ops gs a) (hg : o.guard = gs) : Region.wanted o (yielded ops a.tmps) = true := by
  unfold Region.wanted
  rw [hg]
  cases gs with
  | none => rfl
  | some p => obtain ⟨g, b⟩ := p; simp only [HG] at h; simp [h]

theorem tmps_put (a : Act) (dst : Option Nat) (v : Value) (t : Nat) (h : dst ≠ some t) : (a.put dst v).tmps[t]? = a.tmps[t]? := by
  cases dst with
  | none => rfl
  | some d =>
    have : d ≠ t := fun e => h (by rw [e])
    simp [Act.put, Array.getElem?_setIfInBounds_ne this]

theorem HG_of_same {gs : Option (Nat × Bool)} {a a' : Act} (h : HG ops gs a)
    (hs : ∀ g b d, gs = some (g, b) → dstOf ops.toList g = some d → a'.tmps[d]? = a.tmps[d]?) : HG ops gs a' := by
  cases gs with
  | none => trivial
  | some p =>
    obtain ⟨g, b⟩ := p
    simp only [HG] at *
    unfold yielded at *
    cases hd : dstOf ops.toList g with
    | none =>
      have hb : (ops[g]?).bind (·.dst) = none := by
        unfold dstOf at hd
        rw [Array.getElem?_toList] at hd
        cases ho : ops[g]? with
        | none => rfl
        | some o => simp [ho] at hd; simpa using hd
      simp [hb] at h
    | some d =>
      have hb : (ops[g]?).bind (·.dst) = some d := by
        unfold dstOf at hd
        rw [Array.getElem?_toList] at hd
        cases ho : ops[g]? with
        | none => simp [ho] at hd
        | some o => simp [ho] at hd; simpa using hd
      rw [hb] at h ⊢
      simp only [Option.bind_some] at h ⊢
      rw [hs g b d rfl hd]; exact h

def NoBool (a : Act) (d : Nat) : Prop := ∀ x, a.tmps[d]? ≠ some (.bool x)

theorem NoBool.put {a : Act} {d : Nat} (h : NoBool a d) (dst : Option Nat) : NoBool (a.put dst undef) d := by
  intro x hx
  by_cases hd : dst = some d
  · subst hd
    simp only [Act.put] at hx
    by_cases hlt : d < a.tmps.size
    · simp [hlt, undef] at hx
    · simp [Array.setIfInBounds, hlt] at hx
  · rw [tmps_put a dst undef d hd] at hx; exact h x hx

theorem NoBool.new (a : Act) (d : Nat) : NoBool (a.put (some d) undef) d := by
  intro x hx
  simp only [Act.put] at hx
  by_cases hlt : d < a.tmps.size
  · simp [hlt, undef] at hx
  · simp [Array.setIfInBounds, hlt] at hx

theorem yielded_put {a : Act} {g : Nat} {b : Bool} (h : yielded ops a.tmps g ≠ some b) (dst : Option Nat) : yielded ops (a.put dst undef).tmps g ≠ some b := by
  unfold yielded at *
  cases hb : (ops[g]?).bind (·.dst) with
  | none => simp
  | some d =>
    rw [hb] at h
    simp only [Option.bind_some] at h ⊢
    by_cases hd : dst = some d
    · subst hd
      have := NoBool.new a d
      split
      · rename_i x hx; exact absurd hx (this x)
      · simp
    · rw [tmps_put a dst undef d hd]; exact h

theorem skip_sound {N : Nat} {G B : OT → Act → World → Prop} (L : Logic P ops Q flag G B) {w : World} : ∀ (s : Steps) (g : Nat) (b : Bool) (ud ud' : List Nat), skipS ops.toList g b s ud = some ud' →
    ∀ (gs : Option (Nat × Bool)) (prot : List Nat), wfS P ops.toList flag gs prot s = true →
    ∀ (J : Act → Prop), (∀ a d, J a → J (a.put d undef)) → ∀ (a : Act) (rest : OT), Inv Df N a → J a → yielded ops a.tmps g ≠ some b → (∀ d ∈ ud, NoBool a d) →
      (∀ a', Inv Df N a' → J a' → (∀ d ∈ ud', NoBool a' d) → (∀ t, t ∉ dstsOf ops.toList s.ord → a'.tmps[t]? = a.tmps[t]?) → G rest a' w) →
      G (s.ord.app rest) a w ∧ (s.wrHead P ops.toList = true → B (s.ord.app rest) a w) := by
  intro s
  induction s with
  | nil =>
    intro g b ud ud' h gs prot _ J hJ a rest hI hj hy hu hk
    simp only [skipS, Option.some.injEq] at h
    subst h
    exact ⟨hk a hI hj hu (fun _ _ => rfl), fun h => by simp [Steps.wrHead] at h⟩
  | op i kp r ih =>
    intro g b ud ud' h gs prot hwf J hJ a rest hI hj hy hu hk
    simp only [skipS] at h
    simp only [wfS, Bool.and_eq_true] at hwf
    cases ho : ops.toList[i]? with
    | none => simp [ho] at h
    | some o =>
      simp only [ho] at h
      cases hg : eqG o.guard (some (g, b)) with
      | false => simp [hg] at h
      | true =>
        simp only [hg, cond_true] at h
        have ho' : ops[i]? = some o := by simpa using ho
        have hw : Region.wanted o (yielded ops a.tmps) = false := by
          unfold Region.wanted
          rw [eqG_eq hg]
          simpa using hy
        have hrest : G (r.ord.app rest) (a.put o.dst undef) w := by
          refine (ih g b _ ud' h gs prot hwf.2 J hJ _ rest (hI.put _ _) (hJ _ _ hj) (yielded_put hy _) ?_ ?_).1
          · cases hd : o.dst with
            | none => exact fun d hd' => (hu d hd').put none
            | some e =>
              intro d hd'
              rcases List.mem_cons.1 hd' with rfl | h2
              · exact NoBool.new a d
              · exact (hu d h2).put _
          · intro a' hI' hj' hu' hs
            exact hk a' hI' hj' hu' (same_put ho hs)
        have hwp : wpOp P ops Q i (fun a' w' => (flag i = true → Keeps w w') ∧ G (r.ord.app rest) a' w') a w := by
          unfold wpOp
          simp only [ho', hw, Bool.false_eq_true, if_false]
          exact ⟨fun _ => Keeps.refl w, hrest⟩
        cases hv : isV P o.op with
        | true => exact ⟨L.takeV ho' hv (.inr ⟨hw, rfl⟩) (fun _ => .inr ⟨hw, rfl⟩) hrest, fun _ => L.oneB ho' hwp⟩
        | false =>
          have hB := L.oneB ho' hwp
          exact ⟨L.close (by simp [Steps.ord, OT.app, OT.wrHead, wrOf, ho, hv]) hB, fun _ => hB⟩
  | alt i kp r s ihr ihs =>
    intro g b ud ud' h gs prot hwf J hJ a rest hI hj hy hu hk
    simp only [skipS] at h
    simp only [wfS, Bool.and_eq_true] at hwf
    obtain ⟨hwf1, hwf2, hwf3, hwh⟩ := hwf
    cases ho : ops.toList[i]? with
    | none => simp [ho] at h
    | some o =>
      simp only [ho] at h hwf1
      cases hg : eqG o.guard (some (g, b)) with
      | false => simp [hg] at h
      | true =>
        simp only [hg, cond_true] at h
        split at h
        · rename_i u1 u2 hu1 hu2
          cases h
          have ho' : ops[i]? = some o := by simpa using ho
          have hw : Region.wanted o (yielded ops a.tmps) = false := by
            unfold Region.wanted
            rw [eqG_eq hg]
            simpa using hy
          have hrest : G (r.ord.app rest) (a.put o.dst undef) w := by
            refine (ihr g b [] u1 hu1 gs prot hwf2 (fun a => J a ∧ ∀ d ∈ ud, NoBool a d) (fun a d hh => ⟨hJ a d hh.1, fun e he => (hh.2 e he).put d⟩) _ rest (hI.put _ _) ⟨hJ _ _ hj, fun e he => (hu e he).put _⟩ (yielded_put hy _) (by simp) ?_).1
            intro a' hI' hj' _ hs
            exact hk a' hI' hj'.1 hj'.2 (fun t ht => same_put ho hs t (same_alt ht).1)
          have hwp : wpOp P ops Q i (fun a' w' => (flag i = true → Keeps w w') ∧ G (r.ord.app rest) a' w') a w := by
            unfold wpOp
            simp only [ho', hw, Bool.false_eq_true, if_false]
            exact ⟨fun _ => Keeps.refl w, hrest⟩
          have hs2 := (ihs g b ud u2 hu2 gs prot hwf3 (fun a => J a ∧ ∀ d ∈ ud, NoBool a d) (fun a d hh => ⟨hJ a d hh.1, fun e he => (hh.2 e he).put d⟩) a rest hI ⟨hj, hu⟩ hy hu
            (fun a' hI' hj' _ hs => hk a' hI' hj'.1 hj'.2 (fun t ht => hs t (same_alt ht).2))).2 hwh
          have hB := L.altB ho' hwp hs2
          exact ⟨L.close rfl hB, fun _ => hB⟩
        · cases h
  | grp g2 b2 body pk r ihb ih =>
    intro g b ud ud' h gs prot hwf J hJ a rest hI hj hy hu hk
    simp only [skipS] at h
    simp only [wfS, Bool.and_eq_true] at hwf
    obtain ⟨hwf1, hwf2⟩ := hwf
    cases hg2 : dstOf ops.toList g2 with
    | none => simp [hg2] at h
    | some gd2 =>
      cases ho : ops.toList[pk]? with
      | none => simp [hg2, ho] at h
      | some o =>
        simp only [hg2, ho, Bool.and_eq_true] at h hwf1
        cases hc : (ud.elem gd2 && eqG o.guard (some (g, b))) with
        | false => rw [hc] at h; cases h
        | true =>
          simp only [hc, cond_true] at h
          simp only [Bool.and_eq_true] at hc
          obtain ⟨hin, hg⟩ := hc
          have hin' : gd2 ∈ ud := by simpa using hin
          have ho' : ops[pk]? = some o := by simpa using ho
          have hyn : yielded ops a.tmps g2 ≠ some b2 := by
            have hb : (ops[g2]?).bind (·.dst) = some gd2 := by
              unfold dstOf at hg2
              rw [Array.getElem?_toList] at hg2
              cases ho2 : ops[g2]? with
              | none => simp [ho2] at hg2
              | some o2 => simp [ho2] at hg2; simpa using hg2
            unfold yielded
            rw [hb]
            simp only [Option.bind_some]
            split
            · rename_i x hx; exact absurd hx (hu _ hin' x)
            · simp
          split at h
          · rename_i ud2 hs2
            refine ⟨?_, fun h => by simp [Steps.wrHead] at h⟩
            simp only [Steps.ord, OT.app_assoc, OT.app]
            refine (ihb g2 b2 ud ud2 hs2 _ _ hwf1.2.2.1 (fun a => J a ∧ yielded ops a.tmps g ≠ some b) (fun a d hh => ⟨hJ a d hh.1, yielded_put hh.2 d⟩) a (.op pk (r.ord.app rest)) hI ⟨hj, hy⟩ hyn hu ?_).1
            intro a1 hI1 ⟨hj1, hy1⟩ hu2 hs1
            have hw : Region.wanted o (yielded ops a1.tmps) = false := by
              unfold Region.wanted
              rw [eqG_eq hg]
              simpa using hy1
            have hrest : G (r.ord.app rest) (a1.put o.dst undef) w := by
              refine (ih g b _ ud' h gs prot hwf2 J hJ _ rest (hI1.put _ _) (hJ _ _ hj1) (yielded_put hy1 _) ?_ ?_).1
              · cases hd : o.dst with
                | none => exact fun d hd' => (hu2 d hd').put none
                | some e =>
                  intro d hd'
                  rcases List.mem_cons.1 hd' with rfl | h2
                  · exact NoBool.new a1 d
                  · exact (hu2 d h2).put _
              · intro a' hI' hj' hu' hs
                refine hk a' hI' hj' hu' ?_
                intro t ht
                simp only [Steps.ord] at ht
                rw [same_put ho hs t (fun h => ht (mem_dstsOf_right _ _ _ _ h)), hs1 t (fun h => ht (mem_dstsOf_left _ _ _ _ h))]
            have hwp : wpOp P ops Q pk (fun a' w' => (flag pk = true → Keeps w w') ∧ G (r.ord.app rest) a' w') a1 w := by
              unfold wpOp
              simp only [ho', hw, Bool.false_eq_true, if_false]
              exact ⟨fun _ => Keeps.refl w, hrest⟩
            cases hv : isV P o.op with
            | true => exact L.takeV ho' hv (.inr ⟨hw, rfl⟩) (fun _ => .inr ⟨hw, rfl⟩) hrest
            | false => exact L.close (by simp [OT.wrHead, wrOf, ho, hv]) (L.oneB ho' hwp)
          · cases h

/-- **The steps are sound**, in whatever logic of the region. -/
theorem TS_sound {ent : Nat → Bool} (hent : ∀ f, ent f = true → ∀ args w, (callFunc f args).run P w = .ok (.enter f args) w)
    {N : Nat} {X : List PanicEntry → World → Prop} (hX : ∀ ch a w, Inv Df N a → X ch w → Q (.panic ch) a w)
    {G B : OT → Act → World → Prop} (L : Logic P ops Q flag G B) : ∀ (s : Steps) (gs : Option (Nat × Bool)) (prot : List Nat),
    wfS P ops.toList flag gs prot s = true → (∀ g b d, gs = some (g, b) → dstOf ops.toList g = some d → d ∈ prot) →
    ∀ (E : Env) (w : World) (K : Env → World → Prop), TS P ent N ops.toList X s E w K →
    ∀ (a : Act) (rest : OT), Inv Df N a → Agrees E a → HG ops gs a →
      (∀ E' a' w', Inv Df N a' → Agrees E' a' → HG ops gs a' → (∀ t, t ∉ dstsOf ops.toList s.ord → a'.tmps[t]? = a.tmps[t]?) → K E' w' → G rest a' w') →
      G (s.ord.app rest) a w ∧ (s.wrHead P ops.toList = true → B (s.ord.app rest) a w) := by
  -- one operation
  have one : ∀ (i : Nat) (kp : Bool) (r : Steps) (gs : Option (Nat × Bool)) (prot : List Nat) (o : Oper), ops.toList[i]? = some o → eqG o.guard gs = true → Op.noSel o.op = true →
      (match o.dst with
        | some d => !prot.elem d
        | none => true) = true → (∀ g b d, gs = some (g, b) → dstOf ops.toList g = some d → d ∈ prot) →
      ∀ (E : Env) (w : World) (K : Env → World → Prop) (a : Act) (rest : OT), Inv Df N a → Agrees E a → HG ops gs a →
      (∀ (E : Env) (w : World) (K : Env → World → Prop), TS P ent N ops.toList X r E w K →
        ∀ (a : Act) (rest : OT), Inv Df N a → Agrees E a → HG ops gs a →
          (∀ E' a' w', Inv Df N a' → Agrees E' a' → HG ops gs a' → (∀ t, t ∉ dstsOf ops.toList r.ord → a'.tmps[t]? = a.tmps[t]?) → K E' w' → G rest a' w') → G (r.ord.app rest) a w) →
      (∀ E' a' w', Inv Df N a' → Agrees E' a' → HG ops gs a' → (∀ t, t ∉ dstsOf ops.toList (.op i r.ord) → a'.tmps[t]? = a.tmps[t]?) → K E' w' → G rest a' w') →
      ∀ v w', TS P ent N ops.toList X r (putE N E o.dst v) w' K → G (r.ord.app rest) (a.put o.dst v) w' := by
    intro i kp r gs prot o ho hg hsel hd hpr E w K a rest hI hA hG ih hk v w' ht
    have hGput : ∀ v, HG ops gs (a.put o.dst v) := fun v => HG_of_same hG (fun g b d e1 e2 => by
      refine tmps_put _ _ _ _ ?_
      intro e3
      have := hpr g b d e1 e2
      rw [e3] at hd; simp at hd; exact hd this)
    refine ih _ w' K ht _ rest (hI.put _ _) (hA.put N hI.2 _ _) (hGput v) ?_
    intro E' a' w'' hI' hA' hG' hs hK
    exact hk E' a' w'' hI' hA' hG' (same_put ho hs) hK
  intro s
  induction s with
  | nil => intro gs prot _ _ E w K h a rest hI hA hG hk; exact ⟨hk E a w hI hA hG (fun _ _ => rfl) h, fun h => by simp [Steps.wrHead] at h⟩
  | op i kp r ih =>
    intro gs prot hwf hpr E w K h a rest hI hA hG hk
    simp only [wfS, Bool.and_eq_true] at hwf
    obtain ⟨h1, hwf⟩ := hwf
    simp only [TS] at h
    cases ho : ops.toList[i]? with
    | none => simp [ho] at h
    | some o =>
      simp only [ho, Bool.and_eq_true] at h1 h
      obtain ⟨hg, hsel, hd, hfl⟩ := h1
      have ho' : ops[i]? = some o := by simpa using ho
      cases hkn : o.op.operands.toList.all (known E) with
      | false => rw [hkn] at h; exact h.elim
      | true =>
        rw [hkn] at h
        simp only [cond_true] at h
        have he := hA.exec hkn hsel
        have hwd := wanted_HG hG (eqG_eq hg)
        have hnext := one i kp r gs prot o ho hg hsel hd hpr E w K a rest hI hA hG (fun E w K h a rest h1 h2 h3 h4 => (ih gs prot hwf hpr E w K h a rest h1 h2 h3 h4).1) hk
        simp only [Steps.ord, OT.app]
        unfold OPT at h
        cases hv : isV P o.op with
        | true =>
          rw [hv] at h hfl
          simp only [cond_true] at h hfl
          have hkp : kp = false := by simpa using hfl
          subst hkp
          split at h
          · rename_i v hov
            have hyk : YK P ops o v a w := .inl ⟨hwd, fun w' hkk => by rw [he]; exact opV_exec hv (opV_keeps hkk hov)⟩
            exact ⟨L.takeV ho' hv hyk (fun hld => .inl ⟨hwd, fun w' => by rw [he]; exact opV_exec hv (opV_any hld w' hov)⟩) (hnext v w h), fun _ => L.oneB ho' (hyk.wpOp ho' ⟨fun _ => Keeps.refl w, hnext v w h⟩)⟩
          · exact h.elim
        | false =>
          rw [hv] at h hfl
          simp only [cond_false] at h hfl
          have hwp : wpOp P ops Q i (fun a' w' => (flag i = true → Keeps w w') ∧ G (r.ord.app rest) a' w') a w := by
            unfold wpOp
            simp only [ho', hwd, if_true]
            refine .inl ?_
            refine Oper.wp_mono ?_ (opW_sound (Q := Q) hent he (fun ch w' hx => hX ch a w' hI hx) h)
            rintro a' w' ⟨v, rfl, hv'⟩
            cases kp with
            | true => exact ⟨fun _ => hv'.1, hnext v w' hv'.2⟩
            | false =>
              refine ⟨fun hf => ?_, hnext v w' hv'⟩
              rw [hf] at hfl; simp at hfl
          have hB := L.oneB ho' hwp
          exact ⟨L.close (by simp [OT.wrHead, wrOf, ho, hv]) hB, fun _ => hB⟩
  | alt i kp r s ihr ihs =>
    intro gs prot hwf hpr E w K h a rest hI hA hG hk
    simp only [wfS, Bool.and_eq_true] at hwf
    obtain ⟨h1, hwf1, hwf2, hwh⟩ := hwf
    simp only [TS] at h
    obtain ⟨h, hs⟩ := h
    cases ho : ops.toList[i]? with
    | none => simp [ho] at h
    | some o =>
      simp only [ho, Bool.and_eq_true] at h1 h
      obtain ⟨hg, hsel, hd, hfl⟩ := h1
      have ho' : ops[i]? = some o := by simpa using ho
      cases hkn : o.op.operands.toList.all (known E) with
      | false => rw [hkn] at h; exact h.elim
      | true =>
        rw [hkn] at h
        simp only [cond_true] at h
        have he := hA.exec hkn hsel
        have hwd := wanted_HG hG (eqG_eq hg)
        have hnext := one i kp r gs prot o ho hg hsel hd hpr E w K a rest hI hA hG (fun E w K h a rest h1 h2 h3 h4 => (ihr gs prot hwf1 hpr E w K h a rest h1 h2 h3 h4).1)
          (fun E' a' w' h1 h2 h3 h4 h5 => hk E' a' w' h1 h2 h3 (fun t ht => h4 t (same_alt ht).1) h5)
        simp only [Steps.ord, OT.app]
        unfold OPT at h
        have hwp : wpOp P ops Q i (fun a' w' => (flag i = true → Keeps w w') ∧ G (r.ord.app rest) a' w') a w := by
          cases hv : isV P o.op with
          | true =>
            rw [hv] at h
            simp only [cond_true] at h
            split at h
            · rename_i v hov
              have hyk : YK P ops o v a w := .inl ⟨hwd, fun w' hkk => by rw [he]; exact opV_exec hv (opV_keeps hkk hov)⟩
              have h' : TS P ent N ops.toList X r (putE N E o.dst v) w K := by
                cases kp with
                | true => exact h.2
                | false => exact h
              exact hyk.wpOp ho' ⟨fun _ => Keeps.refl w, hnext v w h'⟩
            · exact h.elim
          | false =>
            rw [hv] at h hfl
            simp only [cond_false, Bool.false_or] at h hfl
            unfold wpOp
            simp only [ho', hwd, if_true]
            refine .inl ?_
            refine Oper.wp_mono ?_ (opW_sound (Q := Q) hent he (fun ch w' hx => hX ch a w' hI hx) h)
            rintro a' w' ⟨v, rfl, hv'⟩
            cases kp with
            | true => exact ⟨fun _ => hv'.1, hnext v w' hv'.2⟩
            | false =>
              refine ⟨fun hf => ?_, hnext v w' hv'⟩
              rw [hf] at hfl; simp at hfl
        have hB2 := (ihs gs prot hwf2 hpr E w K hs a rest hI hA hG (fun E' a' w' h1 h2 h3 h4 h5 => hk E' a' w' h1 h2 h3 (fun t ht => h4 t (same_alt ht).2) h5)).2 hwh
        have hB := L.altB ho' hwp hB2
        exact ⟨L.close rfl hB, fun _ => hB⟩
  | grp g b body pk r ihb ih =>
    intro gs prot hwf hpr E w K h a rest hI hA hG hk
    simp only [wfS, Bool.and_eq_true] at hwf
    obtain ⟨h1, hwf⟩ := hwf
    simp only [TS] at h
    refine ⟨?_, fun h => by simp [Steps.wrHead] at h⟩
    cases hgd : dstOf ops.toList g with
    | none => simp [hgd] at h
    | some gd =>
      cases ho : ops.toList[pk]? with
      | none => simp [hgd, ho] at h
      | some o =>
        simp only [hgd, ho, Bool.and_eq_true] at h1 h
        obtain ⟨hg, hd, hwb, hsk⟩ := h1
        have ho' : ops[pk]? = some o := by simpa using ho
        obtain ⟨odst, oop, oty, opos, oaf, ogd⟩ := o
        simp only at h hg hd
        split at h
        · rename_i c x y d
          split at h
          · rename_i cv ov hcv hov
            cases hcg : Nat.beq c gd with
            | false => simp [hcg] at h
            | true =>
              simp only [hcg, cond_true] at h
              have hcgd := Nat.eq_of_beq_eq_true hcg
              subst hcgd
              obtain ⟨hgnD, hcvE⟩ := lk_dropE _ _ _ _ hcv
              have hac := hA _ _ hcvE
              generalize hD : dstsOf ops.toList body.ord = D at *
              have hA1 : ∀ a' : Act, (∀ t, t ∉ D → a'.tmps[t]? = a.tmps[t]?) → Agrees (dropE D E) a' := by
                intro a' hs t v hl
                obtain ⟨h2, h3⟩ := lk_dropE _ _ _ _ hl
                rw [hs t h2]; exact hA t v h3
              have hGs : ∀ a' : Act, (∀ t, t ∉ D → a'.tmps[t]? = a.tmps[t]?) → HG ops gs a' := by
                intro a' hs
                refine HG_of_same hG (fun g' b' d' e1 e2 => hs d' ?_)
                rw [← hD]
                exact wfS_prot P ops.toList flag body _ _ hwb d' (by simp [hpr g' b' d' e1 e2])
              unfold GRP at h
              split at h
              · rename_i t
                -- what stands behind the pick
                have hnext : ∀ (v : Value) (a1 : Act) (w1 : World), Inv Df N a1 → (∀ t, t ∉ D → a1.tmps[t]? = a.tmps[t]?) →
                    TS P ent N ops.toList X r (putE N (dropE D E) (some d) v) w1 K → G (r.ord.app rest) (a1.put (some d) v) w1 := by
                  intro v a1 w1 hI1 hs1 ht
                  refine (ih gs prot hwf hpr _ w1 K ht _ rest (hI1.put _ _) ((hA1 a1 hs1).put N hI1.2 _ _) ?_ ?_).1
                  · refine HG_of_same (hGs a1 hs1) (fun g' b' d' e1 e2 => tmps_put _ _ _ _ ?_)
                    intro e3
                    have := hpr g' b' d' e1 e2
                    cases e3; simp at hd; exact hd this
                  · intro E' a' w'' hI' hA' hG' hs hK
                    refine hk E' a' w'' hI' hA' hG' ?_ hK
                    intro t ht
                    simp only [Steps.ord] at ht
                    rw [same_put ho hs t (fun h => ht (mem_dstsOf_right _ _ _ _ h)), hs1 t (fun h => ht (mem_dstsOf_left _ _ _ _ (hD ▸ h)))]
                -- the pick
                have hpick : ∀ (v : Value) (a1 : Act) (w1 : World), Inv Df N a1 → (∀ t, t ∉ D → a1.tmps[t]? = a.tmps[t]?) →
                    a1.eval (cond t x y) = v → G (r.ord.app rest) (a1.put (some d) v) w1 → G (.op pk (r.ord.app rest)) a1 w1 := by
                  intro v a1 w1 hI1 hs1 hev hG1
                  refine (fun hrun => L.takeV ho' rfl (.inl ⟨wanted_HG (hGs a1 hs1) (eqG_eq hg), fun w' _ => hrun w'⟩) (fun _ => .inl ⟨wanted_HG (hGs a1 hs1) (eqG_eq hg), hrun⟩) hG1) (fun w' => ?_)
                  have hc1 : a1.eval (.tmp c) = .bool t := by
                    have : a1.tmps[c]? = some (.bool t) := by rw [hs1 c hgnD]; exact hac
                    simp [Act.eval, this]
                  refine pickV_sound ?_ w'
                  rw [hc1]
                  simp only [pickV, Option.some.injEq]
                  rw [← hev]; cases t <;> rfl
                simp only [Steps.ord, OT.app_assoc, OT.app]
                cases hbt : cond b t (!t) with
                | true =>
                  have htb : t = b := by cases b <;> cases t <;> simp_all
                  subst htb
                  rw [hbt] at h
                  simp only [cond_true] at h
                  have hyb : HG ops (some (g, t)) a := by
                    have hb' : (ops[g]?).bind (·.dst) = some c := by
                      unfold dstOf at hgd
                      rw [Array.getElem?_toList] at hgd
                      cases ho2 : ops[g]? with
                      | none => simp [ho2] at hgd
                      | some o2 => simp [ho2] at hgd; simpa using hgd
                    simp only [HG, yielded, hb', Option.bind_some, hac]
                  refine (ihb (some (g, t)) (c :: prot) hwb ?_ E w _ h a (.op pk (r.ord.app rest)) hI hA hyb ?_).1
                  · intro g' b' d' e1 e2; cases e1; rw [hgd] at e2; cases e2; simp
                  · intro E' a' w' hI' hA' _ hs hK
                    split at hK
                    · rename_i v hv
                      have hkn : known E' (cond t x y) = true := by simp [known, hv]
                      refine hpick v a' w' hI' hs ?_ (hnext v a' w' hI' hs hK)
                      rw [hA'.eval hkn]; simp [rho, hv]
                    · exact hK.elim
                | false =>
                  have htb : t = !b := by cases b <;> cases t <;> simp_all
                  subst htb
                  rw [hbt] at h
                  simp only [cond_false] at h
                  have hyn : yielded ops a.tmps g ≠ some b := by
                    have hb' : (ops[g]?).bind (·.dst) = some c := by
                      unfold dstOf at hgd
                      rw [Array.getElem?_toList] at hgd
                      cases ho2 : ops[g]? with
                      | none => simp [ho2] at hgd
                      | some o2 => simp [ho2] at hgd; simpa using hgd
                    simp [yielded, hb', hac]
                  split at hsk
                  · rename_i ud2 hs2
                    refine (skip_sound L body g b [] ud2 hs2 _ _ hwb (fun _ => True) (fun _ _ _ => trivial) a (.op pk (r.ord.app rest)) hI trivial hyn (by simp) ?_).1
                    intro a' hI' _ _ hs
                    rw [hD] at hs
                    have hkn : known (dropE D E) (cond b y x) = true := by simp [known, hov]
                    refine hpick ov a' w hI' hs ?_ (hnext ov a' w hI' hs h)
                    rw [show cond (!b) x y = cond b y x by cases b <;> rfl, (hA1 a' hs).eval hkn]
                    simp [rho, hov]
                  · cases hsk
              · exact h.elim
          · exact h.elim
        · exact h.elim

end

/-! ### Code -/

/-- What may be written. -/
def dstsC : Code → List Nat
  | .region _ ops _ => ops.toList.filterMap (·.dst)
  | .seq a b => dstsC a ++ dstsC b
  | .cond _ a b => dstsC a ++ dstsC b
  | .block _ c => dstsC c
  | .loop c => dstsC c
  | .scope c => dstsC c
  | _ => []

/-- The way through a piece of code; 'sl': the slots that are handed on at a join or at a loop's head, 'kp': those that stay. -/
inductive Plan where
  | leaf
  | reg (s : Steps)
  | seq (p q : Plan)
  | jseq (sl kp : List Nat) (p q : Plan)
  | cond (p q : Plan)
  | block (p : Plan)
  | jblock (sl kp : List Nat) (p : Plan)
  | loop (sl kp : List Nat) (p : Plan)
  | scope (p : Plan)

/-- Predicates over n values and a world. -/
def CT : Nat → Type
  | 0 => World → Prop
  | n + 1 => Value → CT n

/-- Measures over n values and a world. -/
def CM : Nat → Type
  | 0 => World → Nat
  | n + 1 => Value → CM n

def cur : (n : Nat) → (List Value → World → Prop) → CT n
  | 0, f => f []
  | n + 1, f => fun v => cur n fun l => f (v :: l)

def unc : (n : Nat) → CT n → List Value → World → Prop
  | 0, f, _ => f
  | n + 1, f, v :: l => unc n (f v) l
  | _ + 1, _, [] => fun _ => False

def uncM : (n : Nat) → CM n → List Value → World → Nat
  | 0, f, _ => f
  | n + 1, f, v :: l => uncM n (f v) l
  | _ + 1, _, [] => fun _ => 0

/-- For all n values. -/
def allV : (n : Nat) → (List Value → Prop) → Prop
  | 0, f => f []
  | n + 1, f => ∀ v, allV n fun l => f (v :: l)

theorem unc_cur : ∀ (n : Nat) (f : List Value → World → Prop) (l : List Value), l.length = n → unc n (cur n f) l = f l
  | 0, _, [], _ => rfl
  | n + 1, f, v :: l, h => unc_cur n (fun l => f (v :: l)) l (by simpa using h)

theorem allV_spec : ∀ (n : Nat) (f : List Value → Prop), allV n f → ∀ l : List Value, l.length = n → f l
  | 0, _, h, [], _ => h
  | n + 1, f, h, v :: l, hl => allV_spec n (fun l => f (v :: l)) (h v) l (by simpa using hl)

theorem allV_of : ∀ (n : Nat) (f : List Value → Prop), (∀ l : List Value, l.length = n → f l) → allV n f
  | 0, _, h => h [] rfl
  | n + 1, f, h => fun v => allV_of n (fun l => f (v :: l)) fun l hl => h (v :: l) (by simp [hl])

/-- A place where ways meet again. -/
def JOIN {α : Type} (body : α → Prop) (rest : α) : Prop := body rest

/-- A branch. -/
def CND (v : Value) (A B : Prop) : Prop :=
  match v with
  | .bool t => cond t A B
  | _ => False

def vals (E : Env) : List Nat → Option (List Value)
  | [] => some []
  | s :: r =>
    match lk E s, vals E r with
    | some v, some l => some (v :: l)
    | _, _ => none

def zipE : List Nat → List Value → Env → Env
  | s :: r, v :: l, E => (s, v) :: zipE r l E
  | _, _, E => E

theorem zipE_agrees {a : Act} {Ek : Env} (hEk : Agrees Ek a) : ∀ (sl : List Nat) (vs : List Value), sl.length = vs.length →
    (∀ (i s : Nat) (v : Value), sl[i]? = some s → vs[i]? = some v → a.tmps[s]? = some v) → Agrees (zipE sl vs Ek) a := by
  intro sl
  induction sl with
  | nil => intro vs _ _; simpa [zipE] using hEk
  | cons s r ih =>
    intro vs hl h
    cases vs with
    | nil => simp at hl
    | cons v l =>
      intro t u ht
      simp only [zipE, lk_cons] at ht
      split at ht
      · rename_i e; subst e; cases ht; exact h 0 s v rfl rfl
      · exact ih l (by simpa using hl) (fun i s' v' h1 h2 => h (i + 1) s' v' (by simpa using h1) (by simpa using h2)) t u ht

theorem vals_spec {E : Env} : ∀ {sl : List Nat} {vs : List Value}, vals E sl = some vs → sl.length = vs.length ∧ ∀ (i s : Nat) (v : Value), sl[i]? = some s → vs[i]? = some v → lk E s = some v := by
  intro sl
  induction sl with
  | nil => intro vs h; simp only [vals, Option.some.injEq] at h; subst h; simp
  | cons s r ih =>
    intro vs h
    simp only [vals] at h
    split at h
    · rename_i v l hv hl
      cases h
      obtain ⟨h1, h2⟩ := ih hl
      refine ⟨by simp [h1], ?_⟩
      intro i s' v' h3 h4
      cases i with
      | zero => simp at h3 h4; subst h3; subst h4; exact hv
      | succ i => exact h2 i s' v' (by simpa using h3) (by simpa using h4)
    · cases h

/-- A loop: an invariant over the slots that it hands on, and a measure. -/
def LOOP (n : Nat) (v0 : List Value) (w : World) (step : List Value → World → (List Value → World → Prop) → Prop) : Prop :=
  ∃ (I : CT n) (μ : CM n), unc n I v0 w ∧ allV n fun vs => ∀ w', unc n I vs w' → step vs w' fun vs' w'' => unc n I vs' w'' ∧ uncM n μ vs' w'' < uncM n μ vs w'

def T (P : Program) (ent : Nat → Bool) (N : Nat) : Code → Plan → Env → World → (Exit → Env → World → Prop) → Prop
  | .skip, _, E, w, Q => Q .normal E w
  | .label _, _, E, w, Q => Q .normal E w
  | .ret, _, E, w, Q => Q .ret E w
  | .exit i, _, E, w, Q => Q (.exit i) E w
  | .region _ ops draw, .reg s, E, w, Q => TS P ent N ops.toList (fun ch w' => Q (.panic ch) [] w') s E (cond draw w.drew w) (fun E' w' => Q .normal E' w')
  | .seq x y, .seq p q, E, w, Q => T P ent N x p E w fun e E' w' => match e with
    | .normal => T P ent N y q E' w' Q
    | e => Q e E' w'
  | .seq x y, .jseq sl kp p q, E, w, Q =>
    JOIN (fun J => T P ent N x p E w fun e E' w' => match e with
        | .normal => (match vals E' sl with
          | some vs => unc sl.length J vs w'
          | none => False)
        | e => Q e E' w')
      (cur sl.length fun vs w' => T P ent N y q (zipE sl vs (keepE kp E)) w' Q)
  | .cond c x y, .cond p q, E, w, Q =>
    match ev E c with
    | some v => CND v (T P ent N x p E w Q) (T P ent N y q E w Q)
    | none => False
  | .block id c, .block p, E, w, Q => T P ent N c p E w fun e E' w' => match e with
    | .exit i => cond (Nat.beq i id) (Q .normal E' w') (Q (.exit i) E' w')
    | e => Q e E' w'
  | .block id c, .jblock sl kp p, E, w, Q =>
    JOIN (fun J => T P ent N c p E w fun e E' w' => match e with
        | .normal => (match vals E' sl with
          | some vs => unc sl.length J vs w'
          | none => False)
        | .exit i => cond (Nat.beq i id) (match vals E' sl with
          | some vs => unc sl.length J vs w'
          | none => False) (Q (.exit i) E' w')
        | e => Q e E' w')
      (cur sl.length fun vs w' => Q .normal (zipE sl vs (keepE kp E)) w')
  | .loop c, .loop sl kp p, E, w, Q =>
    match vals E sl with
    | some v0 => LOOP sl.length v0 w fun vs w' back => T P ent N c p (zipE sl vs (keepE kp E)) w' fun e E' w'' => match e with
      | .normal => (match vals E' sl with
        | some vs' => back vs' w''
        | none => False)
      | e => Q e E' w''
    | none => False
  | .scope c, .scope p, E, w, Q => T P ent N c p E w fun e E' w' => match e with
    | .goto _ => False
    | e => Q e E' w'
  | _, _, _, _, _ => False

/-- No key of the list is written. -/
def apartB (kp ds : List Nat) : Bool := kp.all fun k => !ds.elem k

def noSelB (ops : List Oper) : Bool := ops.all fun o => Op.noSel o.op

/-- Behind which operations the cells are as they were. -/
def flagF (P : Program) (ops : List Oper) (s : Steps) (i : Nat) : Bool :=
  match ops[i]? with
  | some o => isV P o.op || s.kept i
  | none => false

def chkC (P : Program) : Code → Plan → Bool
  | .region _ ops draw, .reg s =>
    wfS P ops.toList (flagF P ops.toList s) none [] s && (Nat.beq s.ord.len ops.size && cond draw
      (noSelB ops.toList && (Nat.beq (masks ops.toList []).length ops.size && chkO P ops (masks ops.toList []) (flagF P ops.toList s) false s.ord (Array.replicate ops.size false)))
      (s.ord.noAlt && s.ord.flat == List.range ops.size))
  | .seq x y, .seq p q => chkC P x p && chkC P y q
  | .seq x y, .jseq _ kp p q => apartB kp (dstsC x) && (chkC P x p && chkC P y q)
  | .cond _ x y, .cond p q => chkC P x p && chkC P y q
  | .block _ c, .block p => chkC P c p
  | .block _ c, .jblock _ kp p => apartB kp (dstsC c) && chkC P c p
  | .loop c, .loop _ kp p => apartB kp (dstsC c) && chkC P c p
  | .scope c, .scope p => chkC P c p
  | .skip, _ | .label _, _ | .ret, _ | .exit _, _ => true
  | _, _ => false

section
variable {Df : List Deferred} {P : Program} {ent : Nat → Bool} {N : Nat}

/-- What is known at an exit. -/
def Lift (Df : List Deferred) (N : Nat) (Q : Exit → Env → World → Prop) (D : List Nat) (a0 : Act) : Exit → Act → World → Prop
  | .panic ch, a, w => Inv Df N a ∧ Q (.panic ch) [] w
  | .outgrown, _, _ => False
  | e, a, w => Inv Df N a ∧ (∀ t, t ∉ D → a.tmps[t]? = a0.tmps[t]?) ∧ ∃ E, Agrees E a ∧ Q e E w

theorem Lift.weaken {Q : Exit → Env → World → Prop} {D D' : List Nat} {a0 a1 : Act} (hD : ∀ t, t ∉ D' → t ∉ D ∧ a1.tmps[t]? = a0.tmps[t]?) {e : Exit} {a : Act} {w : World}
    (h : Lift Df N Q D a1 e a w) : Lift Df N Q D' a0 e a w := by
  cases e with
  | panic ch => exact h
  | outgrown => exact h
  | normal => exact ⟨h.1, fun t ht => by rw [h.2.1 t (hD t ht).1, (hD t ht).2], h.2.2⟩
  | exit i => exact ⟨h.1, fun t ht => by rw [h.2.1 t (hD t ht).1, (hD t ht).2], h.2.2⟩
  | goto l => exact ⟨h.1, fun t ht => by rw [h.2.1 t (hD t ht).1, (hD t ht).2], h.2.2⟩
  | ret => exact ⟨h.1, fun t ht => by rw [h.2.1 t (hD t ht).1, (hD t ht).2], h.2.2⟩

theorem keepE_agrees {kp ds : List Nat} (hap : apartB kp ds = true) {E : Env} {a a' : Act} (hA : Agrees E a) (hs : ∀ t, t ∉ ds → a'.tmps[t]? = a.tmps[t]?) :
    Agrees (keepE kp E) a' := by
  intro t v hl
  obtain ⟨h1, h2⟩ := lk_keepE _ _ _ _ hl
  have h3 : t ∉ ds := by
    have := List.all_eq_true.1 hap t h1
    simpa using this
  rw [hs t h3]; exact hA t v h2

theorem noSelB_spec {ops : Array Oper} (h : noSelB ops.toList = true) (j : Nat) (o : Oper) (cs : Array SelectCase) (b : Bool) (ho : ops[j]? = some o) : o.op ≠ .select cs b := by
  intro he
  have := List.all_eq_true.1 h o (by simpa using Array.mem_of_getElem? ho)
  rw [he] at this; simp [Op.noSel] at this

theorem dstOf_mem {l : List Oper} {i d : Nat} (hd : dstOf l i = some d) : d ∈ l.filterMap (·.dst) := by
  unfold dstOf at hd
  split at hd
  · rename_i o ho
    exact List.mem_filterMap.2 ⟨o, List.mem_of_getElem? ho, hd⟩
  · cases hd

theorem dstsOf_range (l : List Oper) : ∀ (is : OT) (t : Nat), t ∈ dstsOf l is → t ∈ l.filterMap (·.dst) := by
  intro is
  induction is with
  | nil => intro t h; simp [dstsOf] at h
  | op i r ih =>
    intro t h
    simp only [dstsOf] at h
    split at h
    · rename_i d hd
      rcases List.mem_cons.1 h with rfl | h2
      · exact dstOf_mem hd
      · exact ih t h2
    · exact ih t h
  | alt i r s ihr ihs =>
    intro t h
    simp only [dstsOf] at h
    split at h
    · rename_i d hd
      rcases List.mem_cons.1 h with rfl | h2
      · exact dstOf_mem hd
      · exact (List.mem_append.1 h2).elim (ihr t) (ihs t)
    · exact (List.mem_append.1 h).elim (ihr t) (ihs t)

theorem T_sound (hent : ∀ f, ent f = true → ∀ args w, (callFunc f args).run P w = .ok (.enter f args) w) (hm : P.follows .mixedOrders = true) :
    ∀ (c : Code) (p : Plan) (E : Env) (w : World) (Q : Exit → Env → World → Prop), chkC P c p = true → T P ent N c p E w Q →
    ∀ a : Act, Inv Df N a → Agrees E a → c.wp P (Lift Df N Q (dstsC c) a) a w := by
  intro c
  induction c with
  | skip => intro p E w Q _ h a hI hA; exact wp_skip ⟨hI, fun _ _ => rfl, E, hA, h⟩
  | label l => intro p E w Q _ h a hI hA; exact wp_label ⟨hI, fun _ _ => rfl, E, hA, h⟩
  | ret => intro p E w Q _ h a hI hA; exact wp_ret ⟨hI, fun _ _ => rfl, E, hA, h⟩
  | exit i => intro p E w Q _ h a hI hA; exact wp_exit ⟨hI, fun _ _ => rfl, E, hA, h⟩
  | region id ops draw =>
    intro p E w Q hchk h a hI hA
    cases p <;> simp only [T] at h <;> try (first | (simp only [chkC, Bool.false_eq_true] at hchk; done) | simp only [chkC] at hchk)
    rename_i s
    simp only [Bool.and_eq_true] at hchk
    obtain ⟨hwf, hlen, hchk⟩ := hchk
    have hlen' : s.ord.len = ops.size := Nat.eq_of_beq_eq_true hlen
    have hX : ∀ ch (a' : Act) w', Inv Df N a' → Q (.panic ch) [] w' → Lift Df N Q (dstsC (.region id ops draw)) a (.panic ch) a' w' := fun ch a' w' h1 h2 => ⟨h1, h2⟩
    cases draw with
    | false =>
      simp only [cond_false, Bool.and_eq_true, beq_iff_eq] at hchk h
      refine wp_region ?_
      rw [← hchk.2]
      have := (TS_sound hent hX (logic_plain (P := P) (ops := ops) (flag := flagF P ops.toList s)) s none [] hwf (by simp) E w _ h a .nil hI hA trivial ?_).1
      · rw [OT.app_nil] at this
        exact this hchk.1
      · intro E' a' w' hI' hA' _ hs hK _
        exact ⟨hI', fun t ht => hs t (fun h => ht (dstsOf_range _ _ _ h)), E', hA', hK⟩
    | true =>
      simp only [cond_true, Bool.and_eq_true] at hchk h
      obtain ⟨hns, hml, hchk⟩ := hchk
      have hms : MaskOk ops.toList (masks ops.toList []) := masks_ok _ _ [] (by simp) (by intro j o _ hlt; simp at hlt)
      have L := logic_drawn (P := P) (Q := Lift Df N Q (dstsC (.region id ops true)) a) (flag := flagF P ops.toList s) hms (Nat.eq_of_beq_eq_true hml) (noSelB_spec hns)
        (fun c' a' w' dst v hh => ⟨⟨by cases dst <;> exact hh.1.1, by cases dst <;> simpa [Act.put] using hh.1.2⟩, hh.2⟩)
      refine wp_region_any hm (wpAny_of_K (flag := flagF P ops.toList s) _ _ _ _ ?_)
      have := (TS_sound hent hX L s none [] hwf (by simp) E w.drew _ h a .nil hI hA trivial ?_).1
      · rw [OT.app_nil] at this
        have h2 := this (Array.replicate ops.size false) (by simp) (by intro j o _ hl; simp [Array.getElem?_replicate] at hl; split at hl <;> simp_all) hchk
        rw [hlen'] at h2
        exact h2
      · intro E' a' w' hI' hA' _ hs hK
        intro listed _ _ hc
        simp only [chkO, Bool.not_false, Bool.true_and, List.isEmpty_iff] at hc
        exact ⟨hc, hI', fun t ht => hs t (fun h => ht (dstsOf_range _ _ _ h)), E', hA', hK⟩
  | seq x y ihx ihy =>
    intro p E w Q hchk h a hI hA
    cases p <;> simp only [T] at h <;> try (first | (simp only [chkC, Bool.false_eq_true] at hchk; done) | simp only [chkC] at hchk)
    case seq p q =>
      simp only [Bool.and_eq_true] at hchk
      refine wp_seq (wp_mono (ihx p E w _ hchk.1 h a hI hA) ?_)
      intro e a' w' hL
      cases e with
      | normal =>
        obtain ⟨hI', hs, E', hA', hT⟩ := hL
        refine wp_mono (ihy q E' w' Q hchk.2 hT a' hI' hA') fun e a'' w'' hh => hh.weaken ?_
        intro t ht
        simp only [dstsC, List.mem_append, not_or] at ht
        exact ⟨ht.2, hs t ht.1⟩
      | panic ch => exact hL
      | outgrown => exact hL
      | exit i => obtain ⟨h1, h2, h3⟩ := hL; exact ⟨h1, fun t ht => h2 t (fun h => ht (by simp [dstsC, h])), h3⟩
      | goto i => obtain ⟨h1, h2, h3⟩ := hL; exact ⟨h1, fun t ht => h2 t (fun h => ht (by simp [dstsC, h])), h3⟩
      | ret => obtain ⟨h1, h2, h3⟩ := hL; exact ⟨h1, fun t ht => h2 t (fun h => ht (by simp [dstsC, h])), h3⟩
    case jseq sl kp p q =>
      simp only [Bool.and_eq_true] at hchk
      unfold JOIN at h
      refine wp_seq (wp_mono (ihx p E w _ hchk.2.1 h a hI hA) ?_)
      intro e a' w' hL
      cases e with
      | normal =>
        obtain ⟨hI', hs, E', hA', hT⟩ := hL
        simp only at hT
        split at hT
        · rename_i vs hvs
          obtain ⟨hl, hv⟩ := vals_spec hvs
          rw [unc_cur _ _ _ hl.symm] at hT
          have hA2 : Agrees (zipE sl vs (keepE kp E)) a' := zipE_agrees (keepE_agrees hchk.1 hA hs) sl vs hl (fun i s v h1 h2 => hA' s v (hv i s v h1 h2))
          refine wp_mono (ihy q _ w' Q hchk.2.2 hT a' hI' hA2) fun e a'' w'' hh => hh.weaken ?_
          intro t ht
          simp only [dstsC, List.mem_append, not_or] at ht
          exact ⟨ht.2, hs t ht.1⟩
        · exact hT.elim
      | panic ch => exact hL
      | outgrown => exact hL
      | exit i => obtain ⟨h1, h2, h3⟩ := hL; exact ⟨h1, fun t ht => h2 t (fun h => ht (by simp [dstsC, h])), h3⟩
      | goto i => obtain ⟨h1, h2, h3⟩ := hL; exact ⟨h1, fun t ht => h2 t (fun h => ht (by simp [dstsC, h])), h3⟩
      | ret => obtain ⟨h1, h2, h3⟩ := hL; exact ⟨h1, fun t ht => h2 t (fun h => ht (by simp [dstsC, h])), h3⟩
  | cond c x y ihx ihy =>
    intro p E w Q hchk h a hI hA
    cases p <;> simp only [T] at h <;> try (first | (simp only [chkC, Bool.false_eq_true] at hchk; done) | simp only [chkC] at hchk)
    rename_i p q
    simp only [Bool.and_eq_true] at hchk
    split at h
    · rename_i v hv
      unfold CND at h
      split at h
      · rename_i t
        have hk : known E c = true := by simp [known, hv]
        have hc : a.eval c = .bool t := by rw [hA.eval hk]; simp [rho, hv]
        cases t with
        | true => exact wp_cond_true hc (wp_mono (ihx p E w Q hchk.1 h a hI hA) fun e a' w' hh => hh.weaken fun t ht => ⟨fun h => ht (by simp [dstsC, h]), rfl⟩)
        | false => exact wp_cond_false hc (wp_mono (ihy q E w Q hchk.2 h a hI hA) fun e a' w' hh => hh.weaken fun t ht => ⟨fun h => ht (by simp [dstsC, h]), rfl⟩)
      · exact h.elim
    · exact h.elim
  | block id c ih =>
    intro p E w Q hchk h a hI hA
    cases p <;> simp only [T] at h <;> try (first | (simp only [chkC, Bool.false_eq_true] at hchk; done) | simp only [chkC] at hchk)
    case block p =>
      refine wp_block (wp_mono (ih p E w _ hchk h a hI hA) ?_)
      intro e a' w' hL
      cases e with
      | exit i =>
        obtain ⟨h1, h2, E', hA', h3⟩ := hL
        simp only [Exit.inBlock]
        cases hb : Nat.beq i id with
        | true =>
          have := Nat.eq_of_beq_eq_true hb
          simp only [hb, cond_true] at h3
          rw [if_pos this]; exact ⟨h1, h2, E', hA', h3⟩
        | false =>
          have : i ≠ id := by rintro rfl; simp at hb
          simp only [hb, cond_false] at h3
          rw [if_neg this]; exact ⟨h1, h2, E', hA', h3⟩
      | normal => exact hL
      | panic ch => exact hL
      | outgrown => exact hL
      | goto i => exact hL
      | ret => exact hL
    case jblock sl kp p =>
      simp only [Bool.and_eq_true] at hchk
      unfold JOIN at h
      have hjoin : ∀ E' (a' : Act) w', Inv Df N a' → (∀ t, t ∉ dstsC c → a'.tmps[t]? = a.tmps[t]?) → Agrees E' a' → (match vals E' sl with
          | some vs => unc sl.length (cur sl.length fun vs w' => Q .normal (zipE sl vs (keepE kp E)) w') vs w'
          | none => False) → Lift Df N Q (dstsC (.block id c)) a .normal a' w' := by
        intro E' a' w' hI' hs hA' hT
        split at hT
        · rename_i vs hvs
          obtain ⟨hl, hv⟩ := vals_spec hvs
          rw [unc_cur _ _ _ hl.symm] at hT
          exact ⟨hI', hs, _, zipE_agrees (keepE_agrees hchk.1 hA hs) sl vs hl (fun i s v h1 h2 => hA' s v (hv i s v h1 h2)), hT⟩
        · exact hT.elim
      refine wp_block (wp_mono (ih p E w _ hchk.2 h a hI hA) ?_)
      intro e a' w' hL
      cases e with
      | exit i =>
        obtain ⟨h1, h2, E', hA', h3⟩ := hL
        simp only [Exit.inBlock]
        cases hb : Nat.beq i id with
        | true =>
          have := Nat.eq_of_beq_eq_true hb
          simp only [hb, cond_true] at h3
          rw [if_pos this]; exact hjoin E' a' w' h1 h2 hA' h3
        | false =>
          have : i ≠ id := by rintro rfl; simp at hb
          simp only [hb, cond_false] at h3
          rw [if_neg this]; exact ⟨h1, h2, E', hA', h3⟩
      | normal => obtain ⟨h1, h2, E', hA', h3⟩ := hL; exact hjoin E' a' w' h1 h2 hA' h3
      | panic ch => exact hL
      | outgrown => exact hL
      | goto i => exact hL
      | ret => exact hL
  | loop c ih =>
    intro p E w Q hchk h a hI hA
    cases p <;> simp only [T] at h <;> try (first | (simp only [chkC, Bool.false_eq_true] at hchk; done) | simp only [chkC] at hchk)
    rename_i sl kp p
    simp only [Bool.and_eq_true] at hchk
    split at h
    · rename_i v0 hv0
      obtain ⟨I, μ, h0, hstep⟩ := h
      obtain ⟨hl0, hv0'⟩ := vals_spec hv0
      let V : Act → List Value := fun a' => sl.map fun s => a'.tmps.getD s undef
      have hV : ∀ (a' : Act) (vs : List Value), sl.length = vs.length → (∀ (i s : Nat) (v : Value), sl[i]? = some s → vs[i]? = some v → a'.tmps[s]? = some v) → V a' = vs := by
        intro a' vs hl h
        apply List.ext_getElem?
        intro i
        simp only [V, List.getElem?_map]
        cases hs : sl[i]? with
        | none =>
          have : sl.length ≤ i := by simpa using hs
          simp; omega
        | some s =>
          have hi : i < vs.length := by rw [← hl]; exact (List.getElem?_eq_some_iff.1 hs).1
          have hv : vs[i]? = some vs[i] := List.getElem?_eq_getElem hi
          have := h i s _ hs hv
          simp [this]
      refine wp_loop (fun a' w' => Inv Df N a' ∧ (∀ t, t ∉ dstsC c → a'.tmps[t]? = a.tmps[t]?) ∧ ∃ vs, sl.length = vs.length ∧ V a' = vs ∧ Agrees (zipE sl vs (keepE kp E)) a' ∧ unc sl.length I vs w')
        (fun a' w' => uncM sl.length μ (V a') w') ?_ ?_
      · refine ⟨hI, fun _ _ => rfl, v0, hl0, hV a v0 hl0 (fun i s v h1 h2 => hA s v (hv0' i s v h1 h2)), zipE_agrees (keepE_agrees hchk.1 hA (fun _ _ => rfl)) sl v0 hl0 (fun i s v h1 h2 => hA s v (hv0' i s v h1 h2)), h0⟩
      · rintro a1 w1 ⟨hI1, hs1, vs, hl, hVa, hA1, hIv⟩
        have hT := allV_spec _ _ hstep vs hl.symm w1 hIv
        refine wp_mono (ih p _ w1 _ hchk.2 hT a1 hI1 hA1) ?_
        intro e a' w' hL
        cases e with
        | normal =>
          obtain ⟨h1, h2, E', hA', h3⟩ := hL
          simp only at h3
          split at h3
          · rename_i vs' hvs'
            obtain ⟨hl', hv'⟩ := vals_spec hvs'
            obtain ⟨h4, h5⟩ := h3
            have hs' : ∀ t, t ∉ dstsC c → a'.tmps[t]? = a.tmps[t]? := fun t ht => by rw [h2 t ht, hs1 t ht]
            have hVa' := hV a' vs' hl' (fun i s v h1 h2 => hA' s v (hv' i s v h1 h2))
            refine ⟨⟨h1, hs', vs', hl', hVa', zipE_agrees (keepE_agrees hchk.1 hA hs') sl vs' hl' (fun i s v h1 h2 => hA' s v (hv' i s v h1 h2)), h4⟩, ?_⟩
            show uncM _ _ (V a') _ < uncM _ _ (V a1) _
            rw [hVa', hVa]; exact h5
          · exact h3.elim
        | panic ch => exact hL
        | outgrown => exact hL
        | exit i => obtain ⟨h1, h2, h3⟩ := hL; exact ⟨h1, fun t ht => by rw [h2 t ht, hs1 t ht], h3⟩
        | goto i => obtain ⟨h1, h2, h3⟩ := hL; exact ⟨h1, fun t ht => by rw [h2 t ht, hs1 t ht], h3⟩
        | ret => obtain ⟨h1, h2, h3⟩ := hL; exact ⟨h1, fun t ht => by rw [h2 t ht, hs1 t ht], h3⟩
    · exact h.elim
  | scope c ih =>
    intro p E w Q hchk h a hI hA
    cases p <;> simp only [T] at h <;> try (first | (simp only [chkC, Bool.false_eq_true] at hchk; done) | simp only [chkC] at hchk)
    rename_i p
    refine wp_scope_straight (wp_mono (ih p E w _ hchk h a hI hA) ?_)
    intro e a' w' hL
    cases e with
    | goto i => obtain ⟨_, _, E', _, h3⟩ := hL; exact h3.elim
    | normal => exact hL
    | panic ch => exact hL
    | outgrown => exact hL
    | exit i => exact hL
    | ret => exact hL
  | rangeFunc f ps x y => intro p E w Q _ h; cases p <;> simp only [T] at h
  | goto l => intro p E w Q _ h; cases p <;> simp only [T] at h
  | refuse why => intro p E w Q _ h; cases p <;> simp only [T] at h

/-- What a function answers. -/
def resV (P : Program) (E : Env) (w : World) : List ResultVar → Option (List Value)
  | [] => some []
  | .tmp t :: r =>
    match lk E t, resV P E w r with
    | some v, some l => some (v :: l)
    | _, _ => none
  | .cell a t :: r =>
    match lk E a, resV P E w r with
    | some x, some l => match loadV (ldP P t) w x with
      | some v => some (v :: l)
      | none => none
    | _, _ => none

/-- What a function answers, one result behind the other. -/
def retT (P : Program) (E : Env) (w : World) : List ResultVar → (List Value → Prop) → Prop
  | [], k => k []
  | .tmp t :: r, k =>
    match lk E t with
    | some v => retT P E w r fun l => k (v :: l)
    | none => False
  | .cell a t :: r, k =>
    match lk E a with
    | some x =>
      match loadV (ldP P t) w x with
      | some v => retT P E w r fun l => k (v :: l)
      | none => False
    | none => False

theorem retT_spec {E : Env} {w : World} : ∀ {rs : List ResultVar} {k : List Value → Prop}, retT P E w rs k → ∃ l, resV P E w rs = some l ∧ k l := by
  intro rs
  induction rs with
  | nil => intro k h; exact ⟨[], rfl, h⟩
  | cons r rs ih =>
    intro k h
    cases r with
    | tmp t =>
      simp only [retT] at h
      split at h
      · rename_i v hv
        obtain ⟨l, hl, hk⟩ := ih h
        exact ⟨v :: l, by simp [resV, hv, hl], hk⟩
      · exact h.elim
    | cell a t =>
      simp only [retT] at h
      split at h
      · rename_i x hx
        split at h
        · rename_i v hv
          obtain ⟨l, hl, hk⟩ := ih h
          exact ⟨v :: l, by simp [resV, hx, hl, hv], hk⟩
        · exact h.elim
      · exact h.elim

def RET (P : Program) (E : Env) (w : World) (rs : List ResultVar) (K : Value → World → Prop) : Prop :=
  retT P E w rs fun l => match l with
    | [v] => K v w
    | vs => K (.tuple vs.toArray) w

/-- One result. -/
def resF (tmps : Array Value) : ResultVar → Sem Value
  | .tmp t => pure (tmps.getD t undef)
  | .cell x t => do loadVar t (← asAddr (tmps.getD x undef))

theorem resV_run {E : Env} {a : Act} (hA : Agrees E a) {w : World} : ∀ {rs : List ResultVar} {l : List Value}, resV P E w rs = some l →
    (rs.mapM (resF a.tmps) : Sem (List Value)).run P w = .ok l w := by
  intro rs
  induction rs with
  | nil => intro l h; simp only [resV, Option.some.injEq] at h; subst h; rfl
  | cons r rs ih =>
    intro l h
    rw [List.mapM_cons, Sem.run_bind]
    cases r with
    | tmp t =>
      simp only [resV] at h
      split at h
      · rename_i v l' hv hl
        cases h
        have h1 : (resF a.tmps (.tmp t)).run P w = .ok v w := by
          have := hA t v hv
          simp [resF, this]
        rw [h1, Result.andThen_ok, Sem.run_bind, ih hl]; rfl
      · cases h
    | cell x t =>
      simp only [resV] at h
      split at h
      · rename_i p l' hp hl
        split at h
        · rename_i v hv
          cases h
          have hx : a.tmps.getD x undef = p := by have := hA x p hp; simp [this]
          obtain ⟨ad, rfl⟩ : ∃ ad, p = .pointer (some ad) := by
            unfold loadV at hv; split at hv
            · exact ⟨_, rfl⟩
            · exact ⟨_, rfl⟩
            · cases hv
          have hld := loadV_sound (P := P) hv
          simp only [Instr.loadAt, Instr.sureAddr, pure_bind] at hld
          have h1 : (resF a.tmps (.cell x t)).run P w = .ok v w := by
            show (do loadVar t (← asAddr (a.tmps.getD x undef))).run P w = .ok v w
            rw [hx]
            simp only [asAddr, pure_bind, hld]
          rw [h1, Result.andThen_ok, Sem.run_bind, ih hl]; rfl
        · cases h
      · cases h

theorem results_eq (fn : Func) (tmps : Array Value) : results fn tmps = (do
    let vs ← fn.results.mapM (resF tmps)
    pure (if h : vs.size = 1 then vs[0] else .tuple vs)) := by
  unfold results
  congr 1

theorem RET_results {fn : Func} {E : Env} {a : Act} (hA : Agrees E a) {w : World} {K : Value → World → Prop} (h : RET P E w fn.results.toList K) :
    ∃ v, (results fn a.tmps).run P w = .ok v w ∧ K v w := by
  obtain ⟨l, hl, h⟩ := retT_spec h
  have hm : ∀ l, resV P E w fn.results.toList = some l → (fn.results.mapM (resF a.tmps) : Sem (Array Value)).run P w = .ok l.toArray w := by
    intro l hl
    rw [Array.mapM_eq_mapM_toList, Sem.run_map]
    have := resV_run hA hl
    rw [this]; rfl
  rw [results_eq]
  split at h
  · rename_i v
    refine ⟨v, ?_, h⟩
    rw [Sem.run_bind, hm _ hl]
    simp
  · rename_i hne
    refine ⟨_, ?_, h⟩
    rw [Sem.run_bind, hm _ hl]
    have : ¬ l.toArray.size = 1 := by
      intro h1
      obtain ⟨x, rfl⟩ := List.length_eq_one_iff.1 (by simpa using h1)
      exact hne x rfl
    simp only [Result.andThen_ok]
    rw [dif_neg this]; rfl

/-- The arguments lie in the first slots. -/
def argsE : Nat → List Value → Env
  | _, [] => []
  | i, v :: r => (i, v) :: argsE (i + 1) r

theorem argsE_agrees (args : List Value) (n : Nat) : Agrees (argsE 0 args) { tmps := args.toArray ++ Array.replicate n undef, defers := [] } := by
  have key : ∀ (l : List Value) (i t : Nat) (v : Value), lk (argsE i l) t = some v → ∃ j, t = i + j ∧ l[j]? = some v := by
    intro l
    induction l with
    | nil => intro i t v h; simp [argsE, lk] at h
    | cons x r ih =>
      intro i t v h
      simp only [argsE, lk_cons] at h
      split at h
      · rename_i e; subst e; exact ⟨0, by omega, by simpa using h⟩
      · obtain ⟨j, h1, h2⟩ := ih _ _ _ h
        exact ⟨j + 1, by omega, by simpa using h2⟩
  intro t v h
  obtain ⟨j, rfl, hj⟩ := key _ _ _ _ h
  have hlt : j < args.length := (List.getElem?_eq_some_iff.1 hj).1
  simp only [Nat.zero_add]
  rw [Array.getElem?_append_left (by simpa using hlt)]
  simpa using hj

/-- What is asked at a body's end. -/
def BODY (P : Program) (fn : Func) (K : Value → World → Prop) (X : List PanicEntry → World → Prop) : Exit → Env → World → Prop
  | .normal, E, w => RET P E w fn.results.toList K
  | .ret, E, w => RET P E w fn.results.toList K
  | .panic ch, _, w => X ch w
  | _, _, _ => False

/-! ### Beside the heap nothing changes -/

theorem opW_io {P : Program} {ent : Nat → Bool} {E : Env} {o : Op} {ty : TypeId} {w : World} {K K' : Value → World → Prop} {X X' : List PanicEntry → World → Prop} (h : opW P ent E o ty w K X)
    (hK : ∀ v w', Io w w' → K v w' → K' v w') (hX : ∀ ch w', Io w w' → X ch w' → X' ch w') : opW P ent E o ty w K' X' := by
  have hrun : ∀ (s : Sem Value), RUN P s w K → RUN P s w K' := by
    intro s h
    unfold RUN at h ⊢
    split at h
    · rename_i v w' hr; exact ⟨h.1, hK _ _ h.1 h.2⟩
    · exact h.elim
  cases o <;> simp only [opW] at h ⊢ <;> try exact h.elim
  case store t x v =>
    unfold STO at h ⊢
    split at h
    · obtain ⟨h1, h2⟩ := h
      refine ⟨h1, ?_⟩
      split at h2
      · rename_i w' hw; exact hK _ _ (wrCells_io _ _ hw) h2
      · exact h2.elim
    · exact h.elim
  case alloc t =>
    unfold ALC at h ⊢
    split at h
    · exact hK _ _ ⟨rfl, rfl⟩ h
    · exact h.elim
  case box t v => exact hK _ _ ⟨rfl, rfl⟩ h
  case buildSlice t n parts =>
    unfold BSL at h ⊢
    split at h
    · obtain ⟨h1, h2⟩ := h
      refine ⟨h1, ?_⟩
      split at h2
      · exact hK _ _ ⟨rfl, rfl⟩ h2
      · exact h2.elim
    · exact h.elim
  case makeSlice t l c => exact hrun _ h
  case convert s d x => exact hrun _ h
  case panic x =>
    unfold PAN at h ⊢
    split at h
    · exact hX _ _ (Io.refl _) h
    · exact h.elim
  case call c =>
    obtain ⟨callee, args, ts⟩ := c
    cases callee with
    | builtin b => cases b <;> simp only at h ⊢ <;> first | exact h.elim | exact hrun _ h
    | value f =>
      simp only at h ⊢
      unfold CALV at h ⊢
      split at h
      · rename_i g first captured hf
        cases hg : ent g with
        | false =>
          simp only [hg, cond_false] at h ⊢
          unfold XCAL at h ⊢
          split at h
          · exact ⟨h.1, hK _ _ h.1 h.2⟩
          · exact h.elim
        | true =>
          simp only [hg, cond_true] at h ⊢
          refine Calls.mono h fun e w' he => ⟨he.1, ?_⟩
          cases e with
          | returned v => exact hK _ _ he.1 he.2
          | panicked ch => exact hX _ _ he.1 he.2
          | outgrown => exact he.2
      · exact h.elim
    | invoke r m => exact h.elim

theorem OPT_io {P : Program} {ent : Nat → Bool} {E : Env} {o : Oper} {w : World} {K K' : Value → World → Prop} {X X' : List PanicEntry → World → Prop} (h : OPT P ent E o w K X)
    (hK : ∀ v w', Io w w' → K v w' → K' v w') (hX : ∀ ch w', Io w w' → X ch w' → X' ch w') : OPT P ent E o w K' X' := by
  unfold OPT at h ⊢
  cases hv : isV P o.op with
  | true =>
    simp only [hv, cond_true] at h ⊢
    split at h
    · exact hK _ _ (Io.refl _) h
    · exact h.elim
  | false =>
    simp only [hv, cond_false] at h ⊢
    exact opW_io h hK hX

theorem GRP_io {c other : Value} {b : Bool} {w : World} {body body' : (Value → World → Prop) → Prop} {J J' : Value → World → Prop} (h : GRP c b other w body J) (h1 : body J → body' J') (h2 : J other w → J' other w) : GRP c b other w body' J' := by
  unfold GRP at h ⊢
  split at h
  · rename_i t
    cases b <;> cases t <;> first | exact h1 h | exact h2 h
  · exact h.elim

theorem TS_io {P : Program} {ent : Nat → Bool} {N : Nat} {ops : List Oper} {w0 : World} {X X' : List PanicEntry → World → Prop} (hX : ∀ ch w', Io w0 w' → X ch w' → X' ch w') :
    ∀ (s : Steps) (E : Env) (w : World) (K K' : Env → World → Prop), Io w0 w → TS P ent N ops X s E w K → (∀ E' w', Io w0 w' → K E' w' → K' E' w') → TS P ent N ops X' s E w K'
  | .nil, E, w, K, K', hw, h, hK => hK _ _ hw h
  | .op i kp r, E, w, K, K', hw, h, hK => by
    simp only [TS] at h ⊢
    split at h
    · exact h.elim
    · rename_i o _
      cases hk : o.op.operands.toList.all (known E) with
      | false => rw [hk] at h; exact h.elim
      | true =>
        rw [hk] at h
        simp only [cond_true] at h ⊢
        refine OPT_io h (fun v w' hi hh => ?_) (fun ch w' hi hh => hX ch w' (hw.trans hi) hh)
        unfold KP at hh ⊢
        cases kp with
        | true => exact ⟨hh.1, TS_io hX r _ w' K K' (hw.trans hi) hh.2 hK⟩
        | false => exact TS_io hX r _ w' K K' (hw.trans hi) hh hK
  | .alt i kp r s, E, w, K, K', hw, h, hK => by
    simp only [TS] at h ⊢
    refine ⟨?_, TS_io hX s E w K K' hw h.2 hK⟩
    replace h := h.1
    split at h
    · exact h.elim
    · rename_i o _
      cases hk : o.op.operands.toList.all (known E) with
      | false => rw [hk] at h; exact h.elim
      | true =>
        rw [hk] at h
        simp only [cond_true] at h ⊢
        refine OPT_io h (fun v w' hi hh => ?_) (fun ch w' hi hh => hX ch w' (hw.trans hi) hh)
        unfold KP at hh ⊢
        cases kp with
        | true => exact ⟨hh.1, TS_io hX r _ w' K K' (hw.trans hi) hh.2 hK⟩
        | false => exact TS_io hX r _ w' K K' (hw.trans hi) hh hK
  | .grp g b body pk r, E, w, K, K', hw, h, hK => by
    simp only [TS] at h ⊢
    split at h
    · split at h
      · split at h
        · generalize Nat.beq _ _ = bq at h ⊢
          cases bq with
          | false => exact h.elim
          | true =>
            simp only [cond_true] at h ⊢
            refine GRP_io h (fun h => ?_) (fun h => TS_io hX r _ w K K' hw h hK)
            refine TS_io hX body E w _ _ hw h fun E' w' hi hh => ?_
            split at hh
            · exact TS_io hX r _ w' K K' hi hh hK
            · exact hh.elim
        · exact h.elim
      · exact h.elim
    · exact h.elim

theorem T_io {P : Program} {ent : Nat → Bool} {N : Nat} {w0 : World} :
    ∀ (c : Code) (p : Plan) (E : Env) (w : World) (Q Q' : Exit → Env → World → Prop), Io w0 w → T P ent N c p E w Q → (∀ e E' w', Io w0 w' → Q e E' w' → Q' e E' w') → T P ent N c p E w Q' := by
  intro c
  induction c with
  | skip => intro p E w Q Q' hw h hQ; simp only [T] at h ⊢; exact hQ _ _ _ hw h
  | label l => intro p E w Q Q' hw h hQ; simp only [T] at h ⊢; exact hQ _ _ _ hw h
  | ret => intro p E w Q Q' hw h hQ; simp only [T] at h ⊢; exact hQ _ _ _ hw h
  | exit i => intro p E w Q Q' hw h hQ; simp only [T] at h ⊢; exact hQ _ _ _ hw h
  | region id ops draw =>
    intro p E w Q Q' hw h hQ
    cases p <;> simp only [T] at h ⊢
    refine TS_io (w0 := w0) (fun ch w' hi hh => hQ _ _ _ hi hh) _ _ _ _ _ ?_ h (fun E' w' hi hh => hQ _ _ _ hi hh)
    cases draw
    · exact hw
    · exact hw.trans ⟨rfl, rfl⟩
  | seq x y ihx ihy =>
    intro p E w Q Q' hw h hQ
    cases p <;> simp only [T] at h ⊢
    case seq p q =>
      refine ihx p E w _ _ hw h fun e E' w' hi hh => ?_
      cases e with
      | normal => exact ihy q E' w' Q Q' hi hh hQ
      | ret => exact hQ _ _ _ hi hh
      | panic ch => exact hQ _ _ _ hi hh
      | outgrown => exact hQ _ _ _ hi hh
      | exit i => exact hQ _ _ _ hi hh
      | goto l => exact hQ _ _ _ hi hh
    case jseq sl kp p q =>
      unfold JOIN at h ⊢
      refine ihx p E w _ _ hw h fun e E' w' hi hh => ?_
      cases e with
      | normal =>
        simp only at hh ⊢
        split at hh
        · rename_i vs hvs
          have hl := (vals_spec hvs).1
          rw [unc_cur _ _ _ hl.symm] at hh
          rw [unc_cur _ _ _ hl.symm]
          exact ihy q _ w' Q Q' hi hh hQ
        · exact hh.elim
      | ret => exact hQ _ _ _ hi hh
      | panic ch => exact hQ _ _ _ hi hh
      | outgrown => exact hQ _ _ _ hi hh
      | exit i => exact hQ _ _ _ hi hh
      | goto l => exact hQ _ _ _ hi hh
  | cond c x y ihx ihy =>
    intro p E w Q Q' hw h hQ
    cases p <;> simp only [T] at h ⊢
    rename_i p q
    cases hev : ev E c with
    | none => rw [hev] at h; exact h.elim
    | some v =>
      rw [hev] at h
      show CND v _ _
      replace h : CND v _ _ := h
      unfold CND at h ⊢
      split at h
      · rename_i t
        cases t with
        | true => exact ihx p E w Q Q' hw h hQ
        | false => exact ihy q E w Q Q' hw h hQ
      · exact h.elim
  | block id c ih =>
    intro p E w Q Q' hw h hQ
    cases p <;> simp only [T] at h ⊢
    case block p =>
      refine ih p E w _ _ hw h fun e E' w' hi hh => ?_
      cases e with
      | exit i =>
        simp only at hh ⊢
        cases hb : Nat.beq i id with
        | true => rw [hb] at hh; exact hQ _ _ _ hi hh
        | false => rw [hb] at hh; exact hQ _ _ _ hi hh
      | normal => exact hQ _ _ _ hi hh
      | ret => exact hQ _ _ _ hi hh
      | panic ch => exact hQ _ _ _ hi hh
      | outgrown => exact hQ _ _ _ hi hh
      | goto l => exact hQ _ _ _ hi hh
    case jblock sl kp p =>
      unfold JOIN at h ⊢
      have key : ∀ E' w', Io w0 w' → (match vals E' sl with
          | some vs => unc sl.length (cur sl.length fun vs w' => Q .normal (zipE sl vs (keepE kp E)) w') vs w'
          | none => False) → (match vals E' sl with
          | some vs => unc sl.length (cur sl.length fun vs w' => Q' .normal (zipE sl vs (keepE kp E)) w') vs w'
          | none => False) := by
        intro E' w' hi hh
        split at hh
        · rename_i vs hvs
          have hl := (vals_spec hvs).1
          rw [unc_cur _ _ _ hl.symm] at hh
          rw [unc_cur _ _ _ hl.symm]
          exact hQ _ _ _ hi hh
        · exact hh.elim
      refine ih p E w _ _ hw h fun e E' w' hi hh => ?_
      cases e with
      | exit i =>
        simp only at hh ⊢
        cases hb : Nat.beq i id with
        | true => rw [hb] at hh; exact key E' w' hi hh
        | false => rw [hb] at hh; exact hQ _ _ _ hi hh
      | normal => exact key E' w' hi hh
      | ret => exact hQ _ _ _ hi hh
      | panic ch => exact hQ _ _ _ hi hh
      | outgrown => exact hQ _ _ _ hi hh
      | goto l => exact hQ _ _ _ hi hh
  | loop c ih =>
    intro p E w Q Q' hw h hQ
    cases p <;> simp only [T] at h ⊢
    rename_i sl kp p
    split at h
    · rename_i v0 hv0
      have hl0 := (vals_spec hv0).1
      obtain ⟨I, μ, h0, hs⟩ := h
      have hs' := allV_spec _ _ hs
      refine ⟨cur sl.length fun vs w' => unc sl.length I vs w' ∧ Io w0 w', μ, ?_, ?_⟩
      · rw [unc_cur _ _ _ hl0.symm]; exact ⟨h0, hw⟩
      · refine allV_of _ _ fun vs hvl w' hI => ?_
        rw [unc_cur _ _ _ hvl] at hI
        refine ih p _ w' _ _ hI.2 (hs' vs hvl w' hI.1) fun e E' w'' hi hh => ?_
        cases e with
        | normal =>
          simp only at hh ⊢
          split at hh
          · rename_i vs' hvs'
            have hl := (vals_spec hvs').1
            rw [unc_cur _ _ _ hl.symm]
            exact ⟨⟨hh.1, hi⟩, hh.2⟩
          · exact hh.elim
        | ret => exact hQ _ _ _ hi hh
        | panic ch => exact hQ _ _ _ hi hh
        | outgrown => exact hQ _ _ _ hi hh
        | exit i => exact hQ _ _ _ hi hh
        | goto l => exact hQ _ _ _ hi hh
    · exact h.elim
  | scope c ih =>
    intro p E w Q Q' hw h hQ
    cases p <;> simp only [T] at h ⊢
    refine ih _ E w _ _ hw h fun e E' w' hi hh => ?_
    cases e with
    | normal => exact hQ _ _ _ hi hh
    | ret => exact hQ _ _ _ hi hh
    | panic ch => exact hQ _ _ _ hi hh
    | outgrown => exact hQ _ _ _ hi hh
    | exit i => exact hQ _ _ _ hi hh
    | goto l => exact hh
  | goto l => intro p E w Q Q' hw h hQ; cases p <;> simp only [T] at h
  | refuse s => intro p E w Q Q' hw h hQ; cases p <;> simp only [T] at h
  | rangeFunc => intro p E w Q Q' hw h hQ; cases p <;> simp only [T] at h

theorem retT_mono {P : Program} {E : Env} {w : World} : ∀ {rs : List ResultVar} {k k' : List Value → Prop}, retT P E w rs k → (∀ l, k l → k' l) → retT P E w rs k' := by
  intro rs
  induction rs with
  | nil => intro k k' h hk; exact hk _ h
  | cons r rs ih =>
    intro k k' h hk
    cases r with
    | tmp t =>
      simp only [retT] at h ⊢
      split at h
      · exact ih h fun l hl => hk _ hl
      · exact h.elim
    | cell a t =>
      simp only [retT] at h ⊢
      split at h
      · split at h
        · exact ih h fun l hl => hk _ hl
        · exact h.elim
      · exact h.elim

theorem RET_mono {P : Program} {E : Env} {w : World} {rs : List ResultVar} {K K' : Value → World → Prop} (h : RET P E w rs K) (hK : ∀ v, K v w → K' v w) : RET P E w rs K' :=
  retT_mono h fun l hl => by
    match l, hl with
    | [], hl => exact hK _ hl
    | [v], hl => exact hK _ hl
    | a :: b :: r, hl => exact hK _ hl

/-- **A function by its plain form.** -/
theorem cal_of_T (hent : ∀ f, ent f = true → ∀ args w, (callFunc f args).run P w = .ok (.enter f args) w) (hm : P.follows .mixedOrders = true)
    {f : FuncId} {fn : Func} {c : Code} (p : Plan) (hf : P.funcs[f]? = some fn) (hb : fn.body = some c) (hchk : chkC P c p = true)
    {args : List Value} (hn : args.length ≤ fn.ntmps) {w : World} {K : Value → World → Prop} {X : List PanicEntry → World → Prop}
    (h : T P ent fn.ntmps c p (argsE 0 args) w (BODY P fn K X)) : CAL P f args.toArray w K X := by
  have hI : Inv [] fn.ntmps { tmps := args.toArray ++ Array.replicate (fn.ntmps - args.toArray.size) undef, defers := [] } := ⟨rfl, by simp; omega⟩
  have h' : T P ent fn.ntmps c p (argsE 0 args) w (BODY P fn (fun v w' => Io w w' ∧ K v w') (fun ch w' => Io w w' ∧ X ch w')) := T_io (w0 := w) c p _ w _ _ (Io.refl w) h fun e E' w' hi hh => by
    cases e with
    | normal => exact RET_mono (K' := fun v w' => Io w w' ∧ K v w') (show RET P E' w' fn.results.toList K from hh) fun v hv => ⟨hi, hv⟩
    | ret => exact RET_mono (K' := fun v w' => Io w w' ∧ K v w') (show RET P E' w' fn.results.toList K from hh) fun v hv => ⟨hi, hv⟩
    | panic ch => exact ⟨hi, hh⟩
    | outgrown => exact hh
    | exit i => exact hh
    | goto l => exact hh
  refine calls_of_wp hf hb (wp_mono (T_sound hent hm c p _ w _ hchk h' _ hI (argsE_agrees args _)) ?_)
  intro e a' w' hL
  cases e with
  | normal =>
    obtain ⟨h1, _, E, hA, hR⟩ := hL
    obtain ⟨v, hv, hK⟩ := RET_results hA (show RET P E w' fn.results.toList (fun v w' => Io w w' ∧ K v w') from hR)
    exact ⟨h1.1, v, hv, hK⟩
  | ret =>
    obtain ⟨h1, _, E, hA, hR⟩ := hL
    obtain ⟨v, hv, hK⟩ := RET_results hA (show RET P E w' fn.results.toList (fun v w' => Io w w' ∧ K v w') from hR)
    exact ⟨h1.1, v, hv, hK⟩
  | panic ch => exact ⟨hL.1.1, hL.2⟩
  | outgrown => exact hL.elim
  | exit i => obtain ⟨_, _, _, _, h⟩ := hL; exact h
  | goto l => obtain ⟨_, _, _, _, h⟩ := hL; exact h

end
end Go.GX
/- The words of the plain forms, and the program's own facts: which functions are entered, that its orders are mixed. -/
namespace Go.GX
open Go

/-- A value that may fail. -/
def VO (o : Option Value) (K : Value → Prop) : Prop :=
  match o with
  | some v => K v
  | none => False

def LD (w : World) (x : Value) (K : Value → Prop) : Prop := VO (loadV (some .one) w x) K
def LDN (n : Nat) (w : World) (x : Value) (K : Value → Prop) : Prop := VO (loadV (some (.many n)) w x) K
def BIN (c : TC) (op : BinOp) (x y : Value) (K : Value → Prop) : Prop := VO (binV c op x y) K
def UN (op : UnOp) (x : Value) (K : Value → Prop) : Prop := VO (unV op x) K
def CNV (k : IntKind) (x : Value) (K : Value → Prop) : Prop := VO (convV (some k) x) K
def FA (n : Nat) (x : Value) (K : Value → Prop) : Prop := VO (faddV (some n) x) K
def FI (c : FP) (x : Value) (K : Value → Prop) : Prop := VO (fieldV (some c) x) K
def IA (n : Nat) (x i : Value) (K : Value → Prop) : Prop := VO (iaddV (some (.sl n)) x i) K
def IAA (len n : Nat) (x i : Value) (K : Value → Prop) : Prop := VO (iaddV (some (.ar len n)) x i) K
def IXS (x i : Value) (K : Value → Prop) : Prop := VO (indexV .str x i) K
def EX (x : Value) (i : Nat) (K : Value → Prop) : Prop := VO (extractV x i) K
def SLC (c : SLK) (x : Value) (lo hi : Option Value) (K : Value → Prop) : Prop := VO (sliceV (some c) x lo hi) K
def LEN (c : SLK) (x : Value) (K : Value → Prop) : Prop := VO (lenV (some c) x) K
def MAX (l : List Value) (K : Value → Prop) : Prop := VO (firstOf max2V l) K
def MIN (l : List Value) (K : Value → Prop) : Prop := VO (firstOf min2V l) K
def NC (x : Value) (K : Value → Prop) : Prop := VO (nilV x) K
def PICK (c a b : Value) (K : Value → Prop) : Prop := VO (pickV c a b) K
def BLD (P : Program) (t : TypeId) (parts : List (Nat × Value)) (K : Value → Prop) : Prop := VO (buildV (bldP P t) parts) K
def ST (n : Nat) (w : World) (x v : Value) (K : World → Prop) : Prop := STO (some n) w x v K
def AL (P : Program) (t : TypeId) (w : World) (K : Value → World → Prop) : Prop := ALC (zeroB P t) t w K
def BOX (v : Value) (t : TypeId) (w : World) (K : Value → World → Prop) : Prop := K (.pointer (some ⟨w.heap.size, 0, none⟩)) (w.alloc (.cells v.cells t))
def BSLC (P : Program) (t : TypeId) (n : Nat) (parts : List (Nat × Value)) (w : World) (K : Value → World → Prop) : Prop := BSL (bslP P t) n parts w K
def RET2 (v : List Value) (w : World) (K : Value → World → Prop) : Prop := K (.tuple v.toArray) w

/-- Loops, by how many slots they hand on. -/
def LOOP0 (w : World) (step : World → (World → Prop) → Prop) : Prop :=
  ∃ (I : World → Prop) (μ : World → Nat), I w ∧ ∀ w', I w' → step w' fun w'' => I w'' ∧ μ w'' < μ w'
def LOOP1 (a : Value) (w : World) (step : Value → World → (Value → World → Prop) → Prop) : Prop :=
  ∃ (I : Value → World → Prop) (μ : Value → World → Nat), I a w ∧ ∀ x w', I x w' → step x w' fun x' w'' => I x' w'' ∧ μ x' w'' < μ x w'
def LOOP2 (a b : Value) (w : World) (step : Value → Value → World → (Value → Value → World → Prop) → Prop) : Prop :=
  ∃ (I : Value → Value → World → Prop) (μ : Value → Value → World → Nat), I a b w ∧ ∀ x y w', I x y w' → step x y w' fun x' y' w'' => I x' y' w'' ∧ μ x' y' w'' < μ x y w'
def LOOP3 (a b c : Value) (w : World) (step : Value → Value → Value → World → (Value → Value → Value → World → Prop) → Prop) : Prop :=
  ∃ (I : Value → Value → Value → World → Prop) (μ : Value → Value → Value → World → Nat), I a b c w ∧ ∀ x y z w', I x y z w' → step x y z w' fun x' y' z' w'' => I x' y' z' w'' ∧ μ x' y' z' w'' < μ x y z w'
def LOOP4 (a b c d : Value) (w : World) (step : Value → Value → Value → Value → World → (Value → Value → Value → Value → World → Prop) → Prop) : Prop :=
  ∃ (I : Value → Value → Value → Value → World → Prop) (μ : Value → Value → Value → Value → World → Nat), I a b c d w ∧ ∀ x y z u w', I x y z u w' → step x y z u w' fun x' y' z' u' w'' => I x' y' z' u' w'' ∧ μ x' y' z' u' w'' < μ x y z u w'
def LOOP5 (a b c d e : Value) (w : World) (step : Value → Value → Value → Value → Value → World → (Value → Value → Value → Value → Value → World → Prop) → Prop) : Prop :=
  ∃ (I : Value → Value → Value → Value → Value → World → Prop) (μ : Value → Value → Value → Value → Value → World → Nat), I a b c d e w ∧ ∀ x y z u v w', I x y z u v w' → step x y z u v w' fun x' y' z' u' v' w'' => I x' y' z' u' v' w'' ∧ μ x' y' z' u' v' w'' < μ x y z u v w'

/-- A function that is entered when it is called. -/
def entOk (P : Program) (f : Nat) : Bool :=
  match P.funcs[f]? with
  | some fn => fn.name != "runtime.NumGoroutine" && fn.body.isSome
  | none => false

theorem entOk_spec {P : Program} {f : Nat} (h : entOk P f = true) (args : Array Value) (w : World) : (callFunc f args).run P w = .ok (.enter f args) w := by
  unfold entOk at h
  split at h
  · rename_i fn hf
    simp only [Bool.and_eq_true, bne_iff_ne, ne_eq] at h
    obtain ⟨c, hb⟩ := Option.isSome_iff_exists.1 h.2
    simp [callFunc, hf, h.1, hb]
  · cases h

theorem ent_of_all {P : Program} {ent : Nat → Bool} {n : Nat} (hlt : ∀ f, ent f = true → f < n) (hall : (List.range n).all (fun f => !ent f || entOk P f) = true) :
    ∀ f, ent f = true → ∀ args w, (callFunc f args).run P w = .ok (.enter f args) w := by
  intro f hf args w
  have := List.all_eq_true.1 hall f (by simpa using hlt f hf)
  rw [hf] at this
  exact entOk_spec (by simpa using this) args w

end Go.GX

namespace Go.Proofs.YtgnfodphfgmdlaaGreat
open Go Go.GX

/-- The functions that have a body. -/
def ent (f : Nat) : Bool := Nat.ble 2 f && (Nat.blt f 223 || (Nat.blt 223 f && Nat.blt f 245))

theorem ent_all : (List.range 245).all (fun f => !ent f || entOk Tryz.prog f) = true := by kernel_rfl

theorem hent : ∀ f, ent f = true → ∀ args w, (callFunc f args).run Tryz.prog w = .ok (.enter f args) w :=
  ent_of_all (fun f h => by simp [ent] at h; omega) ent_all

theorem mixed : Tryz.prog.follows .mixedOrders = true := by kernel_rfl

/-- A function by its plain form, over this program. -/
theorem cal {f : FuncId} {fn : Func} {c : Code} (p : Plan) (hf : Tryz.prog.funcs[f]? = some fn) (hb : fn.body = some c) (hchk : chkC Tryz.prog c p = true)
    {args : List Value} (hn : Nat.ble args.length fn.ntmps = true) {w : World} {K : Value → World → Prop} {X : List PanicEntry → World → Prop} {R : Prop}
    (hR : T Tryz.prog ent fn.ntmps c p (argsE 0 args) w (BODY Tryz.prog fn K X) = R) (h : R) : CAL Tryz.prog f args.toArray w K X :=
  cal_of_T hent mixed p hf hb hchk (Nat.le_of_ble_eq_true hn) (hR ▸ h)

/-- The code of a function. -/
def codeOf (fn : Func) : Code :=
  match fn.body with
  | some c => c
  | none => .skip

end Go.Proofs.YtgnfodphfgmdlaaGreat
/- How the words of the plain forms reckon on values that are known: the rules by which a plain form is gone through. -/
namespace Go.GX
open Go

section
variable {K : Value → Prop} {KW : Value → World → Prop} {X : List PanicEntry → World → Prop} {w : World}

@[simp] theorem VO_some (v : Value) : VO (some v) K = K v := rfl
@[simp] theorem VO_none : VO none K = False := rfl
@[simp] theorem CND_bool (b : Bool) (A B : Prop) : CND (.bool b) A B = if b = true then A else B := by cases b <;> simp [CND]
@[simp] theorem JOIN_eq {α : Type} (b : α → Prop) (r : α) : JOIN b r = b r := rfl
@[simp] theorem KP_eq (p : Prop) (w w' : World) : KP false w w' p = p := rfl

/-! ints -/
@[simp] theorem BIN_add (k : IntKind) (a b : Int) : BIN .int .add (.int k a) (.int k b) K = K (.int k (k.wrap (a + b))) := by simp [BIN, binV, isShift, arith]
@[simp] theorem BIN_sub (k : IntKind) (a b : Int) : BIN .int .sub (.int k a) (.int k b) K = K (.int k (k.wrap (a - b))) := by simp [BIN, binV, isShift, arith]
@[simp] theorem BIN_mul (k : IntKind) (a b : Int) : BIN .int .mul (.int k a) (.int k b) K = K (.int k (k.wrap (a * b))) := by simp [BIN, binV, isShift, arith]
@[simp] theorem BIN_quo (k : IntKind) (a b : Int) : BIN .int .quo (.int k a) (.int k b) K = (b ≠ 0 ∧ K (.int k (k.wrap (a.tdiv b)))) := by
  simp only [BIN, binV, isShift, arith, if_true, Bool.false_eq_true, if_false]
  by_cases h : b = 0 <;> simp [h]
@[simp] theorem BIN_rem (k : IntKind) (a b : Int) : BIN .int .rem (.int k a) (.int k b) K = (b ≠ 0 ∧ K (.int k (a.tmod b))) := by
  simp only [BIN, binV, isShift, arith, if_true, Bool.false_eq_true, if_false]
  by_cases h : b = 0 <;> simp [h]
@[simp] theorem BIN_eql (k : IntKind) (a b : Int) : BIN .int .eql (.int k a) (.int k b) K = K (.bool (decide (a = b))) := by
  simp only [BIN, binV, isShift, arith, if_true, Bool.false_eq_true, if_false, VO_some]; rfl
@[simp] theorem BIN_neq (k : IntKind) (a b : Int) : BIN .int .neq (.int k a) (.int k b) K = K (.bool (!decide (a = b))) := by
  simp only [BIN, binV, isShift, arith, if_true, Bool.false_eq_true, if_false, VO_some]; rfl
@[simp] theorem BIN_lss (k : IntKind) (a b : Int) : BIN .int .lss (.int k a) (.int k b) K = K (.bool (decide (a < b))) := by simp [BIN, binV, isShift, arith]
@[simp] theorem BIN_leq (k : IntKind) (a b : Int) : BIN .int .leq (.int k a) (.int k b) K = K (.bool (decide (a ≤ b))) := by simp [BIN, binV, isShift, arith]
@[simp] theorem BIN_gtr (k : IntKind) (a b : Int) : BIN .int .gtr (.int k a) (.int k b) K = K (.bool (decide (b < a))) := by simp [BIN, binV, isShift, arith]
@[simp] theorem BIN_geq (k : IntKind) (a b : Int) : BIN .int .geq (.int k a) (.int k b) K = K (.bool (decide (b ≤ a))) := by simp [BIN, binV, isShift, arith]
@[simp] theorem BIN_boolneq (a b : Bool) : BIN .bool .neq (.bool a) (.bool b) K = K (.bool (!(a == b))) := by simp [BIN, binV]
@[simp] theorem BIN_booleql (a b : Bool) : BIN .bool .eql (.bool a) (.bool b) K = K (.bool (a == b)) := by simp [BIN, binV]
@[simp] theorem BIN_ptreql (a : Option Addr) : BIN .ptr .eql (.pointer a) (.pointer none) K = K (.bool a.isNone) := by simp [BIN, binV]
@[simp] theorem BIN_ptrneq (a : Option Addr) : BIN .ptr .neq (.pointer a) (.pointer none) K = K (.bool (!a.isNone)) := by simp [BIN, binV]
@[simp] theorem BIN_streql (a b : ByteArray) : BIN .str .eql (.string a) (.string b) K = K (.bool (a.toList == b.toList)) := by simp [BIN, binV, strV]
@[simp] theorem BIN_strneq (a b : ByteArray) : BIN .str .neq (.string a) (.string b) K = K (.bool (!(a.toList == b.toList))) := by simp [BIN, binV, strV]
@[simp] theorem BIN_strlss (a b : ByteArray) : BIN .str .lss (.string a) (.string b) K = K (.bool (Op.bytesLess a.toList b.toList)) := by simp [BIN, binV, strV]
@[simp] theorem BIN_strgtr (a b : ByteArray) : BIN .str .gtr (.string a) (.string b) K = K (.bool (!(Op.bytesLess a.toList b.toList || a.toList == b.toList))) := by simp [BIN, binV, strV]
@[simp] theorem UN_not (b : Bool) : UN .not (.bool b) K = K (.bool !b) := rfl
@[simp] theorem UN_neg (k : IntKind) (n : Int) : UN .neg (.int k n) K = K (.int k (k.wrap (0 - n))) := rfl
@[simp] theorem CNV_int (k k' : IntKind) (n : Int) : CNV k (.int k' n) K = K (.int k (k.wrap n)) := rfl
@[simp] theorem PICK_bool (b : Bool) (x y : Value) : PICK (.bool b) x y K = K (cond b x y) := rfl

/-! pointers, tuples, aggregates -/
@[simp] theorem NC_ptr (a : Addr) : NC (.pointer (some a)) K = K (.pointer (some a)) := rfl
@[simp] theorem NC_fn (f : Nat) (x y : Array Value) : NC (.func (.func f) x y) K = K (.func (.func f) x y) := rfl
theorem FA_ptr (n : Nat) (a : Addr) : FA n (.pointer (some a)) K = K (.pointer (some (a.add n))) := rfl
@[simp] theorem FA_zero (a : Addr) : FA 0 (.pointer (some a)) K = K (.pointer (some a)) := rfl
@[simp] theorem FA_lit (n b o : Nat) : FA (n + 1) (.pointer (some ⟨b, o, none⟩)) K = K (.pointer (some ⟨b, o + (n + 1), none⟩)) := rfl
@[simp] theorem FI_one (o : Nat) (cs : Array Value) : FI (.one o) (.agg cs) K = VO cs.toList[o]? K := rfl
@[simp] theorem FI_agg (o n : Nat) (cs : Array Value) : FI (.agg o n) (.agg cs) K = K (.agg (cs.extract o (o + n))) := rfl
@[simp] theorem EX_tuple (vs : Array Value) (i : Nat) : EX (.tuple vs) i K = VO vs.toList[i]? K := rfl
theorem LD_eq (w : World) (a : Addr) : LD w (.pointer (some a)) K = VO (w.cell? a) K := rfl
theorem LD_some {w : World} {a : Addr} {v : Value} (h : w.cell? a = some v) : LD w (.pointer (some a)) K = K v := by rw [LD_eq, h]; rfl
theorem LDN_some {w : World} {a : Addr} {n : Nat} {l : List Value} (h : rdCells w a n 0 = some l) : LDN n w (.pointer (some a)) K = K (.agg l.toArray) := by
  simp [LDN, loadV, h]
@[simp] theorem IA_slice (n : Nat) (a : Addr) (len cap : Nat) (k : IntKind) (i : Int) :
    IA n (.slice (some a) len cap) (.int k i) K = ((0 ≤ i ∧ i < len) ∧ K (.pointer (some (a.add (i.toNat * n))))) := by
  simp only [IA, iaddV]
  by_cases h : 0 ≤ i ∧ i < len <;> simp [h]
@[simp] theorem LEN_slice (n : Nat) (a : Option Addr) (len cap : Nat) : LEN (.sl n) (.slice a len cap) K = K (.int .i64 len) := rfl
@[simp] theorem LEN_str (s : ByteArray) : LEN .str (.string s) K = K (.int .i64 s.size) := rfl
@[simp] theorem MAX_two (k k' : IntKind) (a b : Int) : MAX [.int k a, .int k' b] K = K (.int k (if b > a then b else a)) := rfl
@[simp] theorem MIN_two (k k' : IntKind) (a b : Int) : MIN [.int k a, .int k' b] K = K (.int k (if b < a then b else a)) := rfl

theorem GRP_and (t : Bool) (other : Value) (body : (Value → World → Prop) → Prop) : GRP (.bool t) true other w body KW = if t = true then body KW else KW other w := by
  cases t <;> simp [GRP]
theorem GRP_or (t : Bool) (other : Value) (body : (Value → World → Prop) → Prop) : GRP (.bool t) false other w body KW = if t = true then KW other w else body KW := by
  cases t <;> simp [GRP]

/-- '&&': the second operand is reckoned only where the first one is true, and changes nothing. -/
theorem GRP_and_pure {t u : Bool} {body : (Value → World → Prop) → Prop} (hb : t = true → body = fun J => J (.bool u) w) (h : KW (.bool (t && u)) w) :
    GRP (.bool t) true (.bool false) w body KW := by
  rw [GRP_and]
  cases t with
  | true => rw [if_pos rfl, hb rfl]; exact h
  | false => exact h

theorem GRP_or_pure {t u : Bool} {body : (Value → World → Prop) → Prop} (hb : t = false → body = fun J => J (.bool u) w) (h : KW (.bool (t || u)) w) :
    GRP (.bool t) false (.bool true) w body KW := by
  rw [GRP_or]
  cases t with
  | false => rw [if_neg (by simp), hb rfl]; exact h
  | true => exact h

/-- A call's contract, weakened. -/
theorem CAL.mono {P : Program} {f : FuncId} {args : Array Value} {K K' : Value → World → Prop} {X X' : List PanicEntry → World → Prop}
    (h : CAL P f args w K X) (hK : ∀ v w, K v w → K' v w) (hX : ∀ c w, X c w → X' c w) : CAL P f args w K' X' :=
  Calls.mono h fun e w' hh => ⟨hh.1, by cases e <;> first | exact hK _ _ hh.2 | exact hX _ _ hh.2 | exact hh.2⟩

@[simp] theorem CALV_fn (P : Program) (ent : Nat → Bool) (f : Nat) (fi ca : Array Value) (args : List Value) :
    CALV P ent (.func (.func f) fi ca) args w KW X = cond (ent f) (CAL P f (fi.toList ++ args ++ ca.toList).toArray w KW X) (XCAL P f (fi.toList ++ args ++ ca.toList).toArray w KW) := rfl
end

/-! ### The numbers -/

theorem wrap64 (n : Int) (h : -9223372036854775808 ≤ n ∧ n < 9223372036854775808) : IntKind.i64.wrap n = n := by
  rw [IntKind.wrap_i64]; omega

theorem wrapU (n : Int) : IntKind.u64.wrap n = n % 18446744073709551616 := by
  simp [IntKind.wrap, IntKind.signed, IntKind.bits]

theorem wrapU_lt (n : Int) (h : 0 ≤ n ∧ n < 18446744073709551616) : IntKind.u64.wrap n = n := by rw [wrapU]; omega

theorem wrap8 (n : Int) : IntKind.u8.wrap n = n % 256 := by
  simp [IntKind.wrap, IntKind.signed, IntKind.bits]

end Go.GX
/- The words of the machine as natural numbers: bits as quotients and remainders; the contracts of package word. -/
namespace Go.GX
open Go

section
variable {K : Value → Prop}

theorem toNat_ofInt64 (a : Int) (h : 0 ≤ a ∧ a < 18446744073709551616) : (BitVec.ofInt 64 a).toNat = a.toNat := by
  rw [BitVec.toNat_ofInt]
  omega

theorem BIN_andU (a b : Int) (ha : 0 ≤ a ∧ a < 18446744073709551616) (hb : 0 ≤ b ∧ b < 18446744073709551616) :
    BIN .int .and (.int .u64 a) (.int .u64 b) K = K (.int .u64 ((a.toNat &&& b.toNat : Nat) : Int)) := by
  simp only [BIN, binV, isShift, arith, if_true, Bool.false_eq_true, if_false, VO_some]
  show K (.int .u64 (IntKind.u64.wrap (BitVec.ofInt 64 a &&& BitVec.ofInt 64 b).toNat)) = _
  rw [BitVec.toNat_and, toNat_ofInt64 a ha, toNat_ofInt64 b hb, wrapU]
  have : a.toNat &&& b.toNat ≤ a.toNat := Nat.and_le_left
  congr 2
  omega

theorem BIN_orU (a b : Int) (ha : 0 ≤ a ∧ a < 18446744073709551616) (hb : 0 ≤ b ∧ b < 18446744073709551616) :
    BIN .int .or (.int .u64 a) (.int .u64 b) K = K (.int .u64 ((a.toNat ||| b.toNat : Nat) : Int)) := by
  simp only [BIN, binV, isShift, arith, if_true, Bool.false_eq_true, if_false, VO_some]
  show K (.int .u64 (IntKind.u64.wrap (BitVec.ofInt 64 a ||| BitVec.ofInt 64 b).toNat)) = _
  rw [BitVec.toNat_or, toNat_ofInt64 a ha, toNat_ofInt64 b hb, wrapU]
  have : a.toNat ||| b.toNat < 2 ^ 64 := Nat.or_lt_two_pow (by omega) (by omega)
  congr 2
  omega

/-- What is left of a where the bits of b are struck. -/
theorem andNot_nat (x m : BitVec 64) : (x &&& ~~~m).toNat = x.toNat - (x.toNat &&& m.toNat) := by
  have hd : (x &&& m) &&& (x &&& ~~~m) = 0#64 := by
    ext i hi
    simp only [BitVec.getElem_and, BitVec.getElem_not, BitVec.getElem_zero]
    cases x[i] <;> cases m[i] <;> rfl
  have hor : (x &&& m) ||| (x &&& ~~~m) = x := by
    ext i hi
    simp only [BitVec.getElem_or, BitVec.getElem_and, BitVec.getElem_not]
    cases x[i] <;> cases m[i] <;> rfl
  have hadd := BitVec.add_eq_or_of_and_eq_zero _ _ hd
  have h1 := congrArg BitVec.toNat (hadd.trans hor)
  rw [BitVec.toNat_add] at h1
  have h2 : (x &&& m).toNat = x.toNat &&& m.toNat := BitVec.toNat_and x m
  have h3 : x.toNat &&& m.toNat ≤ x.toNat := Nat.and_le_left
  have h4 := (x &&& ~~~m).isLt
  have h5 := x.isLt
  omega

theorem BIN_andNotU (a b : Int) (ha : 0 ≤ a ∧ a < 18446744073709551616) (hb : 0 ≤ b ∧ b < 18446744073709551616) :
    BIN .int .andNot (.int .u64 a) (.int .u64 b) K = K (.int .u64 ((a.toNat - (a.toNat &&& b.toNat) : Nat) : Int)) := by
  simp only [BIN, binV, isShift, arith, if_true, Bool.false_eq_true, if_false, VO_some]
  show K (.int .u64 (IntKind.u64.wrap (BitVec.ofInt 64 a &&& ~~~ BitVec.ofInt 64 b).toNat)) = _
  rw [andNot_nat, toNat_ofInt64 a ha, toNat_ofInt64 b hb, wrapU]
  congr 2
  omega

theorem BIN_shlU (a : Int) (k : IntKind) (n : Nat) (hn : n ≤ 64) : BIN .int .shl (.int .u64 a) (.int k n) K = K (.int .u64 ((a * 2 ^ n) % 18446744073709551616)) := by
  have h0 : ¬ ((n : Int) < 0) := by omega
  simp only [BIN, binV, isShift, shiftV, if_true, h0, if_false, VO_some]
  rw [wrapU]
  have : min (n : Int).toNat (IntKind.u64.bits) = n := by show min (n : Int).toNat 64 = n; omega
  rw [this]

theorem BIN_shrU (a : Int) (k : IntKind) (n : Nat) (hn : n ≤ 64) : BIN .int .shr (.int .u64 a) (.int k n) K = K (.int .u64 (a / 2 ^ n)) := by
  have h0 : ¬ ((n : Int) < 0) := by omega
  simp only [BIN, binV, isShift, shiftV, if_true, h0, if_false, VO_some]
  have : min (n : Int).toNat (IntKind.u64.bits) = n := by show min (n : Int).toNat 64 = n; omega
  rw [this, Int.fdiv_eq_ediv_of_nonneg _ (by exact Int.le_of_lt (Int.pow_pos (by omega)))]

theorem BIN_shrI (a : Int) (k : IntKind) (n : Nat) (hn : n ≤ 64) : BIN .int .shr (.int .i64 a) (.int k n) K = K (.int .i64 (a / 2 ^ n)) := by
  have h0 : ¬ ((n : Int) < 0) := by omega
  simp only [BIN, binV, isShift, shiftV, if_true, h0, if_false, VO_some]
  have : min (n : Int).toNat (IntKind.i64.bits) = n := by show min (n : Int).toNat 64 = n; omega
  rw [this, Int.fdiv_eq_ediv_of_nonneg _ (by exact Int.le_of_lt (Int.pow_pos (by omega)))]

theorem BIN_shlI (a : Int) (k : IntKind) (n : Nat) (hn : n ≤ 64) : BIN .int .shl (.int .i64 a) (.int k n) K = K (.int .i64 (IntKind.i64.wrap (a * 2 ^ n))) := by
  have h0 : ¬ ((n : Int) < 0) := by omega
  simp only [BIN, binV, isShift, shiftV, if_true, h0, if_false, VO_some]
  have : min (n : Int).toNat (IntKind.i64.bits) = n := by show min (n : Int).toNat 64 = n; omega
  rw [this]
end

/-- Two numbers without a common bit. -/
theorem or_eq_add (a b k : Nat) (h : b < 2 ^ k) : (a * 2 ^ k) ||| b = a * 2 ^ k + b := by
  have := Nat.shiftLeft_add_eq_or_of_lt h a
  rw [Nat.shiftLeft_eq] at this
  exact this.symm

theorem and_mask (a n : Nat) : a &&& (2 ^ n - 1) = a % 2 ^ n := Nat.and_two_pow_sub_one_eq_mod a n

/-- A mask that does not begin at the lowest bit. -/
theorem and_mask_at (a n k : Nat) : a &&& ((2 ^ n - 1) * 2 ^ k) = (a / 2 ^ k % 2 ^ n) * 2 ^ k := by
  apply Nat.eq_of_testBit_eq
  intro i
  rw [Nat.testBit_and, ← Nat.shiftLeft_eq, ← Nat.shiftLeft_eq, Nat.testBit_shiftLeft, Nat.testBit_shiftLeft, Nat.testBit_mod_two_pow, Nat.testBit_two_pow_sub_one]
  by_cases h : k ≤ i
  · have : (a / 2 ^ k).testBit (i - k) = a.testBit i := by
      rw [← Nat.shiftRight_eq_div_pow, Nat.testBit_shiftRight]
      congr 1; omega
    simp [h, this, Bool.and_comm]
  · simp [h]

/-! ### The words -/

def wImm (n : Int) : Nat := ((2 * n + 1) % 18446744073709551616).toNat
def wInt (x : Nat) : Int := if x < 9223372036854775808 then (x / 2 : Nat) else (x / 2 : Nat) - 9223372036854775808
def wShape (h : Nat) : Nat := h / 2 % 1048576
def wLen (h : Nat) : Nat := h / 2097152 % 1048576
def wHead (s n : Nat) : Nat := s % 1048576 * 2 + n % 1048576 * 2097152 + 1
def wMarked (h : Nat) : Bool := decide (h / 2199023255552 % 2 = 1)
def wMark (h : Nat) (on : Bool) : Nat := h - h / 2199023255552 % 2 * 2199023255552 + (if on then 2199023255552 else 0)
def wTurned (h : Nat) : Nat := h / 4398046511104 % 1048576
def wTurn (h k : Nat) : Nat := h - wTurned h * 4398046511104 + k % 1048576 * 4398046511104
/-- 63 bits, with a sign. -/
def wWrap (n : Int) : Int := (n + 4611686018427387904) % 9223372036854775808 - 4611686018427387904

/-- The quotient, rounded down; the rest that goes with it. -/
def wQuo (a b : Int) : Int := if a.tmod b ≠ 0 ∧ (decide (a < 0) != decide (b < 0)) = true then a.tdiv b - 1 else a.tdiv b
def wRem (a b : Int) : Int := if a.tmod b ≠ 0 ∧ (decide (a.tmod b < 0) != decide (b < 0)) = true then a.tmod b + b else a.tmod b

/-- A word of 64 bits. -/
def W64 (x : Nat) : Prop := x < 18446744073709551616

end Go.GX

namespace Go.Proofs.YtgnfodphfgmdlaaGreat
open Go Go.GX
end Go.Proofs.YtgnfodphfgmdlaaGreat
