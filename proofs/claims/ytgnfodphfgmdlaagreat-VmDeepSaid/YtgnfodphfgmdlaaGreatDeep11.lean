/- VmDeep answers true at every input and leaves its arguments as they were; no condition: text 11 of 12. -/
import Derived.KernelRfl
import Derived.ChangeSame
import Derived.Below
import Derived.Test.YtgnfodphfgmdlaaGreatDeep10
set_option linter.all false
/- The runs of the images of VmDeep: how they end. -/
namespace Go.GX
open Go

theorem wImm_odd (m : Int) : wImm m % 2 = 1 := by unfold wImm; omega
theorem wInt_nat (m : Nat) (hm : m ≤ 1000) : wInt (wImm (m : Int)) = m := by unfold wInt wImm; split <;> omega

section
variable {c : Cx} {n : Int} {k : Nat} {h : Hp} {o : List Nat} {fs : List Fr} {W t : Int}

theorem dStep {f : Fr} {b : BlockS} {x : InstrS} (ht : t ≠ c.fuel) (hb : nth f.fn.blocks f.block = some b) (hx : b.code[f.pos.toNat]? = some x) :
    stepP c (dSt h (f :: fs) W o t) = if x.op ≥ 18 then lastP c x (dSt h ({ f with pos := f.pos + 1 } :: fs) W o (t + 1)) else instrP c x (dSt h ({ f with pos := f.pos + 1 } :: fs) W o (t + 1)) := by
  unfold stepP
  show (match nth f.fn.blocks f.block with | none => Res.stop 6 _ | some b => match b.code[f.pos.toNat]? with | none => Res.stop 6 _ | some x => if t = c.fuel then Res.stop 3 _ else _) = _
  rw [hb]
  show (match b.code[f.pos.toNat]? with | none => Res.stop 6 _ | some x => if t = c.fuel then Res.stop 3 _ else _) = _
  rw [hx]
  show (if t = c.fuel then Res.stop 3 _ else _) = _
  rw [if_neg ht]
  rfl

theorem dNum {f : Fr} {i : Int} {m : Nat} (hm : m ≤ 1000) (hs : nth f.slots i = some (wImm (m : Int))) : numP i (dSt h (f :: fs) W o t) = .ok (m : Int) (dSt h (f :: fs) W o t) := by
  unfold numP getP
  show (match nth f.slots i with | some x => Res.ok x (dSt h (f :: fs) W o t) | none => .stop 6 (dSt h (f :: fs) W o t)).bind _ = _
  rw [hs]
  show (if wImm (m : Int) % 2 = 1 then Res.ok (wInt (wImm (m : Int))) (dSt h (f :: fs) W o t) else _) = _
  rw [if_pos (wImm_odd _), wInt_nat m hm]
theorem dGet {f : Fr} {i : Int} {v : Nat} (hs : nth f.slots i = some v) : getP i (dSt h (f :: fs) W o t) = .ok v (dSt h (f :: fs) W o t) := by
  unfold getP
  show (match nth f.slots i with | some x => Res.ok x (dSt h (f :: fs) W o t) | none => .stop 6 (dSt h (f :: fs) W o t)) = _
  rw [hs]
theorem dSet {f : Fr} {i : Int} {v u : Nat} (hs : nth f.slots i = some u) : setP i v (dSt h (f :: fs) W o t) = .ok () (dSt h ({ f with slots := f.slots.set i.toNat v } :: fs) W o t) := by
  unfold setP
  show (match nth f.slots i with | some _ => Res.ok () (dSt h ({ f with slots := f.slots.set i.toNat v } :: fs) W o t) | none => .stop 6 (dSt h (f :: fs) W o t)) = _
  rw [hs]

/-- A constant. -/
theorem dConst {f : Fr} {b : BlockS} {d m : Int} {u : Nat} (ht : t ≠ c.fuel) (hb : nth f.fn.blocks f.block = some b) (hx : b.code[f.pos.toNat]? = some (ins 1 d 0 0 0 m [])) (hs : nth f.slots d = some u) :
    stepP c (dSt h (f :: fs) W o t) = .ok () (dSt h ({ f with pos := f.pos + 1, slots := f.slots.set d.toNat (wImm m) } :: fs) W o (t + 1)) := by
  rw [dStep ht hb hx, if_neg (by show ¬ ((1 : Int) ≥ 18); omega)]
  unfold instrP
  rw [if_pos (show (ins 1 d 0 0 0 m []).op = 1 from rfl)]
  unfold setIntP
  exact dSet (f := { f with pos := f.pos + 1 }) hs

/-- Sub -/
theorem dSub {f : Fr} {b : BlockS} {m : Nat} {r : List Nat} (hm : m ≤ 900) (ht : t ≠ c.fuel) (hb : nth f.fn.blocks f.block = some b) (hx : b.code[f.pos.toNat]? = some (ins 4 0 0 1 0 2 [])) (hs : f.slots = wImm ((m + 1 : Nat) : Int) :: wImm 1 :: r) :
    stepP c (dSt h (f :: fs) W o t) = .ok () (dSt h ({ f with pos := f.pos + 1, slots := wImm (m : Int) :: wImm 1 :: r } :: fs) W o (t + 1)) := by
  rw [dStep ht hb hx, if_neg (by show ¬ ((4 : Int) ≥ 18); omega)]
  show (primP (ins 4 0 0 1 0 2 []) _).bind _ = _
  have h1 : primP (ins 4 0 0 1 0 2 []) (dSt h ({ f with pos := f.pos + 1 } :: fs) W o (t + 1)) = .ok ((m : Int), true) (dSt h ({ f with pos := f.pos + 1 } :: fs) W o (t + 1)) := by
    unfold primP
    show (numP 0 _).bind _ = _
    rw [dNum (m := m + 1) (by omega) (by rw [hs]; rfl), Res.bind_ok]
    show (numP 1 _).bind _ = _
    rw [dNum (m := 1) (by omega) (by rw [hs]; rfl), Res.bind_ok]
    show Res.ok (wWrap _, true) _ = _
    have : wWrap (((m + 1 : Nat) : Int) - ((1 : Nat) : Int)) = m := by unfold wWrap; omega
    rw [this]
  rw [h1, Res.bind_ok]
  rw [if_pos rfl]
  unfold setIntP
  rw [show (ins 4 0 0 1 0 2 []).d = 0 from rfl, dSet (f := { f with pos := f.pos + 1 }) (u := wImm ((m + 1 : Nat) : Int)) (by show nth f.slots 0 = _; rw [hs]; rfl)]
  congr 3
  show { f with pos := f.pos + 1, slots := f.slots.set 0 _ } = _
  rw [hs]; rfl

/-- A call of the second function. -/
theorem dCall {f : Fr} {b : BlockS} {v : Nat} {r : List Nat} (him : c.im = deepIm n k) (ht : t ≠ c.fuel) (hb : nth f.fn.blocks f.block = some b) (hx : b.code[f.pos.toNat]? = some (ins 17 0 1 (-1) 0 0 [0])) (hs : f.slots = v :: r) :
    stepP c (dSt h (f :: fs) W o t) = if W + (k + 4) > c.stack then .stop 5 (dSt h ({ f with pos := f.pos + 1, slots := List.replicate f.slots.length 1 } :: fs) W o (t + 1))
      else .ok () (dSt h (⟨deepF k, 0, 0, v :: List.replicate (k + 1) 1⟩ :: { f with pos := f.pos + 1, slots := List.replicate f.slots.length 1 } :: fs) (W + (k + 4)) o (t + 1)) := by
  rw [dStep ht hb hx, if_neg (by show ¬ ((17 : Int) ≥ 18); omega)]
  show (readP [0] _).bind _ = _
  have h1 : readP [0] (dSt h ({ f with pos := f.pos + 1 } :: fs) W o (t + 1)) = .ok [v] (dSt h ({ f with pos := f.pos + 1 } :: fs) W o (t + 1)) := by
    show (getP 0 _).bind _ = _
    rw [dGet (v := v) (by rw [hs]; rfl)]; rfl
  rw [h1, Res.bind_ok]
  show callP c 1 [v] (dSt h ({ f with pos := f.pos + 1, slots := List.replicate f.slots.length 1 } :: fs) W o (t + 1)) = _
  unfold callP
  rw [him]
  show (if _ then if W + ((2 + k : Nat) : Int) + 2 > c.stack then _ else _ else _) = _
  rw [if_pos ⟨by show (1 : Int) ≤ ((2 + k : Nat) : Int); omega, rfl, by show [_, _, _] ≠ []; simp⟩]
  have e1 : W + ((2 + k : Nat) : Int) + 2 = W + (k + 4) := by omega
  rw [e1]
  split
  · rfl
  · congr 1
    show dSt h (⟨deepF k, 0, 0, [v] ++ List.replicate (((2 + k : Nat) : Int).toNat - 1) 1⟩ :: _) (W + (((2 + k : Nat) : Int) + 2)) o (t + 1) = _
    have e2 : ((2 + k : Nat) : Int).toNat - 1 = k + 1 := by omega
    have e3 : W + (((2 + k : Nat) : Int) + 2) = W + (k + 4) := by omega
    rw [e2, e3]; rfl

/-- A return to a frame that waits. -/
theorem dRet {f g : Fr} {gs : List Fr} {b : BlockS} {v u : Nat} {i : InstrS} (ht : t ≠ c.fuel) (hfs : fs = g :: gs) (hb : nth f.fn.blocks f.block = some b) (hx : b.code[f.pos.toNat]? = some (ins 22 0 0 0 0 0 [])) (hs : nth f.slots 0 = some v)
    (hp : pendingP g = some i) (hi : i.d = 0) (hg : nth g.slots 0 = some u) :
    stepP c (dSt h (f :: fs) W o t) = .ok () (dSt h ({ g with slots := g.slots.set 0 v } :: gs) (W - (f.fn.slots + 2)) o (t + 1)) := by
  subst hfs
  rw [dStep ht hb hx, if_pos (by show ((22 : Int) ≥ 18); omega)]
  show (getP 0 _).bind _ = _
  rw [dGet (f := { f with pos := f.pos + 1 }) hs, Res.bind_ok]
  show (match pendingP g with | none => Res.bad | some i => setP i.d v (dSt h (g :: gs) (W - (f.fn.slots + 2)) o (t + 1))) = _
  rw [hp]
  show setP i.d v _ = _
  rw [hi]
  exact dSet hg

/-- What a call of the second function does. -/
theorem dFun (him : c.im = deepIm n k) (hfu : c.fuel = 5000) : ∀ (m : Nat) (_ : m ≤ 800) (g : Fr) (gs : List Fr) (i : InstrS) (u : Nat) (W t : Int), pendingP g = some i → i.d = 0 → nth g.slots 0 = some u → W ≤ c.stack → t + 5 * m + 2 ≤ 5000 →
    if W + (m : Int) * ((k : Int) + 4) ≤ c.stack then Leads c (dSt h (⟨deepF k, 0, 0, wImm (m : Int) :: List.replicate (k + 1) 1⟩ :: g :: gs) W o t) (dSt h ({ g with slots := g.slots.set 0 (wImm 0) } :: gs) (W - (k + 4)) o (t + 5 * m + 2))
    else ∃ s', Ends c (dSt h (⟨deepF k, 0, 0, wImm (m : Int) :: List.replicate (k + 1) 1⟩ :: g :: gs) W o t) 5 s' ∧ s'.output = o
  | 0, hm, g, gs, i, u, W, t, hp, hi, hg, hW, ht => by
    rw [if_pos (by simp; exact hW)]
    have h1 := dIf him (h := h) (o := o) (x := 1) 0 (by omega) (fs := g :: gs) (W := W) (t := t) (by omega)
    have h2 := dRet (c := c) (h := h) (o := o) (W := W) (t := t + 1) (f := ⟨deepF k, 2, 0, wImm ((0 : Nat) : Int) :: 1 :: List.replicate k 1⟩) (fs := g :: gs) (v := wImm 0) (u := u) (by omega) rfl rfl rfl rfl hp hi hg
    refine Leads.step h1 (Leads.step h2 ?_)
    have e1 : W - ((deepF k).slots + 2) = W - (k + 4) := by show W - (((2 + k : Nat) : Int) + 2) = _; omega
    have e2 : t + 1 + 1 = t + 5 * ((0 : Nat) : Int) + 2 := by omega
    rw [← e1, ← e2]
    exact Leads.refl _ _
  | m + 1, hm, g, gs, i, u, W, t, hp, hi, hg, hW, ht => by
    have h1 := dIf him (h := h) (o := o) (x := 1) (m + 1) (by omega) (fs := g :: gs) (W := W) (t := t) (by omega)
    have h2 := dConst (c := c) (h := h) (o := o) (W := W) (t := t + 1) (f := ⟨deepF k, 1, 0, wImm ((m + 1 : Nat) : Int) :: 1 :: List.replicate k 1⟩) (fs := g :: gs) (d := 1) (m := 1) (u := 1) (by omega) rfl rfl rfl
    have h3 := dSub (c := c) (h := h) (o := o) (W := W) (t := t + 1 + 1) (f := ⟨deepF k, 1, 1, wImm ((m + 1 : Nat) : Int) :: wImm 1 :: List.replicate k 1⟩) (fs := g :: gs) (m := m) (r := List.replicate k 1) (by omega) (by omega) rfl rfl rfl
    have h4 := dCall (c := c) (h := h) (o := o) (W := W) (t := t + 1 + 1 + 1) (f := ⟨deepF k, 1, 2, wImm (m : Int) :: wImm 1 :: List.replicate k 1⟩) (fs := g :: gs) him (by omega) rfl rfl rfl
    have hmul : ((m + 1 : Nat) : Int) * ((k : Int) + 4) = (m : Int) * ((k : Int) + 4) + ((k : Int) + 4) := by
      rw [show ((m + 1 : Nat) : Int) = (m : Int) + 1 by omega, Int.add_mul, Int.one_mul]
    have hnn : 0 ≤ (m : Int) * ((k : Int) + 4) := Int.mul_nonneg (by omega) (by omega)
    rw [if_neg (by omega : ¬ (m + 1 = 0))] at h1
    have lead : Leads c (dSt h (⟨deepF k, 0, 0, wImm ((m + 1 : Nat) : Int) :: List.replicate (k + 1) 1⟩ :: g :: gs) W o t) (dSt h (⟨deepF k, 1, 2, wImm (m : Int) :: wImm 1 :: List.replicate k 1⟩ :: g :: gs) W o (t + 1 + 1 + 1)) :=
      Leads.step h1 (Leads.step h2 (Leads.step h3 (Leads.refl _ _)))
    rw [hmul]
    by_cases hc : W + ((k : Int) + 4) > c.stack
    · rw [if_pos hc] at h4
      rw [if_neg (by omega)]
      exact ⟨_, lead.ends (Ends.now h4), rfl⟩
    · rw [if_neg hc] at h4
      have hl : (⟨deepF k, 1, 2, wImm (m : Int) :: wImm 1 :: List.replicate k 1⟩ : Fr).slots.length = k + 2 := by simp
      rw [hl] at h4
      have ih := dFun him hfu m (by omega) ⟨deepF k, 1, 3, List.replicate (k + 2) 1⟩ (g :: gs) (ins 17 0 1 (-1) 0 0 [0]) 1 (W + (k + 4)) (t + 1 + 1 + 1 + 1) rfl rfl rfl (by omega) (by omega)
      by_cases hd : W + ((m : Int) * ((k : Int) + 4) + ((k : Int) + 4)) ≤ c.stack
      · rw [if_pos hd]
        rw [if_pos (by omega)] at ih
        have h5 := dRet (c := c) (h := h) (o := o) (W := W + ((k : Int) + 4) - ((k : Int) + 4)) (t := t + 1 + 1 + 1 + 1 + 5 * (m : Int) + 2) (f := ⟨deepF k, 1, 3, (List.replicate (k + 2) 1).set 0 (wImm 0)⟩) (fs := g :: gs) (v := wImm 0) (u := u) (by omega) rfl rfl rfl rfl hp hi hg
        have e1 : W + ((k : Int) + 4) - ((k : Int) + 4) - ((deepF k).slots + 2) = W - (k + 4) := by show W + ((k : Int) + 4) - ((k : Int) + 4) - (((2 + k : Nat) : Int) + 2) = _; omega
        have e2 : t + 1 + 1 + 1 + 1 + 5 * (m : Int) + 2 + 1 = t + 5 * ((m + 1 : Nat) : Int) + 2 := by omega
        rw [← e1, ← e2]
        exact lead.trans (Leads.step h4 (ih.trans (Leads.step h5 (Leads.refl _ _))))
      · rw [if_neg hd]
        rw [if_neg (by omega)] at ih
        obtain ⟨s', h6, h7⟩ := ih
        exact ⟨s', lead.ends (Ends.step h4 h6), h7⟩
end
end Go.GX
/- The images of VmDeep are whole. -/
namespace Go.GX
open Go
set_option maxRecDepth 20000
theorem deep_checks : ((List.range 301).all fun n => (List.range 19).all fun k => checkP (deepIm (n : Nat) k) == 0) = true := by kernel_rfl

theorem deep_check {n k : Nat} (hn : n ≤ 300) (hk : k ≤ 18) : checkP (deepIm n k) = 0 := by
  have h1 := List.all_eq_true.1 deep_checks n (by simp; omega)
  have h2 := List.all_eq_true.1 h1 k (by simp; omega)
  simpa using h2

end Go.GX
/- The images of VmDeep are whole; how their runs end. -/
namespace Go.GX
open Go
set_option maxRecDepth 20000
theorem Leads.fin {c : Cx} {s1 : Vm} {k : Int} {s0 : Vm} (h : startP c = .ok () s0) (e : Ends c s0 k s1) : ∃ N, finP c N = .stop k s1 := by
  obtain ⟨N, hN⟩ := e
  exact ⟨N, by unfold finP; rw [h]; exact hN⟩

section
variable {c : Cx} {n k : Nat}

theorem deep_start (him : c.im = deepIm n k) (hn : n ≤ 300) (hk : k ≤ 18) :
    startP c = if 3 > c.stack then .stop 5 (vm0 (hp0 c)) else .ok () (dSt (hp0 c) [⟨deepMain n, 0, 0, [1]⟩] 3 [] 0) := by
  unfold startP
  rw [him, deep_check hn hk, if_neg (by simp), if_pos (show (List.map layOf (deepIm (n : Int) k).shapes).all layOk = true from rfl)]
  show (if (deepMain (n : Int)).params.length = 0 then callP c 0 [] (vm0 (hp0 c)) else _) = _
  rw [if_pos (show (deepMain (n : Int)).params.length = 0 from rfl)]
  unfold callP
  rw [him]
  show (if _ then if (0 : Int) + 1 + 2 > c.stack then _ else _ else _) = _
  rw [if_pos ⟨by show (0 : Int) ≤ 1; omega, rfl, by show [_] ≠ []; simp⟩]
  rfl

theorem dOut {h : Hp} {o : List Nat} {fs : List Fr} {W t : Int} {f : Fr} {b : BlockS} {m : Nat} (hm : m ≤ 1000) (ht : t ≠ c.fuel) (hb : nth f.fn.blocks f.block = some b) (hx : b.code[f.pos.toNat]? = some (ins 16 0 0 0 0 0 [])) (hs : nth f.slots 0 = some (wImm (m : Int))) :
    stepP c (dSt h (f :: fs) W o t) = .ok () (dSt h ({ f with pos := f.pos + 1 } :: fs) W (o ++ [m % 256]) (t + 1)) := by
  rw [dStep ht hb hx, if_neg (by show ¬ ((16 : Int) ≥ 18); omega)]
  unfold instrP
  show (numP 0 _).bind _ = _
  rw [dNum (f := { f with pos := f.pos + 1 }) hm hs, Res.bind_ok]
  have : ((m : Int) % 256).toNat = m % 256 := by omega
  rw [this]; rfl

theorem dEnd {h : Hp} {o : List Nat} {W t : Int} {f : Fr} {b : BlockS} {v : Nat} (ht : t ≠ c.fuel) (hb : nth f.fn.blocks f.block = some b) (hx : b.code[f.pos.toNat]? = some (ins 22 0 0 0 0 0 [])) (hs : nth f.slots 0 = some v) :
    ∃ s, stepP c (dSt h [f] W o t) = .stop 1 s ∧ s.output = o := by
  rw [dStep ht hb hx, if_pos (by show ((22 : Int) ≥ 18); omega)]
  refine ⟨dSt h [] (W - (f.fn.slots + 2)) o (t + 1), ?_, rfl⟩
  show (getP 0 _).bind _ = _
  rw [dGet (f := { f with pos := f.pos + 1 }) hs, Res.bind_ok]
  rfl

/-- How a run of VmDeep ends. -/
theorem deep_end (him : c.im = deepIm n k) (hn : n ≤ 300) (hk : k ≤ 18) (hfu : c.fuel = 5000) :
    if 3 + (1 + max 2 (n : Int)) * ((k : Int) + 4) > c.stack then ∃ N s, finP c N = .stop 5 s ∧ s.output = [] else ∃ N s, finP c N = .stop 1 s ∧ s.output = [0] := by
  have hst := deep_start him hn hk
  have hm1 : (1 + max 2 (n : Int)) * ((k : Int) + 4) = (k : Int) + 4 + max (2 * ((k : Int) + 4)) ((n : Int) * ((k : Int) + 4)) := by
    rcases Int.le_total 2 (n : Int) with hl | hl
    · rw [Int.max_eq_right hl, Int.max_eq_right (Int.mul_le_mul_of_nonneg_right hl (by omega)), Int.add_mul, Int.one_mul]
    · rw [Int.max_eq_left hl, Int.max_eq_left (Int.mul_le_mul_of_nonneg_right hl (by omega)), Int.add_mul, Int.one_mul]
  rw [hm1]
  have hnn : 0 ≤ (n : Int) * ((k : Int) + 4) := Int.mul_nonneg (by omega) (by omega)
  by_cases h3 : 3 > c.stack
  · rw [if_pos h3] at hst
    rw [if_pos (by omega)]
    exact ⟨0, _, by unfold finP; rw [hst]; rfl, rfl⟩
  rw [if_neg h3] at hst
  have f1 := dConst (c := c) (h := hp0 c) (o := []) (W := 3) (t := 0) (f := ⟨deepMain n, 0, 0, [1]⟩) (fs := []) (d := 0) (m := n) (u := 1) (by omega) rfl rfl rfl
  have f2 := dCall (c := c) (h := hp0 c) (o := []) (W := 3) (t := 0 + 1) (f := ⟨deepMain n, 0, 1, [wImm n]⟩) (fs := []) him (by omega) rfl rfl rfl
  have fin : ∀ (kk : Int) s1, Ends c (dSt (hp0 c) [⟨deepMain n, 0, 0, [1]⟩] 3 [] 0) kk s1 → ∃ N, finP c N = .stop kk s1 := fun kk s1 e => Leads.fin hst e
  by_cases h4 : (3 : Int) + ((k : Int) + 4) > c.stack
  · rw [if_pos h4] at f2
    rw [if_pos (by omega)]
    obtain ⟨N, hN⟩ := fin 5 _ (Ends.step f1 (Ends.now f2))
    exact ⟨N, _, hN, rfl⟩
  rw [if_neg h4] at f2
  have d1 := dFun (h := hp0 c) (o := []) him hfu n (by omega) ⟨deepMain n, 0, 2, [1]⟩ [] (ins 17 0 1 (-1) 0 0 [0]) 1 (3 + ((k : Int) + 4)) (0 + 1 + 1) rfl rfl rfl (by omega) (by omega)
  by_cases h5 : 3 + ((k : Int) + 4) + (n : Int) * ((k : Int) + 4) ≤ c.stack
  case neg =>
    rw [if_neg h5] at d1
    rw [if_pos (by omega)]
    obtain ⟨s', e1, e2⟩ := d1
    obtain ⟨N, hN⟩ := fin 5 _ (Ends.step f1 (Ends.step f2 e1))
    exact ⟨N, _, hN, e2⟩
  rw [if_pos h5] at d1
  have f3 := dConst (c := c) (h := hp0 c) (o := []) (W := 3 + ((k : Int) + 4) - ((k : Int) + 4)) (t := 0 + 1 + 1 + 5 * (n : Int) + 2) (f := ⟨deepMain n, 0, 2, [wImm 0]⟩) (fs := []) (d := 0) (m := 2) (u := wImm 0) (by omega) rfl rfl rfl
  have f4 := dCall (c := c) (h := hp0 c) (o := []) (W := 3 + ((k : Int) + 4) - ((k : Int) + 4)) (t := 0 + 1 + 1 + 5 * (n : Int) + 2 + 1) (f := ⟨deepMain n, 0, 3, [wImm 2]⟩) (fs := []) him (by omega) rfl rfl rfl
  rw [if_neg (by omega)] at f4
  have d2 := dFun (h := hp0 c) (o := []) him hfu 2 (by omega) ⟨deepMain n, 0, 4, [1]⟩ [] (ins 17 0 1 (-1) 0 0 [0]) 1 (3 + ((k : Int) + 4) - ((k : Int) + 4) + ((k : Int) + 4)) (0 + 1 + 1 + 5 * (n : Int) + 2 + 1 + 1) rfl rfl rfl (by omega) (by omega)
  have lead : ∀ {kk s1}, Ends c (dSt (hp0 c) (⟨deepF k, 0, 0, wImm ((2 : Nat) : Int) :: List.replicate (k + 1) 1⟩ :: [⟨deepMain n, 0, 4, [1]⟩]) (3 + ((k : Int) + 4) - ((k : Int) + 4) + ((k : Int) + 4)) [] (0 + 1 + 1 + 5 * (n : Int) + 2 + 1 + 1)) kk s1 → ∃ N, finP c N = .stop kk s1 := fun {kk s1} e =>
    fin kk s1 (Ends.step f1 (Ends.step f2 (d1.ends (Ends.step f3 (Ends.step f4 e)))))
  by_cases h6 : 3 + ((k : Int) + 4) + 2 * ((k : Int) + 4) ≤ c.stack
  case neg =>
    rw [if_neg (by omega)] at d2
    rw [if_pos (by omega)]
    obtain ⟨s', e1, e2⟩ := d2
    obtain ⟨N, hN⟩ := lead e1
    exact ⟨N, _, hN, e2⟩
  rw [if_pos (by omega)] at d2
  rw [if_neg (by omega)]
  have f5 := dOut (c := c) (h := hp0 c) (o := []) (W := 3 + ((k : Int) + 4) - ((k : Int) + 4) + ((k : Int) + 4) - ((k : Int) + 4)) (t := 0 + 1 + 1 + 5 * (n : Int) + 2 + 1 + 1 + 5 * ((2 : Nat) : Int) + 2) (f := ⟨deepMain n, 0, 4, [wImm 0]⟩) (fs := []) (m := 0) (by omega) (by omega) rfl rfl rfl
  obtain ⟨s1, f6, o6⟩ := dEnd (c := c) (h := hp0 c) (o := [] ++ [0 % 256]) (W := 3 + ((k : Int) + 4) - ((k : Int) + 4) + ((k : Int) + 4) - ((k : Int) + 4)) (t := 0 + 1 + 1 + 5 * (n : Int) + 2 + 1 + 1 + 5 * ((2 : Nat) : Int) + 2 + 1) (f := ⟨deepMain n, 0, 5, [wImm 0]⟩) (v := wImm 0) (by omega) rfl rfl rfl
  obtain ⟨N, hN⟩ := lead (d2.ends (Ends.step f5 (Ends.now f6)))
  exact ⟨N, _, hN, o6⟩
end
end Go.GX
/- VmDeep, walked. -/
namespace Go.Proofs.YtgnfodphfgmdlaaGreat
open Go Go.GX
set_option maxRecDepth 20000

theorem clampm_eq (x m a : Int) (h : a ≤ m) : (if (if m < x then m else x) > a then (if m < x then m else x) else a) = max a (min x m) := by
  split <;> (try split) <;> omega

def cD0 : List (InstrS × Value) := [(⟨19, 0, 0, 1, 2, 0, [], [], []⟩, nilS)]
def cD1 (l : Value) : List (InstrS × Value) := [(⟨1, 1, 0, 0, 0, 1, [], [], []⟩, nilS), (⟨4, 0, 0, 1, 0, 2, [], [], []⟩, nilS), (⟨17, 0, 1, -1, 0, 0, [0], [], []⟩, l), (⟨22, 0, 0, 0, 0, 0, [], [], []⟩, nilS)]
def cD2 : List (InstrS × Value) := [(⟨22, 0, 0, 0, 0, 0, [], [], []⟩, nilS)]
def cDm (n : Int) (l l' : Value) : List (InstrS × Value) := [(⟨1, 0, 0, 0, 0, n, [], [], []⟩, nilS), (⟨17, 0, 1, -1, 0, 0, [0], [], []⟩, l), (⟨1, 0, 0, 0, 0, 2, [], [], []⟩, nilS), (⟨17, 0, 1, -1, 0, 0, [0], [], []⟩, l'), (⟨16, 0, 0, 0, 0, 0, [], [], []⟩, nilS), (⟨22, 0, 0, 0, 0, 0, [], [], []⟩, nilS)]

theorem cD0_ok {w : World} : ∀ p ∈ cD0, InsOk w p.1 p.2 := fun p hp => by
  simp [cD0] at hp; subst hp; exact ⟨by unfold I64; decide, rfl, rfl, Sl.nil⟩
theorem cD2_ok {w : World} : ∀ p ∈ cD2, InsOk w p.1 p.2 := fun p hp => by
  simp [cD2] at hp; subst hp; exact ⟨by unfold I64; decide, rfl, rfl, Sl.nil⟩
theorem cD1_ok {w : World} {l : Value} (h : Sl 1 (IntAt w) l [0]) : ∀ p ∈ cD1 l, InsOk w p.1 p.2 := fun p hp => by
  simp [cD1] at hp
  rcases hp with rfl | rfl | rfl | rfl <;> refine ⟨by simp [I64], rfl, rfl, ?_⟩ <;> first | exact h | exact Sl.nil
theorem cDm_ok {w : World} {n : Int} {l l' : Value} (hn : I64 n) (h : Sl 1 (IntAt w) l [0]) (h' : Sl 1 (IntAt w) l' [0]) : ∀ p ∈ cDm n l l', InsOk w p.1 p.2 := fun p hp => by
  simp [cDm] at hp
  rcases hp with rfl | rfl | rfl | rfl | rfl | rfl
  · exact ⟨⟨by simp [I64], by simp [I64], by simp [I64], by simp [I64], by simp [I64], hn⟩, rfl, rfl, Sl.nil⟩
  · exact ⟨by simp [I64], rfl, rfl, h⟩
  · exact ⟨by simp [I64], rfl, rfl, Sl.nil⟩
  · exact ⟨by simp [I64], rfl, rfl, h'⟩
  · exact ⟨by simp [I64], rfl, rfl, Sl.nil⟩
  · exact ⟨by simp [I64], rfl, rfl, Sl.nil⟩

section
variable {w : World} {K : Value → World → Prop} {X : List PanicEntry → World → Prop}

/-- A slice of one number. -/
theorem one_int (x : Int) (hK : ∀ w', Ext w w' → w'.heap.size = w.heap.size + 1 → Blk w' w.heap.size 3 [vInt x] → K (.slice (some ⟨w.heap.size, 0, none⟩) 1 1) w') : BSLC Tryz.prog 28 1 [(0, vInt x)] w K :=
  BSLC_all bt28 [vInt x] (fun v hv => by simp at hv; subst hv; rfl) (by simp) fun w' e1 hb hs => hK w' e1 hs hb

theorem one_at {w : World} {b : Nat} {x : Int} (hb : Blk w b 3 [vInt x]) (hx : I64 x) : Sl 1 (IntAt w) (.slice (some ⟨b, 0, none⟩) 1 1) [x] :=
  ints_at (xs := [x]) (j := []) hb (fun y hy => by simp at hy; subst hy; exact hx) (by simp) rfl

theorem i64_of {x : Int} (h : -1000000 ≤ x ∧ x ≤ 1000000) : I64 x := by unfold I64; omega

/-- VmDeep -/
theorem c11 (deep stack slots : Int) (hK : ∀ w', Ext w w' → K (.bool true) w') : CAL Tryz.prog 11 #[vInt deep, vInt stack, vInt slots] w K X := n11 <| by
  unfold N11
  rw [MIN_two, MAX_two, clampm_eq _ _ _ (by omega), MIN_two, MAX_two, clampm_eq _ _ _ (by omega), MIN_two, MAX_two, clampm_eq _ _ _ (by omega)]
  obtain ⟨n, hn, hn3⟩ : ∃ n : Nat, max 0 (min deep 300) = n ∧ n ≤ 300 := ⟨(max 0 (min deep 300)).toNat, by omega, by omega⟩
  obtain ⟨st, hst, hst3⟩ : ∃ st : Nat, max 0 (min stack 3000) = st ∧ st ≤ 3000 := ⟨(max 0 (min stack 3000)).toNat, by omega, by omega⟩
  obtain ⟨k, hk, hk18⟩ : ∃ k : Nat, max 2 (min slots 20) = ((2 + k : Nat) : Int) ∧ k ≤ 18 := ⟨(max 2 (min slots 20) - 2).toNat, by omega, by omega⟩
  rw [hn, hst, hk]
  refine c22 fun w1 cv e1 s1 hl b7 _ => ?_
  obtain ⟨z, hz, hzl⟩ := zlen_get zero27
  refine AL_new hz fun w2 e2 b2 s2 => ?_
  refine ST_all (vs := leastC w.heap.size (.slice (some ⟨w.heap.size + 7, 0, none⟩) 1 1)) b2 rfl (by rw [hzl]; rfl) (oneC _ _ _ _) fun w3 b3 s3 o3 => ?_
  have e13 : Ext w1 w3 := ⟨by omega, fun i hi => by rw [o3 i (by omega)]; exact e2.same i hi⟩
  have hl3 := hl.ext e13
  have b73 := b7.ext e13
  refine one_int 0 fun w4 e4 s4 bin => ?_
  -- the slots that live in
  refine LOOP1_rel (fun q t w5 => ∃ (j : Nat) (o : Option (Nat × List Value)), t = grown o (1 + j) ∧ GrAt w5 o 3 ((0 :: List.replicate j (-1)).map vInt) ∧ Own w3 o ∧ Ext w3 w5 ∧ j ≤ k + 1 ∧ q = k + 1 - j)
    ⟨0, some (w3.heap.size, []), rfl, bin, fun b hb => by simp at hb; omega, e4, by omega, rfl⟩ ?_
  rintro q t w5 back ⟨j, o, rfl, hg, hown, e5, hj, rfl⟩ hback
  obtain ⟨ob, oj, rfl⟩ : ∃ ob oj, o = some (ob, oj) := by
    cases o with
    | none => have h0 : (0 :: List.replicate j (-1 : Int)).map vInt = [] := hg; simp at h0
    | some q => exact ⟨q.1, q.2, rfl⟩
  have hob : w3.heap.size ≤ ob := hown ob (by simp)
  show LEN (.sl 1) (.slice (some ⟨ob, 0, none⟩) (1 + j) (1 + j + oj.length)) _
  rw [LEN_slice, BIN_lss, CND_bool]
  by_cases hlt : j < k + 1
  · rw [if_pos (by simp; omega)]
    refine one_int (-1) fun w6 e6 s6 b6 => ?_
    have hlen : ((0 :: List.replicate j (-1 : Int)).map vInt).length = 1 + j := by simp; omega
    have happ := RUN_app1 (ty := 28) (K := fun v w7 => back v w7) elem28 (GrAt.ext hg e6) (b6.src 1) (fun v hv => by simp at hv; subst hv; rfl) (by rw [hlen]; simp; omega) (by rw [hlen]; simp; omega) fun w7 o' hg7 ha7 => by
      have hx := AppO.ext ha7 (e5.trans e6) hown
      rw [hlen]
      refine hback _ _ (k + 1 - (j + 1)) (by omega) ⟨j + 1, o', by rfl, ?_, hx.2, hx.1, by omega, rfl⟩
      have : (0 :: List.replicate j (-1 : Int)).map vInt ++ [vInt (-1)] = (0 :: List.replicate (j + 1) (-1)).map vInt := by
        rw [List.replicate_succ']; simp
      rw [← this]; exact hg7
    rw [hlen] at happ
    exact happ
  rw [if_neg (by simp; omega)]
  obtain rfl : j = k + 1 := by omega
  -- the second function
  have bin5 : Blk w5 ob 3 ((0 :: List.replicate (k + 1) (-1)).map vInt ++ oj) := hg
  have b35 := b3.ext e5
  have b75 := b73.ext e5
  have hl5 := hl3.ext e5
  clear hback
  show FA 4 (vPtr w1.heap.size) _
  rw [FA_at]
  refine LD_blk b35 (v := .slice (some ⟨w.heap.size + 7, 0, none⟩) 1 1) rfl ?_
  refine one_int 0 fun w8 e8 s8 bpar => ?_
  rw [bi034]
  refine code_new cD0 cD0_ok (by simp [cD0]) fun w9 n9 c9 e9 s9 hn9 bc0 _ => ?_
  show BLD Tryz.prog 61 [(0, .slice (some ⟨ob, 0, none⟩) (1 + (k + 1)) (1 + (k + 1) + oj.length)), (1, .slice (some ⟨w8.heap.size, 0, none⟩) n9 c9)] _
  rw [bb01, bi015, bi035]
  refine one_int 0 fun w10 e10 s10 bl1 => ?_
  rw [bi0236 _ _ _ _ [0], bi0]
  refine code_new (cD1 (.slice (some ⟨w9.heap.size, 0, none⟩) 1 1)) (cD1_ok (one_at bl1 (i64_of (by omega)))) (by simp [cD1]) fun w11 n11 c11 e11 s11 hn11 bc1 _ => ?_
  show BLD Tryz.prog 61 [(0, .slice (some ⟨ob, 0, none⟩) (1 + (k + 1)) (1 + (k + 1) + oj.length)), (1, .slice (some ⟨w10.heap.size, 0, none⟩) n11 c11)] _
  rw [bb01, bi0]
  refine code_new cD2 cD2_ok (by simp [cD2]) fun w12 n12 c12 e12 s12 hn12 bc2 _ => ?_
  show BLD Tryz.prog 61 [(0, .slice (some ⟨ob, 0, none⟩) (1 + (k + 1)) (1 + (k + 1) + oj.length)), (1, .slice (some ⟨w11.heap.size, 0, none⟩) n12 c12)] _
  rw [bb01]
  refine blks_new [({ inn := 0 :: List.replicate (k + 1) (-1), code := cD0.map (·.1) }, .slice (some ⟨ob, 0, none⟩) (1 + (k + 1)) (1 + (k + 1) + oj.length), .slice (some ⟨w8.heap.size, 0, none⟩) n9 c9),
      ({ inn := 0 :: List.replicate (k + 1) (-1), code := (cD1 (.slice (some ⟨w9.heap.size, 0, none⟩) 1 1)).map (·.1) }, .slice (some ⟨ob, 0, none⟩) (1 + (k + 1)) (1 + (k + 1) + oj.length), .slice (some ⟨w10.heap.size, 0, none⟩) n11 c11),
      ({ inn := 0 :: List.replicate (k + 1) (-1), code := cD2.map (·.1) }, .slice (some ⟨ob, 0, none⟩) (1 + (k + 1)) (1 + (k + 1) + oj.length), .slice (some ⟨w11.heap.size, 0, none⟩) n12 c12)] (by simp) fun w13 n13 c13 e13' s13 hn13 bbl => ?_
  rw [bf023]
  generalize hfc : ([.slice (some ⟨w5.heap.size, 0, none⟩) 1 1, vInt 0, vInt ((2 + k : Nat) : Int), .slice (some ⟨w12.heap.size, 0, none⟩) n13 c13] : List Value) = fc
  refine BSLC_all bt25 [funV (.slice (some ⟨w5.heap.size, 0, none⟩) 1 1) 0 ((2 + k : Nat) : Int) (.slice (some ⟨w12.heap.size, 0, none⟩) n13 c13)] (fun v hv => by simp at hv; subst hv; rfl) (by simp) fun w14 e14 b14 s14 => ?_
  have b14 : Blk w14 w13.heap.size 64 fc := by rw [← hfc]; exact b14
  have E5 : Ext w5 w14 := ((((((e8.trans e9).trans e10).trans e11).trans e12).trans e13').trans e14)
  have hfl : fc.length = 4 := by rw [← hfc]; rfl
  have hmm : w1.heap.size = w.heap.size + 8 := s1
  have hs5 := e5.size
  have hs14 : w14.heap.size = w5.heap.size + 7 := by omega
  refine RUN_app (base := some ⟨w.heap.size + 7, 0, none⟩) (n := 1) (cap := 1) (xs := fun0C w.heap.size) (j := []) (m := 1) (ys := fc) (x := .slice (some ⟨w13.heap.size, 0, none⟩) 1 1) elem25 (by omega) (.inr ⟨_, rfl, by rw [List.append_nil]; exact b75.ext E5, rfl, rfl⟩)
    ⟨by rw [hfl], .inr ⟨_, _, rfl, fun j v hj => by rw [add_lit, b14.cell, Nat.zero_add, hj]⟩⟩ (fun v hv => by rw [← hfc] at hv; simp at hv; rcases hv with rfl | rfl | rfl | rfl <;> rfl) (by omega) (by omega) fun w15 base' j' cap' ha hcap => ?_
  obtain ⟨b', rfl, bfs, hsz15, hsame15, hb'⟩ : ∃ b', base' = some ⟨b', 0, none⟩ ∧ Blk w15 b' 64 (fun0C w.heap.size ++ fc ++ j') ∧ w14.heap.size ≤ w15.heap.size ∧ (∀ i, i < w14.heap.size → i ≠ w.heap.size + 7 → w15.heap[i]? = w14.heap[i]?) ∧ (b' = w.heap.size + 7 ∨ w14.heap.size ≤ b') := by
    rcases ha with ⟨_, h, _⟩ | ⟨b', h1, h2, h3⟩
    · cases h
    · refine ⟨b', h1, h2, ?_⟩
      rcases h3 with ⟨h4, h5, h6⟩ | ⟨h4, h5⟩
      · have : w.heap.size + 7 = b' := by injection h4 with h4; injection h4
        exact ⟨by omega, fun i _ hi => h6 i (by omega), .inl this.symm⟩
      · exact ⟨h5.size, fun i hi _ => h5.same i hi, .inr h4⟩
  show FA 4 (vPtr w1.heap.size) _
  rw [FA_at]
  have b315 : Blk w15 w1.heap.size 27 (leastC w.heap.size (.slice (some ⟨w.heap.size + 7, 0, none⟩) 1 1)) := (b35.ext E5).same (hsame15 _ (by omega) (by omega))
  refine ST_one b315 (by simp [leastC]) rfl rfl ?_
  have b316 : Blk (w15.setCell ⟨w1.heap.size, 4, none⟩ (.slice (some ⟨b', 0, none⟩) 2 cap')) w1.heap.size 27 (leastC w.heap.size (.slice (some ⟨b', 0, none⟩) 2 cap')) := b315.set (o := 4) (.slice (some ⟨b', 0, none⟩) 2 cap')
  have bfs16 := bfs.other (x := ⟨w1.heap.size, 4, none⟩) (by show w1.heap.size ≠ b'; omega) (.slice (some ⟨b', 0, none⟩) 2 cap')
  have hsame16 : ∀ i, i < w14.heap.size → i ≠ w.heap.size + 7 → i ≠ w1.heap.size → (w15.setCell ⟨w1.heap.size, 4, none⟩ (.slice (some ⟨b', 0, none⟩) 2 cap')).heap[i]? = w14.heap[i]? := fun i hi h1 h2 => by
    rw [setCell_other (fun e => h2 e.symm)]; exact hsame15 i hi h1
  have hsz16 : (w15.setCell ⟨w1.heap.size, 4, none⟩ (.slice (some ⟨b', 0, none⟩) 2 cap')).heap.size = w15.heap.size := by simp [World.setCell]
  show FA 4 (vPtr w1.heap.size) _
  generalize w15.setCell ⟨w1.heap.size, 4, none⟩ (.slice (some ⟨b', 0, none⟩) 2 cap') = w16 at *
  rw [FA_at]
  refine LD_blk b316 (v := .slice (some ⟨b', 0, none⟩) 2 cap') rfl ?_
  rw [IA_slice]
  refine ⟨by omega, ?_⟩
  rw [add_lit]
  show FA 3 (.pointer (some ⟨b', 0, none⟩)) _
  rw [FA_at]
  refine LD_blk bfs16 (v := .slice (some ⟨w.heap.size + 6, 0, none⟩) 1 1) rfl ?_
  rw [bi05]
  refine one_int 0 fun w17 e17 s17 bm1 => ?_
  rw [bi0236 _ _ _ _ [0], bi05]
  refine one_int 0 fun w18 e18 s18 bm2 => ?_
  rw [bi0236 _ _ _ _ [0], bi0, bi0]
  have hl16 : LeastAt w16 w.heap.size cv := (hl5.ext E5).same fun i h1 h2 => hsame16 i (by omega) (by omega) (by omega)
  refine code_new (cDm n (.slice (some ⟨w16.heap.size, 0, none⟩) 1 1) (.slice (some ⟨w17.heap.size, 0, none⟩) 1 1)) (cDm_ok (i64_of (by omega)) (one_at (bm1.ext e18) (i64_of (by omega))) (one_at bm2 (i64_of (by omega)))) (by simp [cDm]) fun w19 n19 c19 e19 s19 hn19 bcm _ => ?_
  rw [IA_slice]
  refine ⟨by omega, ?_⟩
  rw [add_lit]
  show FA 1 (.pointer (some ⟨w.heap.size + 6, 0, none⟩)) _
  rw [FA_at]
  have E16 := (e17.trans e18).trans e19
  have hl19 := hl16.ext E16
  refine ST_one hl19.b6 (by simp) rfl rfl ?_
  have hl20 := hl19.setCode (.slice (some ⟨w18.heap.size, 0, none⟩) n19 c19)
  have ho20 : ∀ i, i ≠ w.heap.size + 6 → (w19.setCell ⟨w.heap.size + 6, 0 + 1, none⟩ (.slice (some ⟨w18.heap.size, 0, none⟩) n19 c19)).heap[i]? = w19.heap[i]? := fun i hi => setCell_other (fun e => hi e.symm) _
  have hsz20 : (w19.setCell ⟨w.heap.size + 6, 0 + 1, none⟩ (.slice (some ⟨w18.heap.size, 0, none⟩) n19 c19)).heap.size = w19.heap.size := by simp [World.setCell]
  generalize w19.setCell ⟨w.heap.size + 6, 0 + 1, none⟩ (.slice (some ⟨w18.heap.size, 0, none⟩) n19 c19) = w20 at *
  have hs16 := E16.size
  have old : ∀ i, i < w14.heap.size → i ≠ w.heap.size + 7 → i ≠ w1.heap.size → i ≠ w.heap.size + 6 → w20.heap[i]? = w14.heap[i]? := fun i h1 h2 h3 h4 => by
    rw [ho20 i h4, E16.same i (by omega), hsame16 i h1 h2 h3]
  have oldE : ∀ {b : Nat} {t : TypeId} {cs : List Value}, Blk w14 b t cs → w3.heap.size ≤ b → Blk w20 b t cs := fun h hb => h.same (old _ h.lt (by omega) (by omega) (by omega))
  have xin := oldE (bin5.ext E5) hob
  have xpar := oldE (bpar.ext (((((e9.trans e10).trans e11).trans e12).trans e13').trans e14)) (by omega)
  have xc0 := oldE (bc0.ext ((((e10.trans e11).trans e12).trans e13').trans e14)) (by omega)
  have xl1 := oldE (bl1.ext (((e11.trans e12).trans e13').trans e14)) (by omega)
  have xc1 := oldE (bc1.ext ((e12.trans e13').trans e14)) (by omega)
  have xc2 := oldE (bc2.ext (e13'.trans e14)) (by omega)
  have xbl := oldE (bbl.ext e14) (by omega)
  have xfs := (bfs16.ext E16).same (ho20 b' (by omega))
  have x3 := (b316.ext E16).same (ho20 _ (by omega))
  have xcm := bcm.same (ho20 _ (by omega))
  have xm1 := (bm1.ext (e18.trans e19)).same (ho20 _ (by omega))
  have xm2 := (bm2.ext e19).same (ho20 _ (by omega))
  have sin : Sl 1 (IntAt w20) (.slice (some ⟨ob, 0, none⟩) (1 + (k + 1)) (1 + (k + 1) + oj.length)) (0 :: List.replicate (k + 1) (-1)) := ints_at xin (fun x hx => by
    rcases List.mem_cons.1 hx with rfl | hx
    · exact i64_of (by omega)
    · obtain ⟨_, rfl⟩ := List.mem_replicate.1 hx; exact i64_of (by omega)) (by simp; omega) (by simp; omega)
  have hblks := blks_at xbl (fun p hp => by
    simp only [List.mem_cons, List.not_mem_nil, or_false] at hp
    rcases hp with rfl | rfl | rfl
    · exact ⟨sin, code_at xc0 cD0_ok (by simp [cD0]) hn9⟩
    · exact ⟨sin, code_at xc1 (cD1_ok (one_at xl1 (i64_of (by omega)))) (by simp [cD1]) hn11⟩
    · exact ⟨sin, code_at xc2 cD2_ok (by simp [cD2]) hn12⟩) (by simp) (n := n13) (c := c13) hn13
  have hcm := code_at xcm (cDm_ok (i64_of (by omega)) (one_at xm1 (i64_of (by omega))) (one_at xm2 (i64_of (by omega)))) (by simp [cDm]) (n := n19) (c := c19) hn19
  have hF : deepF k = { params := [0], result := 0, slots := (2 + k : Nat), blocks := [{ inn := 0 :: List.replicate (k + 1) (-1), code := cD0.map (·.1) }, { inn := 0 :: List.replicate (k + 1) (-1), code := (cD1 nilS).map (·.1) }, { inn := 0 :: List.replicate (k + 1) (-1), code := cD2.map (·.1) }] } := by
    unfold deepF; rw [Nat.add_comm 1 k]; rfl
  have hImg : ImgV w20 (leastC w.heap.size (.slice (some ⟨b', 0, none⟩) 2 cap')) (deepIm n k) := by
    refine hl20.img (fs := [deepMain n, deepF k]) (Sl.of_at rfl (show LenOk 2 by unfold LenOk; decide) fun i x hi => ?_)
    match i, hi with
    | 0, hi =>
      cases hi
      refine hl20.fun0 hcm fun j u hj => ?_
      rw [xfs.cell, Nat.zero_mul, Nat.zero_add, List.append_assoc, List.getElem?_append_left (List.getElem?_eq_some_iff.1 hj).1]; exact hj
    | 1, hi =>
      cases hi
      have hc : ∀ (j : Nat) u, fc[j]? = some u → w20.cell? ⟨b', 1 * 4 + j, none⟩ = some u := fun j u hj => by
        have hj4 : j < fc.length := (List.getElem?_eq_some_iff.1 hj).1
        rw [xfs.cell, List.append_assoc, List.getElem?_append_right (by show 4 ≤ 1 * 4 + j; omega), List.getElem?_append_left (by show 1 * 4 + j - 4 < _; omega)]
        rw [show 1 * 4 + j - (fun0C w.heap.size).length = j by show 1 * 4 + j - 4 = j; omega]; exact hj
      rw [hF]
      refine ⟨⟨_, hc 0 (.slice (some ⟨w5.heap.size, 0, none⟩) 1 1) (by rw [← hfc]; rfl), one_at xpar (i64_of (by omega))⟩, ⟨hc 1 (vInt 0) (by rw [← hfc]; rfl), show I64 0 from i64_of (by omega)⟩, ⟨hc 2 (vInt ((2 + k : Nat) : Int)) (by rw [← hfc]; rfl), show I64 ((2 + k : Nat) : Int) from i64_of (by omega)⟩, ⟨_, hc 3 (.slice (some ⟨w12.heap.size, 0, none⟩) n13 c13) (by rw [← hfc]; rfl), hblks⟩⟩
  have E20 : Ext w w20 := by
    refine ⟨by omega, fun i hi => ?_⟩
    rw [old i (by omega) (by omega) (by omega) (by omega), (e5.trans E5).same i (by omega), e13.same i (by omega), e1.same i hi]
  -- the run
  refine LDN_at (vs := leastC w.heap.size (.slice (some ⟨b', 0, none⟩) 2 cap')) rfl (fun j v hj => by rw [x3.cell, Nat.zero_add]; exact hj) ?_
  rw [bsc13]
  have hend := deep_end (c := scr (deepIm n k) (clampI 5000 16777216) (clampI st 65536)) (n := n) (k := k) rfl hn3 hk18 rfl
  have hcst : clampI st 65536 = st := clampI_of (by omega) (by omega)
  have hcs : (scr (deepIm n k) (clampI 5000 16777216) (clampI st 65536)).stack = st := hcst
  rw [hcs] at hend
  have hmul : 0 ≤ (1 + max 2 (n : Int)) * ((k : Int) + 4) ∧ (1 + max 2 (n : Int)) * ((k : Int) + 4) ≤ 301 * 22 :=
    ⟨Int.mul_nonneg (by omega) (by omega), Int.mul_le_mul (by omega) (by omega) (by omega) (by omega)⟩
  have hmx : (if (n : Int) > 2 then (n : Int) else 2) = max 2 (n : Int) := by split <;> omega
  have hk4 : ((2 + k : Nat) : Int) + 2 = (k : Int) + 4 := by omega
  by_cases hneed : 3 + (1 + max 2 (n : Int)) * ((k : Int) + 4) > st
  · rw [if_pos hneed] at hend
    obtain ⟨N, sf, hfin, hout⟩ := hend
    refine run_fin (n := N) (k := 5) (s := sf) hImg hfin fun ov w21 e21 hov => ?_
    refine put_out hov fun w23 e23 s23 bo => ?_
    have hov' : Sl 1 (ByteAt w23) ov [] := by rw [← hout]; exact Sl.mono (fun _ _ h => ByteAt.ext e23 h) hov
    rw [MAX_two, hmx, BIN_add, wrap64 _ (by omega), BIN_add, wrap64 _ (by omega), BIN_mul, hk4, wrap64 _ (by omega), BIN_add, wrap64 _ (by omega), BIN_gtr, CND_bool, if_pos (by simpa using hneed), FA_at]
    refine LD_blk bo (v := vInt 5) rfl ?_
    rw [BIN_eql, GRP_and, if_pos (by decide), FA_at]
    refine LD_blk bo (v := ov) rfl (LEN_sl hov' ?_)
    rw [BIN_eql]
    show GRP _ _ _ _ _ _
    rw [GRP_and, if_pos (by simp)]
    exact c16 fun w24 e24 => hK w24 (((E20.trans e21).trans e23).trans e24)
  · rw [if_neg hneed] at hend
    obtain ⟨N, sf, hfin, hout⟩ := hend
    refine run_fin (n := N) (k := 1) (s := sf) hImg hfin fun ov w21 e21 hov => ?_
    refine put_out hov fun w23 e23 s23 bo => ?_
    have hov' : Sl 1 (ByteAt w23) ov [0] := by rw [← hout]; exact Sl.mono (fun _ _ h => ByteAt.ext e23 h) hov
    have hstr : ((strOf [0]).toList == (⟨#[0]⟩ : ByteArray).toList) = true := by
      rw [show strOf [0] = ⟨#[0]⟩ from rfl]; simp
    rw [MAX_two, hmx, BIN_add, wrap64 _ (by omega), BIN_add, wrap64 _ (by omega), BIN_mul, hk4, wrap64 _ (by omega), BIN_add, wrap64 _ (by omega), BIN_gtr, CND_bool, if_neg (by simpa using hneed), FA_at]
    refine LD_blk bo (v := vInt 1) rfl ?_
    rw [BIN_eql, GRP_and, if_pos (by decide), FA_at]
    refine LD_blk bo (v := ov) rfl ?_
    refine str_sl hov' ?_
    rw [BIN_streql, hstr]
    show GRP _ _ _ _ _ _
    rw [GRP_and, if_pos rfl]
    exact c16 fun w24 e24 => hK w24 (((E20.trans e21).trans e23).trans e24)
end
end Go.Proofs.YtgnfodphfgmdlaaGreat
/- What a row asks behind a call, where only new blocks may be frozen, and old ones are as they were. -/
namespace Go.GX
open Go Go.ChangeShapes

/-- Old blocks are as they were, and so is all beside the heap. -/
structure Old (w w' : World) : Prop where
  io : Io w w'
  ext : Ext w w'

theorem Old.frame {w w' : World} (h : Old w w') (may : MemPlace → Prop) : w.keptBut w' may := by
  refine ⟨h.io.1, h.io.2, fun i hi => ?_⟩
  rw [h.ext.same i hi]
  split <;> simp_all

theorem Old.frozen {w w' : World} (h : Old w w') {a : Addr} (ha : a.block < w.heap.size) : w'.frozen? a = w.frozen? a := by
  unfold World.frozen?; rw [h.ext.same _ ha]

theorem post_old {H : Type} {enc : TypeId × Value → H} {P : Program} {f : Func} {s : ChangeSpec} {apart fresh handsOn again : Bool} {W W' : World} {args : Array Value} {v : Value} {ds gs : List (DataW H)} {before pa pv : List MemPlace}
    (hW : DataW.Whole enc P f.params.toList s.vars apart W args.toList ds gs before)
    (hres : ∀ (b : Nat) (sp : Nat → Bool) (hd : Bool), DataW.TrodAll enc P W' b sp hd f.resultTypes.toList (v.resultList f.resultTypes.size) (s.fn H (ds ++ gs)).results [])
    (hargs : ∀ sp : Nat → Bool, (∀ p ∈ before, sp p.block = true) → DataW.TrodAll enc P W' 0 sp true f.params.toList args.toList (s.fn H (ds ++ gs)).args pa)
    (hvars : ∀ sp : Nat → Bool, (∀ p ∈ before, sp p.block = true) → DataW.TrodVars enc P W' sp s.vars (s.fn H (ds ++ gs)).vars pv)
    (hps : before = pa ++ pv) (ho : Old W W')
    (hok : ∀ (j : Nat) (t : TypeId) (r : Value), f.resultTypes[j]? = some t → (v.resultList f.resultTypes.size)[j]? = some r → Value.okWide P W' .any 0 t r) :
    s.post enc P f apart fresh handsOn again W args v W' := by
  have lt : ∀ p ∈ before, p.block < W.heap.size := fun p hp => hW.lt p hp
  have sub : ∀ p, p ∈ before ↔ p ∈ ([] ++ pa) ++ pv := fun p => by rw [hps]; simp
  have hk := ho.frame fun p => p ∈ before ∧ (p ∈ ([] : List MemPlace) ∨ p ∈ pa ∨ p ∈ pv)
  have whole := hW
  obtain ⟨_, _, _, _, _, hz, hn⟩ := hW
  refine ⟨ds, gs, before, [], pa, pv, whole, hres _ _ _, hargs _ fun p hp => by simpa using lt p hp, hvars _ fun p hp => by simpa using lt p hp, hk, fun _ => ⟨hok, _, _, ([] ++ pa) ++ pv, ⟨[] ++ pa, pv, trodAll_append (hargs _ fun _ _ => rfl) (hres _ _ _), hvars _ fun _ _ => rfl, rfl, fun b off hp => ?_, fun ha => ?_⟩, fun p hp _ => (sub p).2 hp⟩⟩
  · have hb := (sub _).2 hp
    rw [ho.frozen (lt _ hb)]; exact hz b off hb
  · have := hn ha
    rw [hps] at this
    simpa using this
end Go.GX
