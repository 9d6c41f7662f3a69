/- VmDeep answers true at every input and leaves its arguments as they were; no condition: text 5 of 12. -/
import Derived.ArgAppend
import Derived.Laws.MakeOwn
import Derived.Laws.IdiomCopy
import Derived.Test.YtgnfodphfgmdlaaGreatDeep04
set_option linter.all false
/- The machine of package vm in memory: where its parts lie, and what they hold. -/
namespace Go.GX
open Go

/-- Where things are that a run is given: the world ahead of it, where the image is, the script's slices. -/
structure Ctx extends Cx where
  w0 : World
  ia : Nat
  vin : Value
  vcol : Value
  vb : Nat
  vo : Option Obj

/-- The world that a run is given is left alone, and so is the block of the variable that holds the machine. -/
structure XE (c : Ctx) (w : World) : Prop extends Ext c.w0 w where
  var : w.heap[c.vb]? = c.vo
  lt : c.vb < w.heap.size

theorem XE.trans {c : Ctx} {w w' : World} (h : XE c w) (e : Ext w w') : XE c w' := ⟨h.toExt.trans e, by rw [e.same _ h.lt]; exact h.var, Nat.lt_of_lt_of_le h.lt e.size⟩
theorem XE.drew {c : Ctx} {w : World} (h : XE c w) : XE c w.drew := ⟨h.toExt.drew, h.var, h.lt⟩
theorem XE.setCell {c : Ctx} {w : World} (h : XE c w) {x : Addr} (hx : c.w0.heap.size ≤ x.block ∧ x.block ≠ c.vb) (v : Value) : XE c (w.setCell x v) :=
  ⟨h.toExt.setCell hx.1 v, by rw [← h.var]; simp only [World.setCell, Array.getElem?_modify]; rw [if_neg hx.2], by simpa [World.setCell] using h.lt⟩

structure Ctx.Okay (c : Ctx) : Prop where
  ok : c.toCx.Ok
  im : ImgAt c.w0 ⟨c.ia, 0, none⟩ c.im
  input : Sl 1 (ByteAt c.w0) c.vin c.input
  collect : Sl 1 (BoolAt c.w0) c.vcol c.collect

/-- Where the machine's parts lie. -/
structure Lay where
  m : Nat
  h : Nat
  wb : Nat
  hb : Nat
  lb : Option (Nat × List Value)
  fr : List (Nat × Nat)
  fb : Option (Nat × List Value)
  ob : Option (Nat × List Value)

def Lay.hpB (L : Lay) : List Nat := L.h :: L.wb :: L.hb :: (L.lb.map (·.1)).toList
def Lay.frB (L : Lay) : List Nat := (L.fr.map (·.1) ++ L.fr.map (·.2)) ++ (L.fb.map (·.1)).toList
def Lay.obB (L : Lay) : List Nat := (L.ob.map (·.1)).toList
def Lay.all (L : Lay) : List Nat := L.m :: (L.hpB ++ (L.frB ++ L.obB))

abbrev vInt (n : Int) : Value := .int .i64 n
abbrev vU (n : Nat) : Value := .int .u64 n
abbrev vB (n : Nat) : Value := .int .u8 n
abbrev vPtr (b : Nat) : Value := .pointer (some ⟨b, 0, none⟩)

/-- A slice of one-cell elements that grows by append: n elements, and what stands behind them. -/
def grown (o : Option (Nat × List Value)) (n : Nat) : Value :=
  match o with
  | none => .slice none 0 0
  | some (b, j) => .slice (some ⟨b, 0, none⟩) n (n + j.length)

def GrAt (w : World) (o : Option (Nat × List Value)) (t : TypeId) (xs : List Value) : Prop :=
  match o with
  | none => xs = []
  | some (b, j) => Blk w b t (xs ++ j)

/-- A slice that was made: as long as its room. -/
def made (b n : Nat) : Value := .slice (some ⟨b, 0, none⟩) n n

def laysV (o : Option (Nat × List Value)) (n : Nat) : Value :=
  match o with
  | none => .slice none 0 0
  | some (b, j) => .slice (some ⟨b, 0, none⟩) n (n + j.length / 2)

def laysC (l : List (Int × Int)) : List Value := l.flatMap fun p => [vInt p.1, vInt p.2]

def machC (c : Ctx) (L : Lay) (s : Vm) : List Value :=
  [vPtr c.ia, c.vin, vInt c.fuel, vInt c.heap, vInt c.stack, c.vcol, vPtr L.h, grown L.fb s.frs.length, vInt s.words, vInt s.inp, vInt s.made,
   vInt s.kind, grown L.ob s.output.length, .string s.exn, vInt s.steps, vInt s.swept]

def frC (fa : Addr) (f : Fr) (p : Nat × Nat) : List Value := [.pointer (some fa), vInt f.block, vInt f.pos, made p.2 f.slots.length]

/-- The words of the bits of the heads. -/
structure HeadsAt (w : World) (b : Nat) (h : Hp) (hs : List Nat) : Prop where
  blk : Blk w b 166 (hs.map vU)
  len : hs.length = h.words.length / 64 + 1
  w64 : ∀ x ∈ hs, W64 x
  bit : ∀ x, x < 64 * hs.length → (decide ((hs[x / 64]?).getD 0 / 2 ^ (x % 64) % 2 = 1) = decide (x ∈ h.objs))

/-- The heap. -/
structure HpAt (w : World) (L : Lay) (h : Hp) : Prop where
  blk : Blk w L.h 165 [made L.wb h.words.length, made L.hb (h.words.length / 64 + 1), laysV L.lb h.lays.length, vInt h.top]
  words : Blk w L.wb 166 (h.words.map vU)
  heads : ∃ hs, HeadsAt w L.hb h hs
  lays : GrAt w L.lb 121 (laysC h.lays)

/-- One frame. -/
structure FrAt (c : Ctx) (w : World) (f : Fr) (p : Nat × Nat) : Prop where
  blk : ∃ fa, fa.spot = none ∧ FuncAt c.w0 fa f.fn ∧ Blk w p.1 132 (frC fa f p)
  slots : Blk w p.2 166 (f.slots.map vU)

structure FrsAt (c : Ctx) (w : World) (L : Lay) (s : List Fr) : Prop where
  len : L.fr.length = s.length
  each : ∀ (i : Nat) (f : Fr) (p : Nat × Nat), s[i]? = some f → L.fr[i]? = some p → FrAt c w f p
  back : GrAt w L.fb 125 (L.fr.map fun p => vPtr p.1).reverse
  nil : L.fb = none → s = []

structure OutAt (w : World) (L : Lay) (o : List Nat) : Prop where
  back : GrAt w L.ob 5 (o.map vB)
  nil : L.ob = none → o = []
  u8 : ∀ x ∈ o, x < 256

/-- **The machine in memory.** -/
structure MS (c : Ctx) (L : Lay) (s : Vm) (w : World) : Prop where
  ok : c.Okay
  inv : MOk c.toCx s
  xe : XE c w
  mach : Blk w L.m 78 (machC c L s)
  hp : HpAt w L s.hp
  frs : FrsAt c w L s.frs
  out : OutAt w L s.output
  nodup : L.all.Nodup
  new : ∀ b ∈ L.all, c.w0.heap.size ≤ b ∧ b ≠ c.vb

theorem MS.ext {c : Ctx} {L : Lay} {s : Vm} {w : World} (h : MS c L s w) : Ext c.w0 w := h.xe.toExt

/-! ### What does not touch the blocks -/

def SameOn (S : List Nat) (w w' : World) : Prop := ∀ b ∈ S, w'.heap[b]? = w.heap[b]?

theorem Blk.same {w w' : World} {b : Nat} {t : TypeId} {cs : List Value} (h : Blk w b t cs) (e : w'.heap[b]? = w.heap[b]?) : Blk w' b t cs := by
  unfold Blk at *; rw [e]; exact h

theorem GrAt.same {w w' : World} {o : Option (Nat × List Value)} {t : TypeId} {xs : List Value} (h : GrAt w o t xs) (e : SameOn (o.map (·.1)).toList w w') : GrAt w' o t xs := by
  cases o with
  | none => exact h
  | some p => exact Blk.same h (e p.1 (by simp))

theorem HpAt.same {w w' : World} {L : Lay} {h : Hp} (hh : HpAt w L h) (e : SameOn L.hpB w w') : HpAt w' L h :=
  ⟨hh.blk.same (e _ (by simp [Lay.hpB])), hh.words.same (e _ (by simp [Lay.hpB])),
   let ⟨hs, h1⟩ := hh.heads; ⟨hs, h1.blk.same (e _ (by simp [Lay.hpB])), h1.len, h1.w64, h1.bit⟩,
   hh.lays.same (fun b hb => e b (by simp [Lay.hpB] at *; exact .inr (.inr (.inr hb))))⟩

theorem FrAt.same {c : Ctx} {w w' : World} {f : Fr} {p : Nat × Nat} (h : FrAt c w f p) (e1 : w'.heap[p.1]? = w.heap[p.1]?) (e2 : w'.heap[p.2]? = w.heap[p.2]?) : FrAt c w' f p :=
  ⟨let ⟨fa, h1, h2, h3⟩ := h.blk; ⟨fa, h1, h2, h3.same e1⟩, h.slots.same e2⟩

theorem FrsAt.same {c : Ctx} {w w' : World} {L : Lay} {s : List Fr} (h : FrsAt c w L s) (e : SameOn L.frB w w') : FrsAt c w' L s :=
  ⟨h.len, fun i f p hf hp => (h.each i f p hf hp).same
      (e _ (by simp only [Lay.frB, List.mem_append, List.mem_map]; exact .inl (.inl ⟨p, List.mem_of_getElem? hp, rfl⟩)))
      (e _ (by simp only [Lay.frB, List.mem_append, List.mem_map]; exact .inl (.inr ⟨p, List.mem_of_getElem? hp, rfl⟩))),
   h.back.same (fun b hb => e b (by simp only [Lay.frB, List.mem_append]; exact .inr hb)), h.nil⟩

theorem OutAt.same {w w' : World} {L : Lay} {o : List Nat} (h : OutAt w L o) (e : SameOn L.obB w w') : OutAt w' L o :=
  ⟨h.back.same e, h.nil, h.u8⟩

section
variable {c : Ctx} {L : Lay} {s : Vm} {w w' : World}

theorem MS.same (h : MS c L s w) (e0 : XE c w') (e : SameOn L.all w w') : MS c L s w' :=
  ⟨h.ok, h.inv, e0, h.mach.same (e _ (by simp [Lay.all])), h.hp.same (fun b hb => e b (by simp [Lay.all, hb])), h.frs.same (fun b hb => e b (by simp [Lay.all, hb])),
   h.out.same (fun b hb => e b (by simp [Lay.all, hb])), h.nodup, h.new⟩

theorem Blk.lt' {w : World} {b : Nat} {t : TypeId} {cs : List Value} (h : Blk w b t cs) : b < w.heap.size := h.lt

theorem GrAt.lt {w : World} {o : Option (Nat × List Value)} {t : TypeId} {xs : List Value} (h : GrAt w o t xs) : ∀ b ∈ (o.map (·.1)).toList, b < w.heap.size := by
  cases o with
  | none => simp
  | some p => intro b hb; simp at hb; subst hb; exact Blk.lt h

/-- All blocks are there. -/
theorem MS.lt (h : MS c L s w) : ∀ b ∈ L.all, b < w.heap.size := by
  intro b hb
  simp only [Lay.all, List.mem_cons, List.mem_append] at hb
  rcases hb with rfl | hb | hb | hb
  · exact h.mach.lt
  · simp only [Lay.hpB, List.mem_cons] at hb
    rcases hb with rfl | rfl | rfl | hb
    · exact h.hp.blk.lt
    · exact h.hp.words.lt
    · obtain ⟨hs, h1⟩ := h.hp.heads; exact h1.blk.lt
    · exact h.hp.lays.lt b hb
  · simp only [Lay.frB, List.mem_append, List.mem_map] at hb
    have hpair : ∀ p ∈ L.fr, p.1 < w.heap.size ∧ p.2 < w.heap.size := by
      intro p hp
      obtain ⟨i, hi⟩ := List.getElem?_of_mem hp
      have hlt : i < s.frs.length := by rw [← h.frs.len]; exact (List.getElem?_eq_some_iff.1 hi).1
      have := h.frs.each i _ p (List.getElem?_eq_getElem hlt) hi
      obtain ⟨fa, _, _, h3⟩ := this.blk
      exact ⟨h3.lt, this.slots.lt⟩
    rcases hb with (⟨p, hp, rfl⟩ | ⟨p, hp, rfl⟩) | hb
    · exact (hpair p hp).1
    · exact (hpair p hp).2
    · exact h.frs.back.lt b hb
  · exact h.out.back.lt b hb

theorem MS.grow (h : MS c L s w) (e : Ext w w') : MS c L s w' := h.same (h.xe.trans e) (fun b hb => e.same b (h.lt b hb))
theorem MS.drew (h : MS c L s w) : MS c L s w.drew := h.grow (Ext.refl w).drew

/-- A cell of the machine itself is written. -/
theorem MS.setM (h : MS c L s w) (o : Nat) (v : Value) (s' : Vm) (hc : (machC c L s).set o v = machC c L s') (hi : MOk c.toCx s') (h1 : s'.hp = s.hp) (h2 : s'.frs = s.frs) (h3 : s'.output = s.output) :
    MS c L s' (w.setCell ⟨L.m, o, none⟩ v) := by
  have hnd := h.nodup
  simp only [Lay.all, List.nodup_cons] at hnd
  have hs : ∀ S : List Nat, L.m ∉ S → SameOn S w (w.setCell ⟨L.m, o, none⟩ v) := fun S hS b hb => by
    simp only [World.setCell, Array.getElem?_modify]
    rw [if_neg]
    rintro rfl; exact hS hb
  refine ⟨h.ok, hi, h.xe.setCell (h.new _ (by simp [Lay.all])) v, by rw [← hc]; exact h.mach.set v, ?_, ?_, ?_, h.nodup, h.new⟩
  · rw [h1]; exact h.hp.same (hs _ (fun hm => hnd.1 (by simp [hm])))
  · rw [h2]; exact h.frs.same (hs _ (fun hm => hnd.1 (by simp [hm])))
  · rw [h3]; exact h.out.same (hs _ (fun hm => hnd.1 (by simp [hm])))

end
end Go.GX
/- The contracts of the machine's small functions: frames and slots. -/
namespace Go.GX
open Go

theorem FA_at (n b o : Nat) {K : Value → Prop} : FA n (.pointer (some ⟨b, o, none⟩)) K = K (.pointer (some ⟨b, o + n, none⟩)) := by
  rw [FA_ptr, add_lit]

theorem EX_0 (a b : Value) (K : Value → Prop) : EX (.tuple #[a, b]) 0 K = K a := rfl
theorem EX_1 (a b : Value) (K : Value → Prop) : EX (.tuple #[a, b]) 1 K = K b := rfl

/-- '&&' whose second operand changes nothing. -/
theorem GRP_and_to {t u : Bool} {w : World} {KW : Value → World → Prop} {body : (Value → World → Prop) → Prop} (hb : t = true → KW (.bool u) w → body KW) (h : KW (.bool (t && u)) w) : GRP (.bool t) true (.bool false) w body KW := by
  rw [GRP_and]
  cases t with
  | true => rw [if_pos rfl]; exact hb rfl h
  | false => exact h

/-- What a part of a step leaves alone: all blocks that are not the machine's. -/
structure Step (L L' : Lay) (w w' : World) : Prop where
  size : w.heap.size ≤ w'.heap.size
  same : ∀ b, b < w.heap.size → b ∉ L.all → w'.heap[b]? = w.heap[b]? ∧ b ∉ L'.all

theorem Step.ext {L : Lay} {w w' : World} (e : Ext w w') : Step L L w w' := ⟨e.size, fun b hb hn => ⟨e.same b hb, hn⟩⟩
theorem Step.refl (L : Lay) (w : World) : Step L L w w := Step.ext (Ext.refl w)
theorem Step.trans {L L' L'' : Lay} {w w' w'' : World} (h : Step L L' w w') (h' : Step L' L'' w' w'') : Step L L'' w w'' :=
  ⟨Nat.le_trans h.size h'.size, fun b hb hn => by
    have h1 := h.same b hb hn
    have h2 := h'.same b (Nat.lt_of_lt_of_le hb h.size) h1.2
    exact ⟨h2.1.trans h1.1, h2.2⟩⟩
theorem Step.cell {L L' : Lay} {w : World} {x : Addr} (hx : x.block ∈ L.all) (hL : ∀ b, b ∈ L'.all → b ∈ L.all) (v : Value) : Step L L' w (w.setCell x v) :=
  ⟨by simp [World.setCell], fun b _ hn => ⟨by
    simp only [World.setCell, Array.getElem?_modify]
    exact if_neg (fun e => hn (by rw [← e]; exact hx)), fun h => hn (hL b h)⟩⟩

/-- What a part of a step does to a machine in memory, and where the run goes on or ends then. -/
def DO (c : Ctx) (L : Lay) (w : World) {α : Type} (r : Res α) (V : α → Value) (K : Value → World → Prop) (X : List PanicEntry → World → Prop) : Prop :=
  match r with
  | .ok a s => ∀ L' w', L'.m = L.m → Step L L' w w' → MS c L' s w' → K (V a) w'
  | .stop k s => ∀ L' w', L'.m = L.m → MS c L' s w' → X ([{ v := .iface 80 (.agg #[.int .i64 k]), recovered := false }]) w'
  | .bad => False

theorem DO.on {c : Ctx} {L L1 : Lay} {w w1 : World} {α : Type} {r : Res α} {V : α → Value} {K : Value → World → Prop} {X : List PanicEntry → World → Prop}
    (h : DO c L w r V K X) (hm : L1.m = L.m) (st : Step L L1 w w1) : DO c L1 w1 r V K X := by
  cases r with
  | bad => exact h
  | ok a s => exact fun L' w' h1 h2 h3 => h L' w' (h1.trans hm) (st.trans h2) h3
  | stop k s => exact fun L' w' h1 h3 => h L' w' (h1.trans hm) h3

abbrev vUnit : Unit → Value := fun _ => .tuple #[]

section
variable {c : Ctx} {L : Lay} {s : Vm} {w : World} {K : Value → Prop}

/-- A cell of the machine. -/
theorem LD_m (h : MS c L s w) {o : Nat} {v : Value} (hv : (machC c L s)[o]? = some v) (hK : K v) : LD w (.pointer (some ⟨L.m, o, none⟩)) K := LD_blk h.mach hv hK
end

/-- What is held of a machine by its first frame. -/
structure Top (c : Ctx) (L : Lay) (s : Vm) (w : World) (f : Fr) (fs : List Fr) (p : Nat × Nat) (ps : List (Nat × Nat)) (fa : Addr) : Prop where
  ms : MS c L s w
  frs : s.frs = f :: fs
  fr : L.fr = p :: ps
  spot : fa.spot = none
  fn : FuncAt c.w0 fa f.fn
  blk : Blk w p.1 132 (frC fa f p)
  slots : Blk w p.2 166 (f.slots.map vU)

theorem MS.top {c : Ctx} {L : Lay} {s : Vm} {w : World} (h : MS c L s w) {f : Fr} {fs : List Fr} (hs : s.frs = f :: fs) : ∃ p ps fa, Top c L s w f fs p ps fa := by
  have hl := h.frs.len
  cases hr : L.fr with
  | nil => rw [hs, hr] at hl; simp at hl
  | cons p ps =>
    have h1 := h.frs.each 0 f p (by rw [hs]; rfl) (by rw [hr]; rfl)
    obtain ⟨fa, h2, h3, h4⟩ := h1.blk
    exact ⟨p, ps, fa, h, hs, hr, h2, h3, h4, h1.slots⟩

theorem Top.same {c : Ctx} {L : Lay} {s : Vm} {w w' : World} {f : Fr} {fs : List Fr} {p : Nat × Nat} {ps : List (Nat × Nat)} {fa : Addr} (t : Top c L s w f fs p ps fa) (h : MS c L s w') (e : Ext w w') : Top c L s w' f fs p ps fa :=
  ⟨h, t.frs, t.fr, t.spot, t.fn, t.blk.ext e, t.slots.ext e⟩

theorem Top.pm {c : Ctx} {L : Lay} {s : Vm} {w : World} {f : Fr} {fs : List Fr} {p : Nat × Nat} {ps : List (Nat × Nat)} {fa : Addr} (t : Top c L s w f fs p ps fa) :
    p.1 ∈ L.all ∧ p.2 ∈ L.all ∧ p.1 ≠ L.m ∧ p.2 ≠ L.m ∧ p.1 ≠ p.2 := by
  have hnd := t.ms.nodup
  have h1 : p.1 ∈ L.frB := by simp [Lay.frB, t.fr]
  have h2 : p.2 ∈ L.frB := by simp [Lay.frB, t.fr]
  have h3 : p.1 ∈ L.all := by simp [Lay.all, h1]
  have h4 : p.2 ∈ L.all := by simp [Lay.all, h2]
  have hm : L.m ∉ L.frB := by
    simp only [Lay.all, List.nodup_cons, List.mem_append, not_or] at hnd; exact hnd.1.2.1
  refine ⟨h3, h4, fun e => hm (e ▸ h1), fun e => hm (e ▸ h2), fun e => ?_⟩
  have : L.frB.Nodup := by
    simp only [Lay.all, List.nodup_cons, List.nodup_append] at hnd; exact hnd.2.2.1.1
  simp only [Lay.frB, t.fr, List.map_cons, List.nodup_append] at this
  exact this.1.2.2 p.1 (by simp) p.2 (by simp) e

end Go.GX
namespace Go.Proofs.YtgnfodphfgmdlaaGreat
open Go Go.GX
section
variable {c : Ctx} {L : Lay} {s : Vm} {w : World} {K : Value → World → Prop} {X : List PanicEntry → World → Prop}
  {f : Fr} {fs : List Fr} {p : Nat × Nat} {ps : List (Nat × Nat)} {fa : Addr}

theorem c59 (t : Top c L s w f fs p ps fa) (hK : ∀ w', MS c L s w' → Ext w w' → K (vPtr p.1) w') : CAL Tryz.prog 59 #[vPtr L.m] w K X := n59 <| by
  have hd := t.ms.drew
  unfold N59
  have hback := hd.frs.back
  have hlen := t.ms.inv.frs_len t.ms.ok.ok
  obtain ⟨b, j, hfb⟩ : ∃ b j, L.fb = some (b, j) := by
    cases hb : L.fb with
    | none => have := t.ms.frs.nil hb; rw [t.frs] at this; cases this
    | some q => exact ⟨q.1, q.2, rfl⟩
  rw [hfb] at hback
  have hback : Blk w.drew b 125 ((L.fr.map fun p => vPtr p.1).reverse ++ j) := hback
  have hl : 0 < s.frs.length := by rw [t.frs]; simp
  rw [NC_ptr, FA_at]
  refine LD_m hd (o := 7) rfl ?_
  rw [NC_ptr, FA_at]
  refine LD_m hd (o := 7) rfl ?_
  rw [hfb]
  show LEN (.sl 1) (.slice _ _ _) _
  rw [LEN_slice, BIN_sub, wrap64 _ (by omega)]
  show IA 1 (.slice _ _ _) _ _
  rw [IA_slice]
  refine ⟨by omega, ?_⟩
  rw [add_lit]
  refine LD_blk hback (v := vPtr p.1) ?_ (hK _ hd (Ext.refl w).drew)
  rw [t.fr]
  have : (0 + ((s.frs.length : Int) - 1).toNat * 1) = ps.length := by
    have h1 := t.ms.frs.len; rw [t.fr] at h1; simp at h1; omega
  rw [this, List.getElem?_append_left (by simp)]
  simp

/-- slot -/
theorem c95 (t : Top c L s w f fs p ps fa) (i : Int)
    (hK : ∀ x, nth f.slots i = some x → ∀ w', MS c L s w' → Ext w w' → K (.pointer (some ⟨p.2, i.toNat, none⟩)) w')
    (hX : nth f.slots i = none → ∀ w', MS c L s w' → Ext w w' → X (over 6) w') : CAL Tryz.prog 95 #[vPtr L.m, vInt i] w K X := n95 <| by
  unfold N95
  refine c59 t fun w' h' e' => ?_
  have t' := t.same h' e'
  rw [BIN_geq]
  have hl : (f.slots.length : Int) ≤ 65536 := by
    have h1 := h'.inv.words; have h2 := h'.inv.stack; have h4 := h'.ok.ok.stack.2
    rw [t.frs] at h1; have h3 := frsWords_nonneg fs; simp [frsWords] at h1; omega
  refine GRP_and_pure (u := decide (i < f.slots.length)) (fun _ => ?_) ?_
  · funext J
    rw [NC_ptr, FA_at]
    have : LD w' (.pointer (some ⟨p.1, 0 + 3, none⟩)) = fun K => K (made p.2 f.slots.length) := by
      funext K; exact LD_some (by rw [t'.blk.cell]; rfl)
    rw [this]
    show LEN (.sl 1) (.slice _ _ _) _ = _
    rw [LEN_slice, BIN_lss]
  · cases hn : nth f.slots i with
    | some x =>
      have := nth_lt hn
      refine c56 _ _ (fun _ => ?_) (fun hf => by simp at hf; omega)
      rw [NC_ptr, FA_at]
      refine LD_blk t'.blk (v := made p.2 f.slots.length) rfl ?_
      show IA 1 (.slice _ _ _) _ _
      rw [IA_slice]
      refine ⟨by omega, ?_⟩
      rw [add_lit]
      have := hK x hn w' h' e'
      simpa using this
    | none =>
      have := nth_none hn
      exact c56 _ _ (fun ht => by simp at ht; omega) (fun _ => hX hn w' h' e')

end
end Go.Proofs.YtgnfodphfgmdlaaGreat
/- The contracts of the machine's small functions: what is set, jumps, numbers. -/
namespace Go.GX
open Go

theorem setCell_other {w : World} {x : Addr} {b : Nat} (h : x.block ≠ b) (v : Value) : (w.setCell x v).heap[b]? = w.heap[b]? := by
  simp only [World.setCell, Array.getElem?_modify]
  rw [if_neg h]

section
variable {c : Ctx} {L : Lay} {s : Vm} {w w' : World} {f : Fr} {fs : List Fr} {p : Nat × Nat} {ps : List (Nat × Nat)} {fa : Addr}

theorem nodup_mid (a : List Nat) (q y : Nat) (b : List Nat) (h : (a ++ y :: b).Nodup) (hq : q ∉ a ++ y :: b) : (a ++ q :: b).Nodup := by
  have p1 : (a ++ y :: b).Perm (y :: (a ++ b)) := List.perm_middle
  have p2 : (a ++ q :: b).Perm (q :: (a ++ b)) := List.perm_middle
  rw [p1.nodup_iff, List.nodup_cons] at h
  rw [p2.nodup_iff, List.nodup_cons]
  refine ⟨fun hm => hq ?_, h.2⟩
  simp only [List.mem_append, List.mem_cons] at *
  rcases hm with hm | hm
  · exact .inl hm
  · exact .inr (.inr hm)

/-- The frame that runs is another one, its slots in their place or in a new one. -/
theorem Top.setTop (t : Top c L s w f fs p ps fa) {f' : Fr} {q : Nat} (e0 : XE c w') (hb : ∀ b ∈ L.all, b ≠ p.1 → b ≠ p.2 → w'.heap[b]? = w.heap[b]?)
    (hq : q = p.2 ∨ (q ∉ L.all ∧ c.w0.heap.size ≤ q ∧ q ≠ c.vb)) (hf : FrAt c w' f' (p.1, q)) (inv : MOk c.toCx { s with frs := f' :: fs }) :
    MS c { L with fr := (p.1, q) :: ps } { s with frs := f' :: fs } w' := by
  have h := t.ms
  have hnd := h.nodup
  have hall : ∀ S : List Nat, (∀ b ∈ S, b ∈ L.all) → (∀ b ∈ S, b ≠ p.1 ∧ b ≠ p.2) → SameOn S w w' := fun S h1 h2 b hbS => hb b (h1 b hbS) (h2 b hbS).1 (h2 b hbS).2
  have hfrs : L.frB = p.1 :: (ps.map (·.1) ++ p.2 :: (ps.map (·.2) ++ (L.fb.map (·.1)).toList)) := by simp [Lay.frB, t.fr]
  have hallE : L.all = L.m :: (L.hpB ++ (p.1 :: (ps.map (·.1) ++ p.2 :: (ps.map (·.2) ++ (L.fb.map (·.1)).toList)) ++ L.obB)) := by rw [Lay.all, hfrs]
  rw [hallE] at hnd
  simp only [List.nodup_cons, List.nodup_append, List.mem_append, List.mem_cons, not_or] at hnd
  have hM : L.m ∈ L.all := by simp [Lay.all]
  have hH : ∀ b ∈ L.hpB, b ∈ L.all := fun b hb => by simp [Lay.all, hb]
  have hO : ∀ b ∈ L.obB, b ∈ L.all := fun b hb => by simp [Lay.all, hb]
  refine ⟨h.ok, inv, e0, ?_, ?_, ?_, ?_, ?_, ?_⟩
  · refine Blk.same ?_ (hb L.m hM ?_ ?_)
    · have : machC c { L with fr := (p.1, q) :: ps } { s with frs := f' :: fs } = machC c L s := by simp [machC, t.frs]
      rw [this]; exact h.mach
    · exact fun e => hnd.1.2.1.1 e
    · exact fun e => hnd.1.2.1.2.2.1 e
  · refine HpAt.same (w := w) ?_ (hall L.hpB hH ?_)
    · exact ⟨h.hp.blk, h.hp.words, h.hp.heads, h.hp.lays⟩
    · intro b hbS
      have := hnd.2.2.2 b hbS
      exact ⟨fun e => this p.1 (.inl (.inl rfl)) e, fun e => this p.2 (.inl (.inr (.inr (.inl rfl)))) e⟩
  · refine ⟨by have := h.frs.len; rw [t.frs, t.fr] at this; simpa using this, ?_, ?_, fun hn => ?_⟩
    · intro i g r hg hr
      cases i with
      | zero =>
        simp at hg hr; subst hg; subst hr; exact hf
      | succ i =>
        simp at hg hr
        have hm : r ∈ ps := List.mem_of_getElem? hr
        have h1 := h.frs.each (i + 1) g r (by rw [t.frs]; simpa using hg) (by rw [t.fr]; simpa using hr)
        have hr1 : r.1 ∈ ps.map (·.1) := List.mem_map.2 ⟨r, hm, rfl⟩
        have hr2 : r.2 ∈ ps.map (·.2) := List.mem_map.2 ⟨r, hm, rfl⟩
        have hin1 : r.1 ∈ L.all := by rw [hallE]; simp only [List.mem_cons, List.mem_append]; exact .inr (.inr (.inl (.inr (.inl hr1))))
        have hin2 : r.2 ∈ L.all := by rw [hallE]; simp only [List.mem_cons, List.mem_append]; exact .inr (.inr (.inl (.inr (.inr (.inr (.inl hr2))))))
        have hf1 := hnd.2.2.1.1
        refine h1.same (hb _ hin1 ?_ ?_) (hb _ hin2 ?_ ?_)
        · exact fun e => hf1.1.1 (e ▸ hr1)
        · exact fun e => hf1.2.2.2 _ hr1 p.2 (.inl rfl) e
        · exact fun e => hf1.1.2.2.1 (e ▸ hr2)
        · exact fun e => hf1.2.2.1.1.1 (e ▸ hr2)
    · have hback := h.frs.back
      rw [t.fr] at hback
      refine GrAt.same (w := w) (by simpa using hback) (hall _ ?_ ?_)
      · intro b hbm; rw [hallE]; simp only [List.mem_cons, List.mem_append]; exact .inr (.inr (.inl (.inr (.inr (.inr (.inr hbm))))))
      · intro b hbm
        have hf1 := hnd.2.2.1.1
        exact ⟨fun e => hf1.1.2.2.2 (e ▸ hbm), fun e => hf1.2.2.1.1.2 (e ▸ hbm)⟩
    · have := h.frs.nil hn; rw [t.frs] at this; cases this
  · refine OutAt.same (w := w) ⟨h.out.back, h.out.nil, h.out.u8⟩ (hall L.obB hO ?_)
    intro b hbm
    have := hnd.2.2.1.2.2
    exact ⟨fun e => this p.1 (.inl rfl) b hbm e.symm, fun e => this p.2 (.inr (.inr (.inl rfl))) b hbm e.symm⟩
  · rcases hq with rfl | ⟨hq, _⟩
    · have : (({ L with fr := (p.1, p.2) :: ps } : Lay)).all = L.all := by simp [Lay.all, Lay.hpB, Lay.frB, Lay.obB, t.fr]
      rw [this]; exact h.nodup
    · have e1 : L.all = (L.m :: (L.hpB ++ (p.1 :: ps.map (·.1)))) ++ p.2 :: ((ps.map (·.2) ++ (L.fb.map (·.1)).toList) ++ L.obB) := by rw [hallE]; simp
      have e2 : (({ L with fr := (p.1, q) :: ps } : Lay)).all = (L.m :: (L.hpB ++ (p.1 :: ps.map (·.1)))) ++ q :: ((ps.map (·.2) ++ (L.fb.map (·.1)).toList) ++ L.obB) := by
        simp [Lay.all, Lay.hpB, Lay.frB, Lay.obB]
      rw [e2]
      have hnd2 := h.nodup
      rw [e1] at hnd2 hq
      exact nodup_mid _ _ _ _ hnd2 hq
  · intro b hbm
    by_cases e : b = q
    · subst e
      rcases hq with rfl | ⟨_, hq⟩
      · exact h.new _ (t.pm.2.1)
      · exact hq
    · refine h.new b ?_
      rw [hallE]
      simp only [Lay.all, Lay.hpB, Lay.frB, Lay.obB, List.map_cons, List.mem_cons, List.mem_append] at hbm ⊢
      rcases hbm with h | h | (((h | h) | (h | h)) | h) | h
      · exact .inl h
      · exact .inr (.inl h)
      · exact .inr (.inr (.inl (.inl h)))
      · exact .inr (.inr (.inl (.inr (.inl h))))
      · exact absurd h e
      · exact .inr (.inr (.inl (.inr (.inr (.inr (.inl h))))))
      · exact .inr (.inr (.inl (.inr (.inr (.inr (.inr h))))))
      · exact .inr (.inr (.inr h))

theorem MOk.setTop {c : Cx} {s : Vm} {f f' : Fr} {fs : List Fr} (h : MOk c s) (hs : s.frs = f :: fs) (hl : f'.slots.length = f.slots.length) (hf : f'.fn = f.fn)
    (hx : ∀ x ∈ f'.slots, W64 x ∧ fitsP s.hp x = true) (hb : I64 f'.block) (hp : 0 ≤ f'.pos ∧ f'.pos ≤ 562949953421312) : MOk c { s with frs := f' :: fs } := by
  have h1 := h.room; have h2 := h.slots; have h3 := h.block; have h4 := h.pos; have h5 := h.words
  rw [hs] at h1 h2 h3 h4 h5
  refine ⟨h.heap, h.hlays, ?_, h.stack, ?_, ?_, ?_, ?_, ?_, h.steps, h.made, h.swept, h.inp, h.output, h.kind⟩
  · simp only [frsWords] at h5 ⊢; rw [h5, hl]
  · intro g hg
    rcases List.mem_cons.1 hg with rfl | hg
    · rw [hl, hf]; exact h1 f (by simp)
    · exact h1 g (by simp [hg])
  · intro g hg
    have h6 := h.fns
    rw [hs] at h6
    rcases List.mem_cons.1 hg with rfl | hg
    · rw [hf]; exact h6 f (by simp)
    · exact h6 g (by simp [hg])
  · intro g hg
    rcases List.mem_cons.1 hg with rfl | hg
    · exact hx
    · exact h2 g (by simp [hg])
  · intro g hg
    rcases List.mem_cons.1 hg with rfl | hg
    · exact hb
    · exact h3 g (by simp [hg])
  · intro g hg
    rcases List.mem_cons.1 hg with rfl | hg
    · exact hp
    · exact h4 g (by simp [hg])
end

end Go.GX
namespace Go.GX
open Go

/-- What a number's word is. -/
theorem wImm_ok (n : Int) (h : Hp) : W64 (wImm n) ∧ fitsP h (wImm n) = true := by
  have : wImm n % 2 = 1 := by unfold wImm; omega
  exact ⟨by unfold W64 wImm; omega, by simp [fitsP, this]⟩

theorem Top.all_same {c : Ctx} {L : Lay} {s : Vm} {w : World} {f : Fr} {fs : List Fr} {p : Nat × Nat} {ps : List (Nat × Nat)} {fa : Addr} (t : Top c L s w f fs p ps fa) :
    (({ L with fr := (p.1, p.2) :: ps } : Lay)).all = L.all := by simp [Lay.all, Lay.hpB, Lay.frB, Lay.obB, t.fr]

theorem Top.store {c : Ctx} {L : Lay} {s : Vm} {w : World} {f : Fr} {fs : List Fr} {p : Nat × Nat} {ps : List (Nat × Nat)} {fa : Addr} (t : Top c L s w f fs p ps fa)
    {i : Int} {y x : Nat} (hy : nth f.slots i = some y) (hx : W64 x ∧ fitsP s.hp x = true) :
    MS c { L with fr := (p.1, p.2) :: ps } { s with frs := { f with slots := f.slots.set i.toNat x } :: fs } (w.setCell ⟨p.2, i.toNat, none⟩ (vU x)) := by
  have hpm := t.pm
  refine t.setTop (f' := { f with slots := f.slots.set i.toNat x }) (t.ms.xe.setCell (t.ms.new _ hpm.2.1) _) (fun b _ _ h2 => setCell_other (fun e => h2 e.symm) _) (.inl rfl) ?_ ?_
  · refine ⟨⟨fa, t.spot, t.fn, ?_⟩, ?_⟩
    · have := (t.blk.other (x := ⟨p.2, i.toNat, none⟩) (fun e => hpm.2.2.2.2 e.symm) (vU x))
      simpa [frC] using this
    · have := t.slots.set (o := i.toNat) (vU x)
      simpa [List.map_set] using this
  · refine t.ms.inv.setTop t.frs (by simp) rfl ?_ (t.ms.inv.block f (by rw [t.frs]; simp)) (t.ms.inv.pos f (by rw [t.frs]; simp))
    intro z hz
    rcases List.mem_or_eq_of_mem_set hz with hz | rfl
    · exact t.ms.inv.slots f (by rw [t.frs]; simp) z hz
    · exact hx

end Go.GX
namespace Go.Proofs.YtgnfodphfgmdlaaGreat
open Go Go.GX
section
variable {c : Ctx} {L : Lay} {s : Vm} {w : World} {K : Value → World → Prop} {X : List PanicEntry → World → Prop}

/-- set -/
theorem c96 (h : MS c L s w) (i : Int) (x : Nat) (hx : W64 x ∧ fitsP s.hp x = true) (hK : DO c L w (setP i x s) vUnit K X) : CAL Tryz.prog 96 #[vPtr L.m, vInt i, vU x] w K X := n96 <| by
  unfold N96
  cases hf : s.frs with
  | nil => unfold setP at hK; rw [hf] at hK; exact absurd hK id
  | cons f fs =>
    obtain ⟨p, ps, fa, t⟩ := h.top hf
    unfold setP at hK; rw [hf] at hK
    refine c95 t i (fun y hy w' h' e' => ?_) (fun hn w' h' _ => ?_)
    · simp only [hy] at hK
      have t' := t.same h' e'
      have hi := nth_lt hy
      rw [NC_ptr]
      refine ST_one t'.slots (by simp; omega) rfl rfl ?_
      exact hK _ _ (by rfl) ((Step.ext e').trans (Step.cell t'.pm.2.1 (fun b hb => by rwa [t'.all_same] at hb) _)) (t'.store hy hx)
    · simp only [hn] at hK
      exact hK L w' rfl h'

/-- setInt -/
theorem c99 (h : MS c L s w) (i n : Int) (hK : DO c L w (setIntP i n s) vUnit K X) : CAL Tryz.prog 99 #[vPtr L.m, vInt i, vInt n] w K X := n99 <| by
  unfold N99
  refine c89 n ?_
  exact c96 h i (wImm n) (wImm_ok n _) (by
    unfold setIntP at hK
    revert hK
    cases setP i (wImm n) s <;> exact id)

/-- a slot's word, by its pointer -/
theorem LD_slot {f : Fr} {fs : List Fr} {p : Nat × Nat} {ps : List (Nat × Nat)} {fa : Addr} (t : Top c L s w f fs p ps fa) {i : Int} {x : Nat} (hx : nth f.slots i = some x) {K : Value → Prop} (hK : K (vU x)) :
    LD w (.pointer (some ⟨p.2, i.toNat, none⟩)) K := LD_blk t.slots (by simp [(nth_some hx).2]) hK

/-- The word of a slot: what is done by `slot` and a load. -/
theorem c95w (h : MS c L s w) (i : Int) (hK : ∀ x, getP i s = .ok x s → W64 x ∧ fitsP s.hp x = true → ∀ w', MS c L s w' → Ext w w' → ∀ b o, LD w' (.pointer (some ⟨b, o, none⟩)) = (fun K => K (vU x)) → K (.pointer (some ⟨b, o, none⟩)) w')
    (hX : getP i s = .stop 6 s → ∀ w', MS c L s w' → Ext w w' → X (over 6) w') (hne : getP i s ≠ .bad) : CAL Tryz.prog 95 #[vPtr L.m, vInt i] w K X := by
  cases hf : s.frs with
  | nil => unfold getP at hne; rw [hf] at hne; exact absurd rfl hne
  | cons f fs =>
    obtain ⟨p, ps, fa, t⟩ := h.top hf
    refine c95 t i (fun y hy w' h' e' => ?_) (fun hn w' h' e' => ?_)
    · refine hK y (by unfold getP; rw [hf]; simp [hy]) (h.inv.slots f (by rw [hf]; simp) y (nth_mem hy)) w' h' e' _ _ ?_
      have t' := t.same h' e'
      funext K
      exact LD_some (by rw [t'.slots.cell]; simp [(nth_some hy).2])
    · exact hX (by unfold getP; rw [hf]; simp [hn]) w' h' e'

/-- number -/
theorem c91 (h : MS c L s w) (i : Int) (hK : ∀ n, numP i s = .ok n s → I63 n → ∀ w', MS c L s w' → Ext w w' → K (vInt n) w')
    (hX : numP i s = .stop 6 s → ∀ w', MS c L s w' → Ext w w' → X (over 6) w') (hne : numP i s ≠ .bad) : CAL Tryz.prog 91 #[vPtr L.m, vInt i] w K X := n91 <| by
  unfold N91
  refine c95w h i (fun x hx hw w' h' e' b o hl => ?_) (fun hx w' h' e' => ?_) (fun hb => hne (by unfold numP; rw [hb]; rfl))
  · rw [NC_ptr, hl]
    refine c153 x hw.1 ?_
    by_cases hodd : x % 2 = 1
    · refine c56 _ _ (fun _ => ?_) (fun hf => by simp [hodd] at hf)
      refine c154 x hw.1 (hK _ (by unfold numP; rw [hx]; simp [hodd]) ?_ w' h' e')
      have := hw.1; unfold W64 at this; unfold I63 wInt; split <;> omega
    · refine c56 _ _ (fun hf => by simp [hodd] at hf) (fun _ => ?_)
      exact hX (by unfold numP; rw [hx]; simp [hodd]) w' h' e'
  · exact hX (by unfold numP; rw [hx]; rfl) w' h' e'

end
end Go.Proofs.YtgnfodphfgmdlaaGreat
/- append, make and copy on slices of known blocks. -/
namespace Go.GX
open Go

/-- What is known of a slice type and its element. -/
structure Elem (P : Program) (t e : TypeId) (sz bs : Nat) : Prop where
  ex : ∃ i z, P.underlying t = some (.slice e) ∧ P.info? e = some i ∧ i.zero = some z ∧ i.size = sz ∧ i.bytes = bs ∧ z.cells.size = sz

/-- What is appended: the cells that are read. -/
def Src (sz : Nat) (w : World) (x : Value) (m : Nat) (ys : List Value) : Prop :=
  ys.length = m * sz ∧ ((x = .slice none 0 0 ∧ m = 0) ∨ ∃ a c, x = .slice (some a) m c ∧ ∀ (j : Nat) v, ys[j]? = some v → w.cell? (a.add j) = some v)

theorem setCells_other (b : Nat) : ∀ (vs : List Value) (o : Nat) (w : World) (i : Nat), i ≠ b → (w.setCells b o vs).heap[i]? = w.heap[i]?
  | [], _, _, _, _ => rfl
  | v :: r, o, w, i, h => by
    simp only [World.setCells]
    rw [setCells_other b r (o + 1) _ i h]
    simp only [World.setCell, Array.getElem?_modify]
    rw [if_neg (fun e => h e.symm)]
theorem setCells_size (b : Nat) : ∀ (vs : List Value) (o : Nat) (w : World), (w.setCells b o vs).heap.size = w.heap.size
  | [], _, _ => rfl
  | v :: r, o, w => by
    simp only [World.setCells]
    rw [setCells_size b r (o + 1) _]; simp [World.setCell]

theorem setCells_io (b : Nat) : ∀ (vs : List Value) (o : Nat) (w : World), Io w (w.setCells b o vs)
  | [], _, _ => Io.refl _
  | v :: r, o, w => Io.trans (show Io w (w.setCell ⟨b, o, none⟩ v) from ⟨rfl, rfl⟩) (setCells_io b r (o + 1) _)

theorem Blk.sets {b : Nat} {t : TypeId} : ∀ (ys : List Value) (w : World) (xs j : List Value), Blk w b t (xs ++ j) → ys.length ≤ j.length → Blk (w.setCells b xs.length ys) b t (xs ++ ys ++ j.drop ys.length)
  | [], w, xs, j, h, _ => by
    show Blk w b t _
    simpa using h
  | y :: ys, w, xs, j, h, hl => by
    cases j with
    | nil => simp at hl
    | cons z j =>
      simp only [World.setCells]
      have h1 := h.set (o := xs.length) y
      have h2 : (xs ++ z :: j).set xs.length y = (xs ++ [y]) ++ j := by simp
      rw [h2] at h1
      have h3 := Blk.sets ys _ (xs ++ [y]) j h1 (by simpa using hl)
      simpa using h3

theorem Blk.sets_at {b : Nat} {t : TypeId} (ys : List Value) (w : World) (cs : List Value) (o : Nat) (h : Blk w b t cs) (hl : o + ys.length ≤ cs.length) : Blk (w.setCells b o ys) b t (cs.take o ++ ys ++ cs.drop (o + ys.length)) := by
  have e : cs = cs.take o ++ cs.drop o := (List.take_append_drop o cs).symm
  have h' := h
  rw [e] at h'
  have hlen : (cs.take o).length = o := by simp; omega
  have := Blk.sets ys w (cs.take o) (cs.drop o) h' (by simp; omega)
  rw [hlen, List.drop_drop] at this
  exact this

/-- Where the elements lie that were appended to. -/
def App (w w' : World) (base base' : Option Addr) (e : TypeId) (xs j' : List Value) : Prop :=
  (base' = none ∧ base = none ∧ xs = [] ∧ j' = [] ∧ w' = w) ∨
  ∃ b', base' = some ⟨b', 0, none⟩ ∧ Blk w' b' e (xs ++ j') ∧
    ((base = some ⟨b', 0, none⟩ ∧ w'.heap.size = w.heap.size ∧ ∀ i, i ≠ b' → w'.heap[i]? = w.heap[i]?) ∨ (w.heap.size ≤ b' ∧ Ext w w'))

theorem Src.keeps {sz : Nat} {w w' : World} {x : Value} {m : Nat} {ys : List Value} (h : Src sz w x m ys) (k : ∀ a v, w.cell? a = some v → w'.cell? a = some v) : Src sz w' x m ys :=
  ⟨h.1, h.2.imp id fun ⟨a, c, h1, h2⟩ => ⟨a, c, h1, fun j v hj => k _ _ (h2 j v hj)⟩⟩

theorem Src.first {P : Program} {sz : Nat} {w : World} {x : Value} {m : Nat} {ys : List Value} (h : Src sz w x m ys) : (Builtin.firstCells sz m x).run P w = .ok ys.toArray w := by
  obtain ⟨hl, ⟨rfl, rfl⟩ | ⟨a, c, rfl, hc⟩⟩ := h
  · have : ys = [] := by simpa using hl
    subst this; rfl
  · exact run_firstCells_some (P := P) w sz m a m c ys hl hc

theorem Src.len {P : Program} {sz : Nat} {w : World} {x : Value} {m : Nat} {ys : List Value} (h : Src sz w x m ys) : (Builtin.lenOf x).run P w = .ok m w := by
  obtain ⟨_, ⟨rfl, rfl⟩ | ⟨a, c, rfl, _⟩⟩ := h <;> rfl

theorem RUN_app {P : Program} {t e ty : TypeId} {sz bs : Nat} (E : Elem P t e sz bs) (hsz : 0 < sz) {w : World} {base : Option Addr} {n cap : Nat} {xs j : List Value}
    (hb : (base = none ∧ n = 0 ∧ cap = 0 ∧ xs = []) ∨ ∃ b, base = some ⟨b, 0, none⟩ ∧ Blk w b e (xs ++ j) ∧ xs.length = n * sz ∧ cap * sz = xs.length + j.length)
    {x : Value} {m : Nat} {ys : List Value} (hx : Src sz w x m ys) (one : ∀ v ∈ ys, v.oneCell' = true) (hlen : (n + m) * bs ≤ 140737488355328) (hmax : n + m ≤ 4611686018427387904)
    {K : Value → World → Prop} (hK : ∀ w' base' j' cap', App w w' base base' e (xs ++ ys) j' → cap' * sz = (n + m) * sz + j'.length → K (.slice base' (n + m) cap') w') :
    RUN P (Builtin.append_ #[t, t] ty #[.slice base n cap, x]) w K := by
  obtain ⟨i, z, ht, hi, hz, rfl, rfl, hzs⟩ := E.ex
  unfold RUN
  by_cases hroom : n + m ≤ cap
  · rcases hb with ⟨rfl, rfl, rfl, rfl⟩ | ⟨b, rfl, hblk, hxl, hcap⟩
    · obtain rfl : m = 0 := by omega
      have hy : ys = [] := by have := hx.1; simpa using this
      subst hy
      have hr : (Builtin.append_ #[t, t] ty #[.slice none 0 0, x]).run P w = .ok (.slice none 0 0) w := by
        have hf := hx.first (P := P); have hl := hx.len (P := P)
        simp [Builtin.append_, run_underlying ht, sizeOf, typeInfo, hi, hl, hf]
      rw [hr]
      exact ⟨Io.refl _, hK w none [] 0 (.inl ⟨rfl, rfl, rfl, rfl, rfl⟩) (by simp)⟩
    · have hyl : ys.length = m * i.size := hx.1
      have hfit : ys.length ≤ j.length := by
        have h1 : (n + m) * i.size ≤ cap * i.size := Nat.mul_le_mul_right _ hroom
        rw [Nat.add_mul] at h1; omega
      have hr : (Builtin.append_ #[t, t] ty #[.slice (some ⟨b, 0, none⟩) n cap, x]).run P w = .ok (.slice (some ⟨b, 0, none⟩) (n + m) cap) (w.setCells b (n * i.size) ys) := by
        have hf := hx.first (P := P); have hl := hx.len (P := P)
        have hcell : ∀ k, k < ys.length → (w.cell? ⟨b, n * i.size + k, none⟩).isSome = true := fun k hk => by
          rw [hblk.cell, List.getElem?_eq_getElem (by simp; omega)]; rfl
        have hst := run_storeCells_cells (P := P) b (n * i.size) ys 0 w (by simpa using hcell) (fun k _ => hblk.frozen _) one
        simp only [Nat.add_zero] at hst
        simp [Builtin.append_, run_underlying ht, sizeOf, typeInfo, hi, hl, hroom, hf, add_lit0, hst]
      rw [hr]
      refine ⟨setCells_io _ _ _ _, ?_⟩
      refine hK _ _ (j.drop ys.length) _ (.inr ⟨b, rfl, ?_, .inl ⟨rfl, setCells_size _ _ _ _, fun k hk => setCells_other _ _ _ _ _ hk⟩⟩) ?_
      · rw [← hxl]; exact Blk.sets ys w xs j hblk hfit
      · rw [hcap, hxl, List.length_drop, Nat.add_mul]; omega
  · have hnm : cap < n + m := by omega
    have hfits := growslice_fits hnm hlen
    have hf := (hx.keeps (w' := w.drew) (fun a v h => h)).first (P := P)
    have hl := hx.len (P := P)
    have hfo : (Builtin.firstCells i.size n (.slice base n cap)).run P w.drew = .ok xs.toArray w.drew := by
      rcases hb with ⟨rfl, rfl, rfl, rfl⟩ | ⟨b, rfl, hblk, hxl, hcap⟩
      · rfl
      · refine run_firstCells_some (P := P) w.drew i.size n _ n cap xs hxl (fun k v hk => ?_)
        rw [add_lit0]
        show w.cell? _ = _
        rw [hblk.cell, Nat.zero_add, List.getElem?_append_left (List.getElem?_eq_some_iff.1 hk).1, hk]
    have hr : (Builtin.append_ #[t, t] ty #[.slice base n cap, x]).run P w = .ok (.slice (some ⟨w.heap.size, 0, none⟩) (n + m) (grownCap w (n + m) cap e))
        (w.drew.alloc (.cells (xs.toArray ++ ys.toArray ++ Builtin.zeroCells z.cells (grownCap w (n + m) cap e - (n + m))) e)) := by
      have h63' : ¬ (9223372036854775807 < ((n : Int) + (m : Int))) := by omega
      have h48' : ¬ (281474976710656 < Builtin.nextslicecap (n + m) cap * i.bytes) := by omega
      simp [Builtin.append_, run_underlying ht, sizeOf, typeInfo, zeroValue, hi, hz, hl, hroom, h63', h48', Question.forced, hf, hfo, newRow, grownCap]
      congr 2
      apply Array.ext'
      simp [List.append_assoc]
    rw [hr]
    have hge := grownCap_ge w (n + m) cap e
    have hxl : xs.length = n * i.size := by
      rcases hb with ⟨_, rfl, _, rfl⟩ | ⟨_, _, _, h, _⟩
      · simp
      · exact h
    refine ⟨⟨rfl, rfl⟩, ?_⟩
    refine hK _ _ ((Builtin.zeroCells z.cells (grownCap w (n + m) cap e - (n + m))).toList) _ (.inr ⟨w.heap.size, rfl, ?_, .inr ⟨Nat.le_refl _, (Ext.refl w).drew.alloc _⟩⟩) ?_
    · have := Blk.new w.drew e (xs ++ ys ++ (Builtin.zeroCells z.cells (grownCap w (n + m) cap e - (n + m))).toList)
      have e1 : (xs ++ ys ++ (Builtin.zeroCells z.cells (grownCap w (n + m) cap e - (n + m))).toList).toArray = xs.toArray ++ ys.toArray ++ Builtin.zeroCells z.cells (grownCap w (n + m) cap e - (n + m)) := by
        apply Array.ext'; simp
      rw [e1] at this
      exact this
    · rw [Array.length_toList, size_zeroCells, hzs, ← Nat.add_mul]; congr 1; omega
where
  add_lit0 {b o n : Nat} : (⟨b, o, none⟩ : Addr).add n = ⟨b, o + n, none⟩ := by
    unfold Addr.add; split
    · rename_i h; subst h; rfl
    · rfl

end Go.GX
namespace Go.GX
open Go

theorem madeCells_one (z : Value) (h : z.cells = #[z]) (n : Nat) : madeCells z.cells (n * 1) = (List.replicate n z).toArray := by
  apply Array.ext'
  rw [h]
  simp only [madeCells, Nat.mul_one]
  apply List.ext_getElem?
  intro i
  by_cases hi : i < n
  · simp [hi, Nat.mod_one]
  · simp [hi]

/-- A slice that is made, of one-cell elements. -/
theorem RUN_make {P : Program} {t e : TypeId} {z : Value} {bs : Nat} (E : ∃ i, P.underlying t = some (.slice e) ∧ P.info? e = some i ∧ i.zero = some z ∧ i.size = 1 ∧ i.bytes = bs) (hz : z.cells = #[z]) {w : World} {n : Nat} (hn : n * bs ≤ 281474976710656) (h63 : n ≤ 4611686018427387904)
    {K : Value → World → Prop} (hK : K (.slice (some ⟨w.heap.size, 0, none⟩) n n) (w.alloc (.cells (List.replicate n z).toArray e))) : RUN P (Instr.makeSlice t (.int .i64 n) (.int .i64 n)) w K := by
  obtain ⟨i, ht, hi, hz', hs, hb⟩ := E
  have hby : (i.bytes : Int) * (n : Int) ≤ 281474976710656 := by
    rw [hb, Int.mul_comm]
    have : ((n * bs : Nat) : Int) ≤ 281474976710656 := by omega
    rwa [Int.natCast_mul] at this
  have hr := run_make (P := P) w t e i z ht hi hz' .i64 .i64 n n (by omega) (Int.le_refl _) hby (by omega)
  unfold RUN
  rw [hr, hs, Int.toNat_natCast, madeCells_one z hz]
  exact ⟨⟨rfl, rfl⟩, hK⟩

/-- What is copied into the front of a known block. -/
theorem RUN_copy {P : Program} {t e ty : TypeId} (E : P.underlying t = some (.slice e) ∧ (P.info? e).map (·.size) = some 1) {w : World} {b n cap : Nat} {cs : List Value} (hb : Blk w b e cs) (hlen : n ≤ cs.length) {x : Value} {m : Nat} {ys : List Value} (hx : Src 1 w x m ys)
    (one : ∀ v ∈ ys, v.oneCell' = true) {K : Value → World → Prop}
    (hK : ∀ w', Blk w' b e (ys.take n ++ cs.drop (min m n)) → w'.heap.size = w.heap.size → (∀ i, i ≠ b → w'.heap[i]? = w.heap[i]?) → K (.int .i64 ((min m n : Nat) : Int)) w') : RUN P (Builtin.copy_ #[t, t] ty #[.slice (some ⟨b, 0, none⟩) n cap, x]) w K := by
  have hl := hx.1
  rw [Nat.mul_one] at hl
  unfold RUN
  rcases hx.2 with ⟨rfl, rfl⟩ | ⟨a, c, rfl, hc⟩
  · have : ys = [] := List.length_eq_zero_iff.1 hl
    subst this
    rw [run_copy_none w t t ty e _ _ _ _ _ _ E.1 E.2 (by simp)]
    have := hK w (by simpa using hb) rfl (fun _ _ => rfl)
    refine ⟨Io.refl _, ?_⟩
    simpa [goInt] using this
  · have hmin : (ys.take n).length = Nat.min m n := by rw [List.length_take, hl]; exact Nat.min_comm _ _
    rw [run_copy_cells w t t ty e b 0 n cap a m c (ys.take n) E.1 E.2 hmin
      (fun k v hk => hc k v (by rw [List.getElem?_take] at hk; split at hk
                                · exact hk
                                · cases hk))
      (fun k hk => by rw [Nat.zero_add, hb.cell, List.getElem?_eq_getElem (by rw [hmin] at hk; have : Nat.min m n ≤ n := Nat.min_le_right _ _; omega)]; rfl)
      (fun k _ => hb.frozen _) (fun v hv => one v (List.mem_of_mem_take hv))]
    have h1 := Blk.sets_at (ys.take n) w cs 0 hb (by rw [hmin]; have : Nat.min m n ≤ n := Nat.min_le_right _ _; omega)
    rw [hmin] at h1
    have := hK (w.setCells b 0 (ys.take n)) (by simpa using h1) (setCells_size _ _ _ _) (fun i hi => setCells_other _ _ _ _ _ hi)
    rw [hmin]
    exact ⟨setCells_io _ _ _ _, this⟩
end Go.GX
/- The contracts of the machine's functions: jumps, frames that go, what is read and kept. -/
namespace Go.GX
open Go

theorem Elem.of {P : Program} {t e : TypeId} {z : Value} {sz bs : Nat} (ht : P.underlying t = some (.slice e)) (hi : (P.info? e).map (fun i => (i.zero, i.size, i.bytes)) = some (some z, sz, bs)) (hz : z.cells.size = sz) : Elem P t e sz bs := by
  cases h : P.info? e with
  | none => rw [h] at hi; cases hi
  | some i =>
    rw [h] at hi
    simp only [Option.map_some, Option.some.injEq, Prod.mk.injEq] at hi
    exact ⟨i, z, ht, h, hi.1, hi.2.1, hi.2.2, hz⟩

/-- A slice up to a place. -/
theorem SLC_hi {n b o len cap : Nat} {k : IntKind} {h : Int} (hh : 0 ≤ h ∧ h ≤ cap) {K : Value → Prop} : SLC (.sl n) (.slice (some ⟨b, o, none⟩) len cap) none (some (.int k h)) K = K (.slice (some ⟨b, o, none⟩) h.toNat cap) := by
  simp only [SLC, sliceV, bound, VO]
  rw [if_pos hh]
  have : (if cap = 0 then some (⟨b, o, none⟩ : Addr) else (some (⟨b, o, none⟩ : Addr)).map (·.add (0 * n))) = some ⟨b, o, none⟩ := by
    split
    · rfl
    · rw [Nat.zero_mul]; rfl
  show K (.slice (if cap = 0 then some (⟨b, o, none⟩ : Addr) else (some (⟨b, o, none⟩ : Addr)).map (·.add (0 * n))) (h.toNat - 0) (cap - 0)) = _
  rw [this]; rfl

section
variable {c : Ctx} {L : Lay} {s : Vm} {w w' : World} {f : Fr} {fs : List Fr} {p : Nat × Nat} {ps : List (Nat × Nat)} {fa : Addr}

/-- The frame that runs stands in another place. -/
theorem Top.frame (t : Top c L s w f fs p ps fa) {f' : Fr} (e0 : XE c w') (hb : ∀ b ∈ L.all, b ≠ p.1 → w'.heap[b]? = w.heap[b]?) (hblk : Blk w' p.1 132 (frC fa f' p)) (hsl : f'.slots = f.slots) (hfn : f'.fn = f.fn)
    (hI : I64 f'.block) (hpos : 0 ≤ f'.pos ∧ f'.pos ≤ 562949953421312) : MS c { L with fr := (p.1, p.2) :: ps } { s with frs := f' :: fs } w' := by
  refine t.setTop e0 (fun b h1 h2 _ => hb b h1 h2) (.inl rfl) ⟨⟨fa, t.spot, by rw [hfn]; exact t.fn, hblk⟩, ?_⟩ ?_
  · rw [hsl]; exact t.slots.same (hb _ t.pm.2.1 (fun e => t.pm.2.2.2.2 e.symm))
  · refine t.ms.inv.setTop t.frs (by rw [hsl]) hfn ?_ hI hpos
    rw [hsl]; exact t.ms.inv.slots f (by rw [t.frs]; simp)

theorem Top.place (t : Top c L s w f fs p ps fa) {b q : Int} (hI : I64 b) (hpos : 0 ≤ q ∧ q ≤ 562949953421312) :
    MS c { L with fr := (p.1, p.2) :: ps } { s with frs := { f with block := b, pos := q } :: fs } ((w.setCell ⟨p.1, 1, none⟩ (vInt b)).setCell ⟨p.1, 2, none⟩ (vInt q)) := by
  have hn := t.ms.new _ t.pm.1
  refine t.frame (f' := { f with block := b, pos := q }) ((t.ms.xe.setCell hn _).setCell hn _) (fun x _ hx => ?_) ?_ rfl rfl hI hpos
  · rw [setCell_other (fun e => hx e.symm), setCell_other (fun e => hx e.symm)]
  · exact (t.blk.set (o := 1) (vInt b)).set (o := 2) (vInt q)

theorem Top.at (t : Top c L s w f fs p ps fa) {q : Int} (hpos : 0 ≤ q ∧ q ≤ 562949953421312) :
    MS c { L with fr := (p.1, p.2) :: ps } { s with frs := { f with pos := q } :: fs } (w.setCell ⟨p.1, 2, none⟩ (vInt q)) := by
  have hn := t.ms.new _ t.pm.1
  refine t.frame (f' := { f with pos := q }) (t.ms.xe.setCell hn _) (fun x _ hx => setCell_other (fun e => hx e.symm) _) ?_ rfl rfl (t.ms.inv.block f (by rw [t.frs]; simp)) hpos
  exact t.blk.set (o := 2) (vInt q)

/-- An instruction's fields. -/
theorem MS.instr (h : MS c L s w) {a : Addr} {x : InstrS} (hx : InstrAt c.w0 a x) : InstrAt w a x := hx.ext h.ext

theorem Top.pop_sub (t : Top c L s w f fs p ps fa) {b : Nat} {j : List Value} (hfb : L.fb = some (b, j)) : ({ L with fr := ps, fb := some (b, vPtr p.1 :: j) } : Lay).all.Sublist L.all := by
  simp only [Lay.all, Lay.hpB, Lay.frB, Lay.obB, t.fr, hfb, List.map_cons, Option.map_some, Option.toList]
  refine List.Sublist.cons_cons _ (List.Sublist.append (List.Sublist.refl _) (List.Sublist.append ?_ (List.Sublist.refl _)))
  refine List.Sublist.append (List.Sublist.append ?_ ?_) (List.Sublist.refl _)
  · exact List.sublist_cons_self _ _
  · exact List.sublist_cons_self _ _

/-- The frame that runs goes. -/
theorem Top.pop (t : Top c L s w f fs p ps fa) {b : Nat} {j : List Value} (hfb : L.fb = some (b, j)) {w' : World} (e0 : XE c w') (hb : ∀ x ∈ L.all, x ≠ L.m → w'.heap[x]? = w.heap[x]?)
    (hblk : Blk w' L.m 78 (machC c { L with fr := ps, fb := some (b, vPtr p.1 :: j) } { s with words := s.words - (f.fn.slots + 2), frs := fs })) :
    MS c { L with fr := ps, fb := some (b, vPtr p.1 :: j) } { s with words := s.words - (f.fn.slots + 2), frs := fs } w' := by
  have h := t.ms
  have hnd := h.nodup
  have hm : ∀ x ∈ L.hpB ++ (L.frB ++ L.obB), x ∈ L.all ∧ x ≠ L.m := fun x hx => ⟨by rw [Lay.all]; exact List.mem_cons_of_mem _ hx, fun e => by
    rw [Lay.all, List.nodup_cons] at hnd; exact hnd.1 (e ▸ hx)⟩
  have hsame : ∀ S : List Nat, (∀ x ∈ S, x ∈ L.hpB ++ (L.frB ++ L.obB)) → SameOn S w w' := fun S hS x hx => hb x (hm x (hS x hx)).1 (hm x (hS x hx)).2
  have hinv := h.inv
  have hperm : L.frB = p.1 :: (ps.map (·.1) ++ p.2 :: (ps.map (·.2) ++ [b])) := by simp [Lay.frB, t.fr, hfb]
  have hsub := t.pop_sub hfb
  refine ⟨h.ok, ?_, e0, hblk, ?_, ?_, ?_, hsub.nodup hnd, fun x hx => h.new x (hsub.subset hx)⟩
  · have h1 := hinv.words
    have h2 := hinv.room f (by rw [t.frs]; simp)
    rw [t.frs] at h1
    simp only [frsWords] at h1
    refine ⟨hinv.heap, hinv.hlays, ?_, ?_, ?_, ?_, ?_, ?_, ?_, hinv.steps, hinv.made, hinv.swept, hinv.inp, hinv.output, hinv.kind⟩
    · show s.words - (f.fn.slots + 2) = frsWords fs
      omega
    · have := hinv.stack
      show s.words - (f.fn.slots + 2) ≤ c.stack
      omega
    · exact fun g hg => hinv.room g (by rw [t.frs]; simp [show g ∈ fs from hg])
    · exact fun g hg => hinv.fns g (by rw [t.frs]; simp [show g ∈ fs from hg])
    · exact fun g hg => hinv.slots g (by rw [t.frs]; simp [show g ∈ fs from hg])
    · exact fun g hg => hinv.block g (by rw [t.frs]; simp [show g ∈ fs from hg])
    · exact fun g hg => hinv.pos g (by rw [t.frs]; simp [show g ∈ fs from hg])
  · refine HpAt.same (w := w) ⟨h.hp.blk, h.hp.words, h.hp.heads, h.hp.lays⟩ (hsame _ fun x hx => ?_)
    exact List.mem_append_left _ hx
  · refine FrsAt.same (w := w) ⟨?_, ?_, ?_, fun hn => by cases hn⟩ (hsame _ fun x hx => ?_)
    · have := h.frs.len; rw [t.frs, t.fr] at this; simpa using this
    · intro i g r hg hr
      exact h.frs.each (i + 1) g r (by rw [t.frs]; simpa using hg) (by rw [t.fr]; simpa using hr)
    · have hback := h.frs.back
      rw [hfb, t.fr] at hback
      show Blk w b 125 _
      have : Blk w b 125 _ := hback
      simpa using this
    · rw [hperm]
      simp only [Lay.frB, List.mem_append, List.mem_cons, Option.map_some, Option.toList] at hx ⊢
      rcases hx with (hx | hx) | hx
      · exact .inr (.inl (.inr (.inl hx)))
      · exact .inr (.inl (.inr (.inr (.inr (.inl hx)))))
      · exact .inr (.inl (.inr (.inr (.inr (.inr hx)))))
  · refine OutAt.same (w := w) ⟨h.out.back, h.out.nil, h.out.u8⟩ (hsame _ fun x hx => ?_)
    exact List.mem_append_right _ (List.mem_append_right _ hx)
end
end Go.GX
namespace Go.Proofs.YtgnfodphfgmdlaaGreat
open Go Go.GX

theorem elem130 : Elem Tryz.prog 130 166 1 8 := Elem.of (z := .int .u64 0) (by kernel_rfl) (by kernel_rfl) rfl
theorem elem76 : Elem Tryz.prog 76 125 1 8 := Elem.of (z := .pointer none) (by kernel_rfl) (by kernel_rfl) rfl
theorem elem34 : Elem Tryz.prog 34 5 1 1 := Elem.of (z := .int .u8 0) (by kernel_rfl) (by kernel_rfl) rfl
theorem elem119 : Elem Tryz.prog 119 121 2 16 := Elem.of (z := .agg #[.int .i64 0, .int .i64 0]) (by kernel_rfl) (by kernel_rfl) rfl

section
variable {c : Ctx} {L : Lay} {s : Vm} {w : World} {K : Value → World → Prop} {X : List PanicEntry → World → Prop}
  {f : Fr} {fs : List Fr} {p : Nat × Nat} {ps : List (Nat × Nat)} {fa : Addr}

/-- jump -/
theorem c90 (h : MS c L s w) (b : Int) (hb : I64 b) (hK : DO c L w (jumpP b s) vUnit K X) : CAL Tryz.prog 90 #[vPtr L.m, vInt b] w K X := n90 <| by
  unfold N90
  cases hf : s.frs with
  | nil => unfold jumpP at hK; rw [hf] at hK; exact absurd hK id
  | cons f fs =>
    obtain ⟨p, ps, fa, t⟩ := h.top hf
    unfold jumpP at hK; rw [hf] at hK
    refine c59 t fun w1 h1 e1 => ?_
    refine c59 (t.same h1 e1) fun w2 h2 e2 => ?_
    have t2 := t.same h2 (e1.trans e2)
    rw [NC_ptr, FA_at, FA_at]
    refine ST_one t2.blk (by simp [frC]) rfl rfl ?_
    rw [NC_ptr, FA_at, FA_at]
    refine ST_one (t2.blk.set (o := 1) (vInt b)) (by simp [frC]) rfl rfl ?_
    refine hK _ _ (by rfl) ?_ (t2.place hb (by omega))
    exact (Step.ext (e1.trans e2)).trans ((Step.cell t2.pm.1 (fun b hb => hb) _).trans (Step.cell t2.pm.1 (fun b hb => by rwa [t2.all_same] at hb) _))

/-- pop -/
theorem c94 (h : MS c L s w) (hK : DO c L w (popP s) vUnit K X) : CAL Tryz.prog 94 #[vPtr L.m] w K X := n94 <| by
  unfold N94
  cases hf : s.frs with
  | nil => unfold popP at hK; rw [hf] at hK; exact absurd hK id
  | cons f fs =>
    obtain ⟨p, ps, fa, t⟩ := h.top hf
    unfold popP at hK; rw [hf] at hK
    have hd := h.drew
    rw [NC_ptr, FA_at]
    refine LD_m hd (o := 8) rfl ?_
    refine c59 (t.same hd (Ext.refl w).drew) fun w1 h1 e1 => ⟨e1.keeps, ?_⟩
    have t1 := (t.same hd (Ext.refl w).drew).same h1 e1
    have hfn := t1.fn.ext h1.ext
    have hroom := h.inv.room f (by rw [hf]; simp)
    have hwords := h.inv.words
    have hstack := h.inv.stack
    have hst := h.ok.ok.stack.2
    have hnn := frsWords_nonneg fs
    rw [hf] at hwords; simp only [frsWords] at hwords
    have hlen := h1.inv.frs_len h1.ok.ok
    obtain ⟨b, j, hfb⟩ : ∃ b j, L.fb = some (b, j) := by
      cases hb : L.fb with
      | none => have := h.frs.nil hb; rw [hf] at this; cases this
      | some q => exact ⟨q.1, q.2, rfl⟩
    rw [NC_ptr, FA_at, FA_at]
    refine LD_blk t1.blk (v := .pointer (some fa)) rfl ?_
    obtain ⟨fab, fao, fasp⟩ := fa
    have : fasp = none := t.spot
    subst this
    rw [NC_ptr, FA_at]
    refine LD_int hfn.slots ?_
    rw [BIN_add, wrap64 _ (by omega), BIN_sub, wrap64 _ (by omega), NC_ptr, FA_at]
    refine ST_one h1.mach (by simp [machC]) rfl rfl ?_
    have hm2 := h1.mach.set (o := 8) (vInt (s.words - (f.fn.slots + 2)))
    have hm2' : Blk (w1.setCell ⟨L.m, 8, none⟩ (vInt (s.words - (f.fn.slots + 2)))).drew L.m 78 ((machC c L s).set 8 (vInt (s.words - (f.fn.slots + 2)))) := hm2
    rw [NC_ptr, FA_at]
    refine LD_blk hm2' (v := grown L.fb s.frs.length) rfl ?_
    rw [NC_ptr, FA_at]
    refine LD_blk hm2' (v := grown L.fb s.frs.length) rfl ?_
    rw [hfb]
    show LEN (.sl 1) (.slice _ _ _) _
    have hpos : 0 < s.frs.length := by rw [hf]; simp
    rw [LEN_slice, BIN_sub, wrap64 _ (by omega)]
    have el1 : s.frs.length = fs.length + 1 := by rw [hf]; rfl
    show SLC (.sl 1) (.slice (some ⟨b, 0, none⟩) _ _) none _ _
    rw [SLC_hi (by omega)]
    have e2 : ((s.frs.length : Int) - 1).toNat = fs.length := by omega
    have e3 : s.frs.length + j.length = fs.length + (j.length + 1) := by omega
    rw [e2, e3]
    rw [NC_ptr, FA_at]
    refine ST_one hm2' (by simp [machC]) rfl rfl ?_
    have hM : L.m ∈ L.all := by simp [Lay.all]
    refine hK _ _ (by rfl) ?_ (t1.pop hfb ?_ ?_ ?_)
    · refine (Step.ext ((Ext.refl w).drew.trans e1)).trans ((Step.cell (L' := L) (x := ⟨L.m, 8, none⟩) hM (fun b hb => hb) _).trans ((Step.ext (Ext.refl _).drew).trans (Step.cell (x := ⟨L.m, 7, none⟩) hM (fun x hx => ?_) _)))
      exact (t1.pop_sub hfb).subset hx
    · exact (h1.xe.setCell (h1.new _ (by simp [Lay.all])) _).drew.setCell (h1.new _ (by simp [Lay.all])) _
    · intro x hx hne
      rw [setCell_other (fun e => hne e.symm)]
      show (w1.setCell _ _).heap[x]? = _
      rw [setCell_other (fun e => hne e.symm)]
    · exact hm2'.set (o := 7) _
end
end Go.Proofs.YtgnfodphfgmdlaaGreat
/- The contracts of the machine's functions: the call that is waited for, what is read. -/
namespace Go.GX
open Go

/-- A slice of the world ahead is loaded. -/
theorem LD_sl0 {w0 w : World} {K : Value → Prop} {α : Type} {a : Addr} {sz : Nat} {R : Addr → α → Prop} {l : List α} (e : Ext w0 w) (h : SlAt w0 sz R a l) (hK : ∀ v, Sl sz R v l → K v) : LD w (.pointer (some a)) K := by
  obtain ⟨v, h1, h2⟩ := h
  rw [LD_some (e.cell h1)]; exact hK v h2

/-- A growing slice's elements, as what is appended. -/
theorem GrAt.src {w : World} {o : Option (Nat × List Value)} {e : TypeId} {xs : List Value} (h : GrAt w o e xs) : Src 1 w (grown o xs.length) xs.length xs := by
  refine ⟨by simp, ?_⟩
  cases o with
  | none => have : xs = [] := h; subst this; exact .inl ⟨rfl, rfl⟩
  | some q =>
    refine .inr ⟨⟨q.1, 0, none⟩, _, rfl, fun j v hj => ?_⟩
    have h : Blk w q.1 e (xs ++ q.2) := h
    rw [add_lit, h.cell, Nat.zero_add, List.getElem?_append_left (List.getElem?_eq_some_iff.1 hj).1, hj]

theorem Blk.src {w : World} {b : Nat} {e : TypeId} {xs : List Value} (h : Blk w b e xs) (c : Nat) : Src 1 w (.slice (some ⟨b, 0, none⟩) xs.length c) xs.length xs :=
  ⟨by simp, .inr ⟨_, _, rfl, fun j v hj => by rw [add_lit, h.cell, Nat.zero_add, hj]⟩⟩

/-- What an append leaves: in its place, or in a block that is new. -/
def AppO (w w' : World) (o o' : Option (Nat × List Value)) : Prop :=
  (∃ b', o'.map (·.1) = some b' ∧ o.map (·.1) = some b' ∧ w'.heap.size = w.heap.size ∧ ∀ i, i ≠ b' → w'.heap[i]? = w.heap[i]?) ∨
  ((∀ b' ∈ (o'.map (·.1)).toList, w.heap.size ≤ b') ∧ Ext w w')

/-- All blocks of a growing slice are newer than a world. -/
def Own (w0 : World) (o : Option (Nat × List Value)) : Prop := ∀ b ∈ (o.map (·.1)).toList, w0.heap.size ≤ b

theorem AppO.ext {w0 w w' : World} {o o' : Option (Nat × List Value)} (h : AppO w w' o o') (e : Ext w0 w) (ho : Own w0 o) : Ext w0 w' ∧ Own w0 o' := by
  rcases h with ⟨b', h1, h2, h3, h4⟩ | ⟨h1, h2⟩
  · have hb : w0.heap.size ≤ b' := ho b' (by rw [h2]; simp)
    exact ⟨⟨by rw [h3]; exact e.size, fun i hi => by rw [h4 i (by omega), e.same i hi]⟩, fun b hb' => by rw [h1] at hb'; simp at hb'; subst hb'; exact hb⟩
  · exact ⟨e.trans h2, fun b hb => Nat.le_trans e.size (h1 b hb)⟩

theorem RUN_app1 {P : Program} {t e ty : TypeId} {bs : Nat} (E : Elem P t e 1 bs) {w : World} {o : Option (Nat × List Value)} {xs : List Value} (hg : GrAt w o e xs) {x : Value} {m : Nat} {ys : List Value} (hx : Src 1 w x m ys)
    (one : ∀ v ∈ ys, v.oneCell' = true) (hlen : (xs.length + m) * bs ≤ 140737488355328) (hmax : xs.length + m ≤ 4611686018427387904)
    {K : Value → World → Prop} (hK : ∀ w' o', GrAt w' o' e (xs ++ ys) → AppO w w' o o' → K (grown o' (xs.length + m)) w') : RUN P (Builtin.append_ #[t, t] ty #[grown o xs.length, x]) w K := by
  have key : ∀ (base : Option Addr) (cap : Nat) (j : List Value), grown o xs.length = .slice base xs.length cap →
      ((base = none ∧ xs.length = 0 ∧ cap = 0 ∧ xs = [] ∧ o = none) ∨ ∃ b, o = some (b, j) ∧ base = some ⟨b, 0, none⟩ ∧ Blk w b e (xs ++ j) ∧ xs.length = xs.length * 1 ∧ cap * 1 = xs.length + j.length) →
      RUN P (Builtin.append_ #[t, t] ty #[grown o xs.length, x]) w K := by
    intro base cap j heq hb
    rw [heq]
    refine RUN_app (j := j) E (by omega) (hb.imp (fun h => ⟨h.1, h.2.1, h.2.2.1, h.2.2.2.1⟩) (fun ⟨b, _, h2, h3⟩ => ⟨b, h2, h3⟩)) hx one hlen hmax fun w' base' j' cap' ha hc => ?_
    rw [Nat.mul_one, Nat.mul_one] at hc
    rcases ha with ⟨rfl, hbn, hxy, rfl, rfl⟩ | ⟨b', rfl, hblk, hcase⟩
    · have := hK w' none hxy (.inr ⟨by simp, Ext.refl _⟩)
      have hz : xs.length + m = 0 := by
        have h1 : (xs ++ ys).length = 0 := by rw [hxy]; rfl
        rw [List.length_append, hx.1, Nat.mul_one] at h1; exact h1
      rw [hz] at this hc ⊢
      simp at hc; subst hc
      exact this
    · have := hK w' (some (b', j')) hblk ?_
      · rw [hc]; exact this
      · rcases hcase with ⟨h1, h2, h3⟩ | ⟨h1, h2⟩
        · left
          rcases hb with ⟨h, _⟩ | ⟨b, ho, hb2, _⟩
          · rw [h] at h1; cases h1
          · rw [hb2] at h1
            have : b = b' := by injection h1 with h1; injection h1
            subst this
            exact ⟨b, rfl, by rw [ho]; rfl, h2, h3⟩
        · right; exact ⟨by simpa using h1, h2⟩
  cases o with
  | none => have : xs = [] := hg; subst this; exact key none 0 [] rfl (.inl ⟨rfl, rfl, rfl, rfl, rfl⟩)
  | some q => exact key (some ⟨q.1, 0, none⟩) (xs.length + q.2.length) q.2 rfl (.inr ⟨q.1, rfl, rfl, hg, by simp, by simp⟩)

/-- A slice literal of one cell. -/
theorem BSLC_one {P : Program} {t e : TypeId} {z : Value} (h : bslP P t = some (.mk e 1 [z])) (v : Value) (hv : v.cells = #[v]) (w : World) (K : Value → World → Prop) :
    BSLC P t 1 [(0, v)] w K = K (.slice (some ⟨w.heap.size, 0, none⟩) 1 1) (w.alloc (.cells [v].toArray e)) := by
  unfold BSLC BSL
  rw [h]
  simp only [fillL, zeroRow, hv]
  exact propext ⟨fun h => h.2, fun h => ⟨by omega, h⟩⟩

theorem readP_append : ∀ (a b : List Int) (s : Vm), readP (a ++ b) s = (readP a s).bind fun xs s => (readP b s).bind fun ys s => .ok (xs ++ ys) s
  | [], b, s => by
    simp only [List.nil_append, readP, Res.bind_ok]
    cases readP b s <;> rfl
  | i :: a, b, s => by
    simp only [List.cons_append, readP]
    cases getP i s with
    | bad => rfl
    | stop => rfl
    | ok x s =>
      simp only [Res.bind_ok]
      rw [readP_append a b s]
      cases readP a s with
      | bad => rfl
      | stop => rfl
      | ok xs s =>
        simp only [Res.bind_ok]
        cases readP b s <;> rfl

theorem getP_state {i : Int} {s s' : Vm} {x : Nat} (h : getP i s = .ok x s') : s' = s := by
  unfold getP at h
  split at h
  · cases h
  · split at h
    · cases h; rfl
    · cases h
theorem getP_stop {i k : Int} {s s' : Vm} (h : getP i s = .stop k s') : k = 6 ∧ s' = s := by
  unfold getP at h
  split at h
  · cases h
  · split at h
    · cases h
    · cases h; exact ⟨rfl, rfl⟩
end Go.GX
namespace Go.Proofs.YtgnfodphfgmdlaaGreat
open Go Go.GX

theorem bsl130 : bslP Tryz.prog 130 = some (.mk 166 1 [.int .u64 0]) := by kernel_rfl
theorem bsl76 : bslP Tryz.prog 76 = some (.mk 125 1 [.pointer none]) := by kernel_rfl
theorem bsl34 : bslP Tryz.prog 34 = some (.mk 5 1 [.int .u8 0]) := by kernel_rfl

section
variable {c : Ctx} {L : Lay} {s : Vm} {w : World} {K : Value → World → Prop} {X : List PanicEntry → World → Prop}
  {f : Fr} {fs : List Fr} {p : Nat × Nat} {ps : List (Nat × Nat)} {fa : Addr}

/-- pending -/
theorem c97 (t : Top c L s w f fs p ps fa) {i : InstrS} (hi : pendingP f = some i)
    (hK : ∀ b o, InstrAt c.w0 ⟨b, o, none⟩ i → ∀ w', MS c L s w' → Ext w w' → K (.pointer (some ⟨b, o, none⟩)) w') : CAL Tryz.prog 97 #[vPtr p.1] w K X := n97 <| by
  unfold N97
  have hd := t.same t.ms.drew (Ext.refl w).drew
  have hfn := hd.fn
  obtain ⟨fab, fao, fasp⟩ := fa
  have : fasp = none := t.spot
  subst this
  unfold pendingP at hi
  cases hb : nth f.fn.blocks f.block with
  | none => rw [hb] at hi; cases hi
  | some bl =>
    rw [hb] at hi
    have hi : nth bl.code (f.pos - 1) = some i := hi
    have hb' := nth_some hb
    have hi' := nth_some hi
    have hpos := t.ms.inv.pos f (by rw [t.frs]; simp)
    rw [NC_ptr, FA_at, FA_at]
    refine LD_blk hd.blk (v := .pointer (some ⟨fab, fao, none⟩)) rfl ?_
    rw [NC_ptr, FA_at]
    have hext := hd.ms.ext
    refine LD_sl0 hext hfn.blocks fun bv hbs => ?_
    rw [NC_ptr, FA_at, FA_at]
    refine LD_blk hd.blk (v := vInt f.block) rfl ?_
    refine IA_sl hbs hb'.1 hb'.2 fun b1 o1 hbl => ?_
    rw [FA_at]
    refine LD_sl0 hext hbl.code fun cv hcs => ?_
    rw [NC_ptr, FA_at, FA_at]
    refine LD_blk hd.blk (v := vInt f.pos) rfl ?_
    rw [BIN_sub, wrap64 _ (by omega)]
    exact IA_sl hcs hi'.1 hi'.2 fun b2 o2 hin => hK b2 o2 hin _ hd.ms (Ext.refl w).drew

set_option maxRecDepth 20000 in
/-- read -/
theorem c93 (h : MS c L s w) {l : List Int} {v : Value} (hv : Sl 1 (IntAt c.w0) v l) (hlen : l.length ≤ 1048576) (hne : readP l s ≠ .bad)
    (hK : ∀ xs o, readP l s = .ok xs s → (∀ x ∈ xs, W64 x ∧ fitsP s.hp x = true) → ∀ w', MS c L s w' → Ext w w' → GrAt w' o 166 (xs.map vU) → Own w o → K (grown o xs.length) w')
    (hX : readP l s = .stop 6 s → ∀ w', MS c L s w' → Ext w w' → X (over 6) w') : CAL Tryz.prog 93 #[vPtr L.m, v] w K X := n93 <| by
  unfold N93
  refine LEN_sl hv ?_
  refine ⟨fun t4 t9 w' => ∃ (k : Nat) (o : Option (Nat × List Value)) (xs : List Nat), t9 = vInt k ∧ k ≤ l.length ∧ t4 = grown o xs.length ∧ readP (l.take k) s = .ok xs s ∧ xs.length = k ∧ (∀ x ∈ xs, W64 x ∧ fitsP s.hp x = true) ∧
      GrAt w' o 166 (xs.map vU) ∧ Ext w w' ∧ Own w o,
    fun _ t9 _ => l.length - (match t9 with | .int _ i => i.toNat | _ => 0), ⟨0, none, [], rfl, by omega, rfl, by simp [readP], rfl, by simp, rfl, Ext.refl w, by simp [Own]⟩, ?_⟩
  rintro t4 t9 w1 ⟨k, o, xs, rfl, hk, rfl, hr, hxl, hxs, hg, e1, hown⟩
  rw [BIN_lss, CND_bool]
  by_cases hkl : k < l.length
  · rw [if_pos (by simpa using hkl)]
    have hsplit : l = l.take k ++ l[k] :: l.drop (k + 1) := by rw [List.getElem_cons_drop, List.take_append_drop]
    have hread : readP l s = (getP l[k] s).bind fun x s => (readP (l.drop (k + 1)) s).bind fun ys s => .ok (xs ++ x :: ys) s := by
      conv => lhs; rw [hsplit]
      rw [readP_append, hr]
      simp only [Res.bind_ok, readP]
      cases getP l[k] s with
      | bad => rfl
      | stop => rfl
      | ok x s =>
        simp only [Res.bind_ok]
        cases readP (l.drop (k + 1)) s <;> rfl
    have hm1 := h.grow e1
    refine IA_sl hv (by omega) (x := l[k]) (by simp [hkl]) fun b1 o1 hint => ?_
    refine LD_int (hint.ext hm1.ext) ?_
    refine c95w hm1 l[k] (fun x hx hxw w2 h2 e2 b2 o2 hl2 => ?_) (fun hx w2 h2 e2 => ?_) (fun hb => hne (by rw [hread, hb]; rfl))
    · rw [NC_ptr, hl2]
      show BSLC Tryz.prog 130 1 [(0, vU x)] w2 _
      rw [BSLC_one bsl130 (vU x) rfl]
      have e3 : Ext w2 (w2.alloc (.cells [vU x].toArray 166)) := (Ext.refl w2).alloc _
      have hsrc := (Blk.new w2 166 [vU x]).src 1
      have hg2 : GrAt (w2.alloc (.cells [vU x].toArray 166)) o 166 (xs.map vU) := by
        refine hg.same fun b hb => ?_
        have hlt : b < w1.heap.size := hg.lt b hb
        rw [e3.same b (Nat.lt_of_lt_of_le hlt e2.size), e2.same b hlt]
      have happ := RUN_app1 (ty := 130) elem130 (K := fun v' w' => BIN .int .add (vInt k) (.int .i64 1) fun t21 => (∃ (k : Nat) (o : Option (Nat × List Value)) (xs : List Nat), t21 = vInt k ∧ k ≤ l.length ∧ v' = grown o xs.length ∧ readP (l.take k) s = .ok xs s ∧ xs.length = k ∧ (∀ x ∈ xs, W64 x ∧ fitsP s.hp x = true) ∧
          GrAt w' o 166 (xs.map vU) ∧ Ext w w' ∧ Own w o) ∧ (l.length - (match t21 with | .int _ i => i.toNat | _ => 0)) < l.length - k) hg2 hsrc (fun v hv => by rw [List.mem_singleton] at hv; subst hv; rfl) (by rw [List.length_map]; show (_ + 1) * 8 ≤ _; omega) (by rw [List.length_map]; show _ + 1 ≤ _; omega) ?_
      · simp only [List.length_map] at happ
        exact happ
      · intro w' o' hg' ha
        rw [BIN_add, wrap64 _ (by omega)]
        have hE := ha.ext ((e1.trans e2).trans e3) hown
        refine ⟨⟨k + 1, o', xs ++ [x], by simp, hkl, by simp, ?_, by simp [hxl], ?_, by simpa using hg', hE.1, hE.2⟩, ?_⟩
        · rw [List.take_add_one, List.getElem?_eq_getElem hkl]
          simp only [Option.toList]
          rw [readP_append, hr]
          simp only [Res.bind_ok, readP, hx]
        · intro y hy
          rcases List.mem_append.1 hy with hy | hy
          · exact hxs y hy
          · simp at hy; subst hy; exact hxw
        · simp; omega
    · exact hX (by rw [hread, hx]; rfl) w2 h2 (e1.trans e2)
  · rw [if_neg (by simpa using hkl)]
    have hkk : l.take k = l := List.take_of_length_le (by omega)
    rw [hkk] at hr
    exact hK xs o hr hxs w1 (h.grow e1) e1 hg hown

end
end Go.Proofs.YtgnfodphfgmdlaaGreat
/- The contracts of the machine's functions: what is kept, calls. -/
namespace Go.GX
open Go

theorem nodup_of_count {l l' : List Nat} (h : ∀ x, l.count x = l'.count x) (hn : l'.Nodup) : l.Nodup := (List.perm_iff_count.2 h).nodup_iff.2 hn

section
variable {c : Ctx} {L : Lay} {s : Vm} {w w' : World} {f : Fr}

/-- A frame more. -/
theorem MS.push (h : MS c L s w) {q1 q2 : Nat} {o' : Option (Nat × List Value)} {wn : Int} (hq1 : q1 ∉ L.all) (hq2 : q2 ∉ L.all) (hq : q1 ≠ q2) (n1 : c.w0.heap.size ≤ q1 ∧ q1 ≠ c.vb) (n2 : c.w0.heap.size ≤ q2 ∧ q2 ≠ c.vb)
    (ho : (o'.map (·.1) = L.fb.map (·.1)) ∨ (∃ b, o'.map (·.1) = some b ∧ b ∉ L.all ∧ b ≠ q1 ∧ b ≠ q2 ∧ c.w0.heap.size ≤ b ∧ b ≠ c.vb)) (e0 : XE c w')
    (hs : ∀ b ∈ L.all, b ≠ L.m → b ∉ (L.fb.map (·.1)).toList → w'.heap[b]? = w.heap[b]?)
    (hm : Blk w' L.m 78 (machC c { L with fr := (q1, q2) :: L.fr, fb := o' } { s with words := wn, frs := f :: s.frs })) (hf : FrAt c w' f (q1, q2))
    (hb : GrAt w' o' 125 (((q1, q2) :: L.fr).map fun p => vPtr p.1).reverse) (hon : o' ≠ none) (inv : MOk c.toCx { s with words := wn, frs := f :: s.frs }) :
    MS c { L with fr := (q1, q2) :: L.fr, fb := o' } { s with words := wn, frs := f :: s.frs } w' := by
  have hnd := h.nodup
  have hallE : L.all = L.m :: (L.hpB ++ ((L.fr.map (·.1) ++ L.fr.map (·.2)) ++ (L.fb.map (·.1)).toList ++ L.obB)) := rfl
  have hnd' := hnd
  rw [hallE] at hnd'
  simp only [List.nodup_cons, List.nodup_append, List.mem_append, not_or] at hnd'
  have hH : ∀ b ∈ L.hpB, b ∈ L.all := fun b hb => by simp [Lay.all, hb]
  have hO : ∀ b ∈ L.obB, b ∈ L.all := fun b hb => by simp [Lay.all, hb]
  have hF : ∀ b, b ∈ L.fr.map (·.1) ∨ b ∈ L.fr.map (·.2) → b ∈ L.all := fun b hb => by
    rw [hallE]; simp only [List.mem_cons, List.mem_append]
    exact .inr (.inr (.inl (.inl hb)))
  have d1 : ∀ b ∈ L.hpB, b ≠ L.m ∧ b ∉ (L.fb.map (·.1)).toList := fun b hb => ⟨fun e => hnd'.1.1 (e ▸ hb), fun hm => hnd'.2.2.2 b hb b (.inl (.inr hm)) rfl⟩
  have d2 : ∀ b ∈ L.obB, b ≠ L.m ∧ b ∉ (L.fb.map (·.1)).toList := fun b hb => ⟨fun e => hnd'.1.2.2 (e ▸ hb), fun hm => hnd'.2.2.1.2.2 b (.inr hm) b hb rfl⟩
  have d3 : ∀ b, b ∈ L.fr.map (·.1) ∨ b ∈ L.fr.map (·.2) → b ≠ L.m ∧ b ∉ (L.fb.map (·.1)).toList := fun b hb =>
    ⟨fun e => hnd'.1.2.1.1.elim (fun h1 h2 => hb.elim (fun h => h1 (e ▸ h)) (fun h => h2 (e ▸ h))), fun hm => hnd'.2.2.1.1.2.2 b hb b hm rfl⟩
  refine ⟨h.ok, inv, e0, hm, ?_, ?_, ?_, ?_, ?_⟩
  · exact HpAt.same (w := w) ⟨h.hp.blk, h.hp.words, h.hp.heads, h.hp.lays⟩ fun b hb => hs b (hH b hb) (d1 b hb).1 (d1 b hb).2
  · refine ⟨by have := h.frs.len; simpa using this, ?_, hb, fun hn => absurd hn hon⟩
    intro i g r hg hr
    cases i with
    | zero => simp at hg hr; subst hg; subst hr; exact hf
    | succ i =>
      simp at hg hr
      have hmem := List.mem_of_getElem? hr
      have hr1 : r.1 ∈ L.fr.map (·.1) := List.mem_map.2 ⟨r, hmem, rfl⟩
      have hr2 : r.2 ∈ L.fr.map (·.2) := List.mem_map.2 ⟨r, hmem, rfl⟩
      exact (h.frs.each i g r hg hr).same (hs _ (hF _ (.inl hr1)) (d3 _ (.inl hr1)).1 (d3 _ (.inl hr1)).2) (hs _ (hF _ (.inr hr2)) (d3 _ (.inr hr2)).1 (d3 _ (.inr hr2)).2)
  · exact OutAt.same (w := w) ⟨h.out.back, h.out.nil, h.out.u8⟩ fun b hb => hs b (hO b hb) (d2 b hb).1 (d2 b hb).2
  · rcases ho with ho | ⟨b, ho, hb1, hb2, hb3, _⟩
    · have e : ({ L with fr := (q1, q2) :: L.fr, fb := o' } : Lay).all = L.m :: (L.hpB ++ ((q1 :: L.fr.map (·.1) ++ q2 :: L.fr.map (·.2)) ++ (L.fb.map (·.1)).toList ++ L.obB)) := by
        simp [Lay.all, Lay.hpB, Lay.frB, Lay.obB, ho]
      rw [e]
      refine nodup_of_count (l' := q1 :: q2 :: L.all) (fun x => ?_) ?_
      · rw [hallE]; simp only [List.count_append, List.count_cons]; omega
      · simp only [List.nodup_cons, List.mem_cons, not_or]
        exact ⟨⟨hq, hq1⟩, hq2, hnd⟩
    · have e : ({ L with fr := (q1, q2) :: L.fr, fb := o' } : Lay).all = L.m :: (L.hpB ++ ((q1 :: L.fr.map (·.1) ++ q2 :: L.fr.map (·.2)) ++ [b] ++ L.obB)) := by
        simp [Lay.all, Lay.hpB, Lay.frB, Lay.obB, ho]
      rw [e]
      have hsub : (L.m :: (L.hpB ++ ((L.fr.map (·.1) ++ L.fr.map (·.2)) ++ L.obB))).Sublist L.all := by
        rw [hallE]
        refine List.Sublist.cons_cons _ (List.Sublist.append (List.Sublist.refl _) ?_)
        rw [List.append_assoc (L.fr.map (·.1) ++ L.fr.map (·.2))]
        exact List.Sublist.append (List.Sublist.refl _) (List.sublist_append_right _ _)
      refine nodup_of_count (l' := q1 :: q2 :: b :: (L.m :: (L.hpB ++ ((L.fr.map (·.1) ++ L.fr.map (·.2)) ++ L.obB)))) (fun x => ?_) ?_
      · simp only [List.count_append, List.count_cons, List.count_nil]; omega
      · have hn : ∀ x, x ∉ L.all → x ∉ (L.m :: (L.hpB ++ ((L.fr.map (·.1) ++ L.fr.map (·.2)) ++ L.obB))) := fun x hx hm => hx (hsub.subset hm)
        refine List.nodup_cons.2 ⟨fun hm => ?_, List.nodup_cons.2 ⟨fun hm => ?_, List.nodup_cons.2 ⟨hn _ hb1, hsub.nodup hnd⟩⟩⟩
        · rcases List.mem_cons.1 hm with e | hm
          · exact hq e
          · rcases List.mem_cons.1 hm with e | hm
            · exact hb2 e.symm
            · exact hn _ hq1 hm
        · rcases List.mem_cons.1 hm with e | hm
          · exact hb3 e.symm
          · exact hn _ hq2 hm
  · intro x hx
    have hall : ∀ y ∈ L.all, c.w0.heap.size ≤ y ∧ y ≠ c.vb := h.new
    simp only [Lay.all, Lay.hpB, Lay.frB, Lay.obB, List.map_cons, List.mem_cons, List.mem_append] at hx
    have hmem : ∀ y, (y = L.m ∨ y ∈ L.hpB ∨ (y ∈ L.fr.map (·.1) ∨ y ∈ L.fr.map (·.2)) ∨ y ∈ L.obB) → c.w0.heap.size ≤ y ∧ y ≠ c.vb := by
      intro y hy
      rcases hy with rfl | hy | hy | hy
      · exact hall _ (by simp [Lay.all])
      · exact hall _ (hH y hy)
      · exact hall _ (hF y hy)
      · exact hall _ (hO y hy)
    rcases hx with hx | hx | (((hx | hx) | (hx | hx)) | hx) | hx
    · exact hmem x (.inl hx)
    · exact hmem x (.inr (.inl (by simp only [Lay.hpB, List.mem_cons]; exact hx)))
    · subst hx; exact n1
    · exact hmem x (.inr (.inr (.inl (.inl hx))))
    · subst hx; exact n2
    · exact hmem x (.inr (.inr (.inl (.inr hx))))
    · rcases ho with ho | ⟨b, ho, hb1, hb2, hb3, hb4⟩
      · rw [ho] at hx
        exact hall x (by rw [hallE]; simp only [List.mem_cons, List.mem_append]; exact .inr (.inr (.inl (.inr hx))))
      · rw [ho] at hx; simp at hx; subst hx; exact hb4
    · exact hmem x (.inr (.inr (.inr hx)))

theorem MOk.push (h : MOk c.toCx s) {f : Fr} (hw : s.words + (f.slots.length + 2) ≤ c.stack) (hr : (f.slots.length : Int) = f.fn.slots) (hfn : f.fn ∈ c.im.funcs) (hx : ∀ x ∈ f.slots, W64 x ∧ fitsP s.hp x = true)
    (hb : I64 f.block) (hp : 0 ≤ f.pos ∧ f.pos ≤ 562949953421312) : MOk c.toCx { s with words := s.words + (f.fn.slots + 2), frs := f :: s.frs } := by
  refine ⟨h.heap, h.hlays, ?_, ?_, ?_, ?_, ?_, ?_, ?_, h.steps, h.made, h.swept, h.inp, h.output, h.kind⟩
  · have := h.words
    show s.words + (f.fn.slots + 2) = frsWords (f :: s.frs)
    simp only [frsWords]; omega
  · show s.words + (f.fn.slots + 2) ≤ c.stack
    omega
  · exact fun g hg => (List.mem_cons.1 hg).elim (fun e => e ▸ hr) (h.room g)
  · exact fun g hg => (List.mem_cons.1 hg).elim (fun e => e ▸ hfn) (h.fns g)
  · exact fun g hg => (List.mem_cons.1 hg).elim (fun e => e ▸ hx) (h.slots g)
  · exact fun g hg => (List.mem_cons.1 hg).elim (fun e => e ▸ hb) (h.block g)
  · exact fun g hg => (List.mem_cons.1 hg).elim (fun e => e ▸ hp) (h.pos g)
end
end Go.GX
namespace Go.Proofs.YtgnfodphfgmdlaaGreat
open Go Go.GX

theorem bld129 (v : Value) (h : v.cells = #[v]) (K : Value → Prop) : BLD Tryz.prog 129 [(0, v)] K = K (.agg #[v, .int .i64 0, .int .i64 0]) := by
  have : bldP Tryz.prog 129 = some (.fields [(0, 1), (1, 1), (2, 1)] [.pointer none, .int .i64 0, .int .i64 0]) := by kernel_rfl
  simp [BLD, this, buildV, fillL, h, setRange, VO]
theorem bld132 (a b d v : Value) (h : v.cells = #[v]) (K : Value → Prop) : BLD Tryz.prog 132 [(0, .agg #[a, b, d]), (1, v)] K = K (.agg #[a, b, d, v]) := by
  have : bldP Tryz.prog 132 = some (.fields [(0, 3), (3, 1)] [.pointer none, .int .i64 0, .int .i64 0, .slice none 0 0]) := by kernel_rfl
  have h1 : (Value.agg #[a, b, d]).cells = #[a, b, d] := rfl
  simp [BLD, this, buildV, fillL, h, h1, setRange, VO]
end Go.Proofs.YtgnfodphfgmdlaaGreat
/- The contracts of the machine's functions: calls. -/
namespace Go.Proofs.YtgnfodphfgmdlaaGreat
open Go Go.GX

theorem make130 : ∃ i, Tryz.prog.underlying 130 = some (.slice 166) ∧ Tryz.prog.info? 166 = some i ∧ i.zero = some (.int .u64 0) ∧ i.size = 1 ∧ i.bytes = 8 := by
  obtain ⟨i, z, h1, h2, h3, h4, h5, h6⟩ := elem130.ex
  have : (Tryz.prog.info? 166).map (fun i => i.zero) = some (some (.int .u64 0)) := by kernel_rfl
  rw [h2] at this
  simp only [Option.map_some, Option.some.injEq] at this
  exact ⟨i, h1, h2, this, h4, h5⟩
theorem copy130 : Tryz.prog.underlying 130 = some (.slice 166) ∧ (Tryz.prog.info? 166).map (·.size) = some 1 := ⟨by kernel_rfl, by kernel_rfl⟩

section
variable {c : Ctx} {L : Lay} {s : Vm} {w : World} {K : Value → World → Prop} {X : List PanicEntry → World → Prop}
  {f : Fr} {fs : List Fr} {p : Nat × Nat} {ps : List (Nat × Nat)} {fa : Addr}

set_option maxRecDepth 20000 in
/-- call -/
theorem c58 (h : MS c L s w) (g : Int) {args : List Nat} {o : Option (Nat × List Value)} (hg : GrAt w o 166 (args.map vU)) (ho : ∀ b ∈ (o.map (·.1)).toList, b ∉ L.all) (hargs : ∀ x ∈ args, W64 x ∧ fitsP s.hp x = true)
    (halen : args.length ≤ 1048576) (hK : DO c L w (callP c.toCx g args s) vUnit K X) : CAL Tryz.prog 58 #[vPtr L.m, vInt g, grown o args.length] w K X := n58 <| by
  unfold N58
  have him := h.ok.im
  have hal : ∀ (sz : Nat) (K : Value → Prop), K (.int .i64 args.length) → LEN (.sl sz) (grown o args.length) K := fun sz K hK => by
    cases o with
    | none => have : args.map vU = [] := hg; have : args = [] := by simpa using this
              subst this; exact hK
    | some q => exact hK
  unfold callP at hK
  rw [BIN_geq]
  refine GRP_and_to (u := decide (g < c.im.funcs.length)) (fun _ hk => ?_) ?_
  · rw [NC_ptr, FA_at]
    refine LD_m h (o := 0) rfl ?_
    rw [NC_ptr, FA_at]
    refine LD_sl0 h.ext him.funcs fun fv hfs => LEN_sl hfs ?_
    rw [BIN_lss]; exact hk
  cases hgf : nth c.im.funcs g with
  | none =>
    have := nth_none hgf
    simp only [hgf] at hK
    exact c56 _ _ (fun ht => by simp at ht; omega) (fun _ => hK L w rfl h)
  | some x =>
    simp only [hgf] at hK
    have hgl := nth_lt hgf
    refine c56 _ _ (fun _ => ?_) (fun hf => by simp at hf; omega)
    rw [NC_ptr, FA_at]
    refine LD_m h (o := 0) rfl ?_
    rw [NC_ptr, FA_at]
    refine LD_sl0 h.ext him.funcs fun fv hfs => ?_
    refine IA_sl hfs hgl.1 (nth_some hgf).2 fun fb fo hfn => ?_
    have hslots := h.ok.ok.slots x (nth_mem hgf)
    rw [NC_ptr, FA_at]
    refine LD_int (hfn.slots.ext h.ext) ?_
    refine hal 1 _ ?_
    rw [BIN_geq]
    refine GRP_and_to (u := decide ((args.length : Int) = x.params.length)) (fun _ hk => ?_) ?_
    · refine hal 1 _ ?_
      rw [NC_ptr, FA_at]
      refine LD_sl0 h.ext hfn.params fun pv hps => LEN_sl hps ?_
      rw [BIN_eql]; exact hk
    refine GRP_and_to (u := decide (0 < (x.blocks.length : Int))) (fun _ hk => ?_) ?_
    · rw [NC_ptr, FA_at]
      refine LD_sl0 h.ext hfn.blocks fun pv hps => LEN_sl hps ?_
      rw [BIN_gtr]; exact hk
    by_cases hcond : (args.length : Int) ≤ x.slots ∧ args.length = x.params.length ∧ x.blocks ≠ []
    · rw [if_pos hcond] at hK
      have hbl : 0 < x.blocks.length := List.length_pos_iff.2 hcond.2.2
      have hT : (decide ((args.length : Int) ≤ x.slots) && decide ((args.length : Int) = x.params.length) && decide (0 < (x.blocks.length : Int))) = true := by
        rw [Bool.and_eq_true, Bool.and_eq_true, decide_eq_true_eq, decide_eq_true_eq, decide_eq_true_eq]; exact ⟨⟨hcond.1, by omega⟩, by omega⟩
      refine c56 _ _ (fun _ => ?_) (fun hf => by rw [hT] at hf; cases hf)
      have hd := h.drew
      have hinv := h.inv
      have hst := h.ok.ok.stack.2
      have hst' := hinv.stack
      have hwn : 0 ≤ s.words := by have := frsWords_nonneg s.frs; have := hinv.words; omega
      rw [JOIN_eq, NC_ptr, FA_at]
      refine LD_m hd (o := 8) rfl ?_
      rw [NC_ptr, FA_at]
      refine LD_int (hfn.slots.ext hd.ext) ?_
      rw [BIN_add, wrap64 _ (by omega), BIN_add, wrap64 _ (by omega), NC_ptr, FA_at, FA_at]
      refine LD_m hd (o := 4) rfl ?_
      rw [BIN_gtr, CND_bool]
      by_cases hover : s.words + x.slots + 2 > c.stack
      · rw [if_pos hover] at hK
        rw [if_pos (by simpa using hover)]
        exact c60 _ _ (hK L _ rfl hd)
      · rw [if_neg hover] at hK
        rw [if_neg (by simpa using hover)]
        have hd2 := hd.drew
        show NC _ _
        rw [NC_ptr, FA_at]
        refine LD_m hd2 (o := 8) rfl ?_
        rw [NC_ptr, FA_at]
        refine LD_int (hfn.slots.ext hd2.ext) ?_
        rw [BIN_add, wrap64 _ (by omega), BIN_add, wrap64 _ (by omega), NC_ptr, FA_at]
        refine ST_one hd2.mach (by simp [machC]) rfl rfl ?_
        obtain ⟨n, hn⟩ : ∃ n : Nat, x.slots = n := ⟨x.slots.toNat, by omega⟩
        have hL : L.m ∈ L.all := by simp [Lay.all]
        generalize hw8 : w.drew.drew.setCell ⟨L.m, 8, none⟩ (vInt (s.words + (x.slots + 2))) = w8
        have e8 : Ext c.w0 w8 := by rw [← hw8]; exact hd2.ext.setCell (h.new _ hL).1 _
        have hm8 : Blk w8 L.m 78 ((machC c L s).set 8 (vInt (s.words + (x.slots + 2)))) := by rw [← hw8]; exact hd2.mach.set _
        have hs8 : ∀ b, b ≠ L.m → w8.heap[b]? = w.heap[b]? := fun b hb => by rw [← hw8, setCell_other (fun e => hb e.symm)]; rfl
        have hz8 : w8.heap.size = w.heap.size := by rw [← hw8]; simp [World.setCell]
        rw [bld129 _ rfl, NC_ptr, FA_at]
        refine LD_int (hfn.slots.ext e8) ?_
        rw [hn]
        refine RUN_make make130 rfl (by omega) (by omega) ?_
        generalize hw9 : w8.alloc (.cells (List.replicate n (vU 0)).toArray 166) = w9
        have hz9 : w9.heap.size = w8.heap.size + 1 := by rw [← hw9]; simp
        have hb9 : Blk w9 w8.heap.size 166 (List.replicate n (vU 0)) := by rw [← hw9]; exact Blk.new _ _ _
        have e9 : Ext w8 w9 := by rw [← hw9]; exact (Ext.refl w8).alloc _
        rw [bld132 _ _ _ _ rfl]
        show NC (.pointer (some ⟨w9.heap.size, 0, none⟩)) _
        generalize hw10 : w9.alloc (.cells (Value.agg #[.pointer (some ⟨fb, fo, none⟩), .int .i64 0, .int .i64 0, .slice (some ⟨w8.heap.size, 0, none⟩) n n]).cells 132) = w10
        have hz10 : w10.heap.size = w9.heap.size + 1 := by rw [← hw10]; simp
        have hb10 : Blk w10 w9.heap.size 132 [.pointer (some ⟨fb, fo, none⟩), .int .i64 0, .int .i64 0, .slice (some ⟨w8.heap.size, 0, none⟩) n n] := by rw [← hw10]; exact Blk.new _ _ _
        have e10 : Ext w9 w10 := by rw [← hw10]; exact (Ext.refl w9).alloc _
        rw [NC_ptr, FA_at]
        refine LD_blk hb10 (v := .slice (some ⟨w8.heap.size, 0, none⟩) n n) rfl ?_
        have hs10 : ∀ b, b < w.heap.size → b ≠ L.m → w10.heap[b]? = w.heap[b]? := fun b hb hne => by
          rw [e10.same b (by omega), e9.same b (by omega), hs8 b hne]
        have hg10 : GrAt w10 o 166 (args.map vU) := hg.same fun b hb => hs10 b (hg.lt b hb) (fun e => ho b hb (e ▸ hL))
        have hsrc := hg10.src
        rw [List.length_map] at hsrc
        have hal2 : args.length ≤ n := by omega
        refine RUN_copy (ty := 3) copy130 (hb9.ext e10) (by simp) hsrc (fun v hv => by obtain ⟨y, _, rfl⟩ := List.mem_map.1 hv; rfl) fun w11 hb11 hz11 hs11 => ?_
        have hb11 : Blk w11 w8.heap.size 166 ((args ++ List.replicate (args.length - args.length) 1).map vU ++ List.replicate (n - args.length) (vU 0)) := by
          have e1 : (args.map vU).take n = args.map vU := List.take_of_length_le (by simpa using hal2)
          have e2 : (List.replicate n (vU 0)).drop (min args.length n) = List.replicate (n - args.length) (vU 0) := by rw [List.drop_replicate, Nat.min_eq_left hal2]
          rw [e1, e2] at hb11
          simpa using hb11
        refine hal 1 _ ?_
        have hL8 : L.m < w.heap.size := h.lt _ hL
        refine ⟨fun t8 w12 => ∃ k : Nat, t8 = vInt k ∧ args.length ≤ k ∧ k ≤ n ∧ Blk w12 w8.heap.size 166 ((args ++ List.replicate (k - args.length) 1).map vU ++ List.replicate (n - k) (vU 0)) ∧
            w12.heap.size = w10.heap.size ∧ (∀ i, i ≠ w8.heap.size → w12.heap[i]? = w10.heap[i]?),
          fun t8 _ => n - (match t8 with | .int _ i => i.toNat | _ => 0), ⟨args.length, rfl, Nat.le_refl _, hal2, hb11, hz11, hs11⟩, ?_⟩
        rintro t8 w12 ⟨k, rfl, hk1, hk2, hb12, hz12, hs12⟩
        have hf12 : Blk w12 w9.heap.size 132 [.pointer (some ⟨fb, fo, none⟩), .int .i64 0, .int .i64 0, .slice (some ⟨w8.heap.size, 0, none⟩) n n] := hb10.same (hs12 _ (by omega))
        rw [NC_ptr, FA_at]
        refine LD_blk hf12 (v := .slice (some ⟨w8.heap.size, 0, none⟩) n n) rfl ?_
        rw [LEN_slice, BIN_lss, CND_bool]
        by_cases hkn : k < n
        · rw [if_pos (by simpa using hkn), NC_ptr, FA_at]
          refine LD_blk (show Blk w12.drew _ _ _ from hf12) (v := .slice (some ⟨w8.heap.size, 0, none⟩) n n) rfl ?_
          refine c89 0 ⟨fun _ _ h => h, ?_⟩
          rw [IA_slice]
          refine ⟨by omega, ?_⟩
          rw [add_lit, Int.toNat_natCast, Nat.mul_one, Nat.zero_add]
          refine ST_one (show Blk w12.drew _ _ _ from hb12) (by simp; omega) rfl rfl ?_
          rw [BIN_add, wrap64 _ (by omega)]
          refine ⟨⟨k + 1, by simp, by omega, hkn, ?_, ?_, fun i hi => ?_⟩, ?_⟩
          · have := (show Blk w12.drew _ _ _ from hb12).set (o := k) (vU (wImm 0))
            have e1 : n - k = (n - (k + 1)) + 1 := by omega
            have e2 : k + 1 - args.length = (k - args.length) + 1 := by omega
            have e3 : ((args ++ List.replicate (k - args.length) 1).map vU).length = k := by simp; omega
            rw [e1, List.replicate_succ, List.set_append_right _ _ (by omega), e3, Nat.sub_self, List.set_cons_zero] at this
            rw [e2, List.replicate_succ', ← List.append_assoc, List.map_append, List.append_assoc]
            exact this
          · rw [← hz12]; simp [World.setCell]
          · rw [setCell_other (fun e => hi e.symm)]; exact hs12 i hi
          · simp; omega
        · rw [if_neg (by simpa using hkn)]
          have hkn : k = n := by omega
          subst hkn
          have hblk12 : Blk w12 w8.heap.size 166 ((args ++ List.replicate (k - args.length) 1).map vU) := by simpa using hb12
          have hsame12 : ∀ b, b < w.heap.size → b ≠ L.m → w12.heap[b]? = w.heap[b]? := fun b hb hne => by rw [hs12 b (by omega), hs10 b hb hne]
          have hm12 : Blk w12 L.m 78 ((machC c L s).set 8 (vInt (s.words + (x.slots + 2)))) := (hm8.ext (e9.trans e10)).same (hs12 _ (by omega))
          have e12 : Ext c.w0 w12 := ⟨by have := e8.size; omega, fun i hi => by
            have := e8.size
            rw [hs12 i (by have := h.ext.size; omega), e10.same i (by omega), e9.same i (by omega), e8.same i hi]⟩
          rw [NC_ptr, FA_at]
          refine LD_blk hm12 (v := grown L.fb s.frs.length) rfl ?_
          rw [BSLC_one bsl76 (vPtr w9.heap.size) rfl]
          generalize hw15 : w12.alloc (.cells [vPtr w9.heap.size].toArray 125) = w15
          have hz15 : w15.heap.size = w12.heap.size + 1 := by rw [← hw15]; simp
          have hb15 : Blk w15 w12.heap.size 125 [vPtr w9.heap.size] := by rw [← hw15]; exact Blk.new _ _ _
          have e15 : Ext w12 w15 := by rw [← hw15]; exact (Ext.refl w12).alloc _
          have hfbm : ∀ b ∈ (L.fb.map (·.1)).toList, b ∈ L.all ∧ b ≠ L.m := fun b hb => by
            have hnd := h.nodup
            have hin : b ∈ L.frB := by simp only [Lay.frB, List.mem_append]; exact .inr hb
            refine ⟨by simp [Lay.all, hin], fun e => ?_⟩
            simp only [Lay.all, List.nodup_cons, List.mem_append, not_or] at hnd
            exact hnd.1.2.1 (e ▸ hin)
          have hgf15 : GrAt w15 L.fb 125 (L.fr.map fun p => vPtr p.1).reverse := h.frs.back.same fun b hb => by
            have := h.lt b (hfbm b hb).1
            rw [e15.same b (by omega), hsame12 b this (hfbm b hb).2]
          have hlenfr : s.frs.length = ((L.fr.map fun p => vPtr p.1).reverse).length := by simp [h.frs.len]
          have hfl := h.inv.frs_len h.ok.ok
          rw [hlenfr]
          refine RUN_app1 (ty := 76) elem76 hgf15 (hb15.src 1) (fun v hv => by rw [List.mem_singleton] at hv; subst hv; rfl) (by rw [← hlenfr]; show (_ + 1) * 8 ≤ _; omega) (by rw [← hlenfr]; show _ + 1 ≤ _; omega) fun w16 o' hg16 ha => ?_
          have hm16 : Blk w16 L.m 78 ((machC c L s).set 8 (vInt (s.words + (x.slots + 2)))) := by
            rcases ha with ⟨b', h1, h2, h3, h4⟩ | ⟨h1, h2⟩
            · exact (hm12.ext e15).same (h4 _ (fun e => (hfbm b' (by rw [h2]; simp)).2 e.symm))
            · exact hm12.ext (e15.trans h2)
          rw [NC_ptr, FA_at]
          refine ST_one hm16 (by simp [machC]) (by cases o' <;> rfl) (by cases o' <;> rfl) ?_
          show K (.tuple #[]) (w16.setCell ⟨L.m, 7, none⟩ (grown o' (((L.fr.map fun p => vPtr p.1).reverse).length + 1)))
          have hsame16 : ∀ b, b < w15.heap.size → b ∉ (L.fb.map (·.1)).toList → w16.heap[b]? = w15.heap[b]? := fun b hb hnb => by
            rcases ha with ⟨b', h1, h2, h3, h4⟩ | ⟨h1, h2⟩
            · exact h4 b (fun e => hnb (by rw [h2, e]; simp))
            · exact h2.same b hb
          have hz16 : w15.heap.size ≤ w16.heap.size := by
            rcases ha with ⟨b', h1, h2, h3, h4⟩ | ⟨h1, h2⟩
            · omega
            · exact h2.size
          have hlt : ∀ b ∈ L.all, b < w.heap.size := h.lt
          have hfr16 : ∀ b, w.heap.size ≤ b → b < w15.heap.size → w16.heap[b]? = w15.heap[b]? := fun b hb1 hb2 => hsame16 b hb2 (fun hm => by have := hlt b (hfbm b hm).1; omega)
          have hon : o' ≠ none := fun e => by
            subst e
            have : (L.fr.map fun p => vPtr p.1).reverse ++ [vPtr w9.heap.size] = [] := hg16
            simp at this
          have hset : ∀ b, b ≠ L.m → (w16.setCell ⟨L.m, 7, none⟩ (grown o' (((L.fr.map fun p => vPtr p.1).reverse).length + 1))).heap[b]? = w16.heap[b]? := fun b hb => setCell_other (fun e => hb e.symm) _
          have hq1 : w9.heap.size ∉ L.all := fun hm => by have := hlt _ hm; omega
          have hq2 : w8.heap.size ∉ L.all := fun hm => by have := hlt _ hm; omega
          have hext := h.ext.size
          have hvl := h.xe.lt
          have e16 : XE c w16 := ⟨⟨by omega, fun i hi => by
            rw [hsame16 i (by omega) (fun hm => by have := h.new i (hfbm i hm).1; omega), e15.same i (by omega), e12.same i hi]⟩,
            by rw [hsame16 _ (by omega) (fun hm => (h.new _ (hfbm _ hm).1).2 rfl), e15.same _ (by omega), hsame12 _ hvl (fun e => (h.new _ hL).2 e.symm)]; exact h.xe.var, by omega⟩
          have hob : ∀ b', o'.map (·.1) = some b' → L.fb.map (·.1) = some b' ∨ w15.heap.size ≤ b' := fun b' hb' => by
            rcases ha with ⟨b1, h1, h2, h3, h4⟩ | ⟨h1, h2⟩
            · rw [hb'] at h1; rw [h2, ← h1]; exact .inl rfl
            · exact .inr (h1 b' (by rw [hb']; simp))
          obtain ⟨bo, hbo⟩ : ∃ b', o'.map (·.1) = some b' := by
            cases o' with
            | none => exact absurd rfl hon
            | some q => exact ⟨_, rfl⟩
          refine hK { L with fr := (w9.heap.size, w8.heap.size) :: L.fr, fb := o' } _ rfl ?_ (MS.push (w := w) (f := { fn := x, block := 0, pos := 0, slots := args ++ List.replicate (x.slots.toNat - args.length) 1 }) h hq1 hq2 (by omega) (by omega) (by omega) ?_ (e16.setCell (h.new _ hL) _) ?_ ?_ ?_ ?_ hon ?_)
          · refine ⟨by simp [World.setCell]; omega, fun b hb hnb => ⟨?_, fun hm => ?_⟩⟩
            · rw [hset b (fun e => hnb (e ▸ hL)), hsame16 b (by omega) (fun hm => hnb (hfbm b hm).1), e15.same b (by omega), hsame12 b hb (fun e => hnb (e ▸ hL))]
            · simp only [Lay.all, Lay.hpB, Lay.frB, Lay.obB, List.map_cons, List.mem_cons, List.mem_append] at hm hnb
              simp only [not_or] at hnb
              rcases hm with hm | hm | (((hm | hm) | (hm | hm)) | hm) | hm
              · exact hnb.1 hm
              · rcases hm with hm | hm | hm | hm
                · exact hnb.2.1.1 hm
                · exact hnb.2.1.2.1 hm
                · exact hnb.2.1.2.2.1 hm
                · exact hnb.2.1.2.2.2 hm
              · omega
              · exact hnb.2.2.1.1.1 hm
              · omega
              · exact hnb.2.2.1.1.2 hm
              · rw [hbo] at hm; simp at hm; subst hm
                rcases hob b hbo with hh | hh
                · exact hnb.2.2.1.2 (by rw [hh]; simp)
                · omega
              · exact hnb.2.2.2 hm
          · rcases hob bo hbo with hh | hh
            · left; rw [hbo, hh]
            · right; exact ⟨bo, hbo, fun hm => by have := hlt _ hm; omega, by omega, by omega, by omega⟩
          · intro b hb hne hnf
            rw [hset b hne, hsame16 b (by have := hlt b hb; omega) hnf, e15.same b (by have := hlt b hb; omega), hsame12 b (hlt b hb) hne]
          · have hfin := hm16.set (o := 7) (grown o' (((L.fr.map fun p => vPtr p.1).reverse).length + 1))
            rw [← hlenfr] at hfin ⊢
            exact hfin
          · refine ⟨⟨⟨fb, fo, none⟩, rfl, hfn, ?_⟩, ?_⟩
            · have h1 : Blk w16 w9.heap.size 132 _ := hf12.same (by rw [hfr16 _ (by omega) (by omega), e15.same _ (by omega)])
              have h2 := h1.same (hset w9.heap.size (by omega))
              have : (args ++ List.replicate (x.slots.toNat - args.length) 1).length = k := by simp; omega
              simp only [frC, this]
              exact h2
            · have h1 : Blk w16 w8.heap.size 166 _ := hblk12.same (by rw [hfr16 _ (by omega) (by omega), e15.same _ (by omega)])
              have h2 := h1.same (hset w8.heap.size (by omega))
              have : x.slots.toNat = k := by omega
              simp only [this]
              exact h2
          · have hg17 : GrAt _ o' 125 _ := hg16.same (w' := w16.setCell ⟨L.m, 7, none⟩ (grown o' (((L.fr.map fun p => vPtr p.1).reverse).length + 1))) fun b hb => hset b (fun e => by
              subst e
              rw [hbo] at hb; simp at hb
              rcases hob bo hbo with hh | hh
              · exact (hfbm bo (by rw [hh]; simp)).2 hb.symm
              · omega)
            simpa using hg17
          · have hl2 : ((args ++ List.replicate (x.slots.toNat - args.length) 1).length : Int) = x.slots := by simp; omega
            refine hinv.push (f := { fn := x, block := 0, pos := 0, slots := args ++ List.replicate (x.slots.toNat - args.length) 1 }) ?_ hl2 (nth_mem hgf) ?_ ⟨by show (-9223372036854775808 : Int) ≤ 0; omega, by show (0 : Int) < 9223372036854775808; omega⟩ ⟨Int.le_refl _, by show (0 : Int) ≤ 562949953421312; omega⟩
            · rw [hl2]; omega
            · intro y hy
              rcases List.mem_append.1 hy with hy | hy
              · exact hargs y hy
              · rw [(List.mem_replicate.1 hy).2]; exact wImm_ok 0 _
    · rw [if_neg hcond] at hK
      refine c56 _ _ (fun ht => ?_) (fun _ => hK L w rfl h)
      simp at ht
      exact absurd ⟨by omega, by omega, fun e => by rw [e] at ht; simp at ht⟩ hcond
end
end Go.Proofs.YtgnfodphfgmdlaaGreat
/- The contracts of the machine's functions: what is kept, what is thrown. -/
namespace Go.GX
open Go

theorem keepL_append (old : List Nat) : ∀ (a b : List Int) (acc : List Nat), keepL old (a ++ b) acc = (keepL old a acc).bind (keepL old b)
  | [], b, acc => rfl
  | i :: a, b, acc => by
    simp only [List.cons_append, keepL]
    cases nth old i with
    | none => rfl
    | some x => exact keepL_append old a b _

theorem keepL_ok (old : List Nat) (P : Nat → Prop) (hP : ∀ x ∈ old, P x) : ∀ (a : List Int) (acc r : List Nat), keepL old a acc = some r → (∀ x ∈ acc, P x) → r.length = acc.length ∧ ∀ x ∈ r, P x
  | [], acc, r, h, ha => by simp only [keepL, Option.some.injEq] at h; subst h; exact ⟨rfl, ha⟩
  | i :: a, acc, r, h, ha => by
    simp only [keepL] at h
    cases hn : nth old i with
    | none => rw [hn] at h; cases h
    | some x =>
      rw [hn] at h
      have := keepL_ok old P hP a _ r h (fun y hy => by
        rcases List.mem_or_eq_of_mem_set hy with hy | rfl
        · exact ha y hy
        · exact hP _ (nth_mem hn))
      simpa using this

end Go.GX
namespace Go.Proofs.YtgnfodphfgmdlaaGreat
open Go Go.GX

section
variable {c : Ctx} {L : Lay} {s : Vm} {w : World} {K : Value → World → Prop} {X : List PanicEntry → World → Prop}
  {f : Fr} {fs : List Fr} {p : Nat × Nat} {ps : List (Nat × Nat)} {fa : Addr}

set_option maxRecDepth 20000 in
/-- keep -/
theorem c104 (h : MS c L s w) {l : List Int} {v : Value} (hv : Sl 1 (IntAt c.w0) v l) (hlen : l.length ≤ 1048576) (hK : DO c L w (keepP l s) vUnit K X) : CAL Tryz.prog 104 #[vPtr L.m, v] w K X := n104 <| by
  unfold N104
  cases hf : s.frs with
  | nil => unfold keepP at hK; rw [hf] at hK; exact absurd hK id
  | cons f fs =>
    obtain ⟨p, ps, fa, t⟩ := h.top hf
    unfold keepP at hK; simp only [hf] at hK
    refine c59 t fun w1 h1 e1 => ?_
    have t1 := t.same h1 e1
    have hsl : f.slots.length ≤ 65536 := by
      have h1 := h.inv.words; have h2 := h.inv.stack; have h4 := h.ok.ok.stack.2
      rw [hf] at h1; have h3 := frsWords_nonneg fs; simp [frsWords] at h1; omega
    generalize hn : f.slots.length = n at hsl
    rw [NC_ptr, FA_at]
    refine LD_blk t1.blk (v := made p.2 f.slots.length) rfl ?_
    show LEN (.sl 1) (.slice _ _ _) _
    rw [LEN_slice, hn]
    refine RUN_make make130 rfl (by omega) (by omega) ?_
    generalize hw2 : w1.alloc (.cells (List.replicate n (vU 0)).toArray 166) = w2
    have hz2 : w2.heap.size = w1.heap.size + 1 := by rw [← hw2]; simp
    have hb2 : Blk w2 w1.heap.size 166 (List.replicate n (vU 0)) := by rw [← hw2]; exact Blk.new _ _ _
    have e2 : Ext w1 w2 := by rw [← hw2]; exact (Ext.refl w1).alloc _
    rw [LEN_slice]
    refine ⟨fun t20 w3 => ∃ k : Nat, t20 = vInt k ∧ k ≤ n ∧ Blk w3 w1.heap.size 166 ((List.replicate k 1).map vU ++ List.replicate (n - k) (vU 0)) ∧ Ext w1 w3,
      fun t20 _ => n - (match t20 with | .int _ i => i.toNat | _ => 0), ⟨0, rfl, by omega, by simpa using hb2, e2⟩, ?_⟩
    rintro t20 w3 ⟨k, rfl, hk, hb3, e3⟩
    rw [BIN_lss, CND_bool]
    by_cases hkn : k < n
    · rw [if_pos (by simpa using hkn)]
      refine c89 0 ?_
      rw [IA_slice]
      refine ⟨by omega, ?_⟩
      rw [add_lit, Int.toNat_natCast, Nat.mul_one, Nat.zero_add]
      refine ST_one hb3 (by simp; omega) rfl rfl ?_
      rw [BIN_add, wrap64 _ (by omega)]
      refine ⟨⟨k + 1, by simp, hkn, ?_, e3.setCell (Nat.le_refl _) _⟩, ?_⟩
      · have := hb3.set (o := k) (vU (wImm 0))
        have e1 : n - k = (n - (k + 1)) + 1 := by omega
        have el : ((List.replicate k 1).map vU).length = k := by simp
        rw [e1, List.replicate_succ, List.set_append_right _ _ (by omega), el, Nat.sub_self, List.set_cons_zero] at this
        rw [List.replicate_succ', List.map_append, List.append_assoc]
        exact this
      · simp; omega
    · rw [if_neg (by simpa using hkn)]
      have hkn : k = n := by omega
      subst hkn
      have hb3' : Blk w3 w1.heap.size 166 ((List.replicate k 1).map vU) := by simpa using hb3
      refine LEN_sl hv ?_
      refine ⟨fun t30 w6 => ∃ (j : Nat) (acc : List Nat), t30 = vInt j ∧ j ≤ l.length ∧ keepL f.slots (l.take j) (List.replicate k 1) = some acc ∧ Blk w6 w1.heap.size 166 (acc.map vU) ∧ Ext w1 w6,
        fun t30 _ => l.length - (match t30 with | .int _ i => i.toNat | _ => 0), ⟨0, _, rfl, by omega, rfl, hb3', e3⟩, ?_⟩
      rintro t30 w6 ⟨j, acc, rfl, hj, hacc, hb6, e6⟩
      have hone : ∀ x ∈ List.replicate k 1, W64 x ∧ fitsP s.hp x = true := fun x hx => by rw [(List.mem_replicate.1 hx).2]; exact wImm_ok 0 _
      have hold : ∀ x ∈ f.slots, W64 x ∧ fitsP s.hp x = true := h.inv.slots f (by rw [hf]; simp)
      have haok := keepL_ok f.slots _ hold _ _ _ hacc hone
      have h6 := h1.grow e6
      have t6 := t1.same h6 e6
      rw [BIN_lss, CND_bool]
      by_cases hjl : j < l.length
      · rw [if_pos (by simpa using hjl)]
        have hsplit : l = l.take j ++ l[j] :: l.drop (j + 1) := by rw [List.getElem_cons_drop, List.take_append_drop]
        have hfull : keepL f.slots l (List.replicate k 1) = keepL f.slots (l[j] :: l.drop (j + 1)) acc := by
          conv => lhs; rw [hsplit]
          rw [keepL_append, hacc]; rfl
        refine IA_sl hv (by omega) (x := l[j]) (by simp [hjl]) fun b1 o1 hint => ?_
        refine LD_int (hint.ext h6.ext) ?_
        refine c95 t6 l[j] (fun y hy w7 h7 e7 => ?_) (fun hno w7 h7 e7 => ?_)
        · have t7 := t6.same h7 e7
          have hyl := nth_lt hy
          rw [NC_ptr]
          refine LD_slot t7 hy ?_
          show IA 1 (.slice _ _ _) _ _
          rw [IA_slice]
          refine ⟨by omega, ?_⟩
          rw [add_lit, Nat.mul_one, Nat.zero_add]
          have hal : acc.length = k := by rw [haok.1]; simp
          refine ST_one (hb6.ext e7) (by simp; omega) rfl rfl ?_
          rw [BIN_add, wrap64 _ (by omega)]
          refine ⟨⟨j + 1, acc.set l[j].toNat y, by simp, hjl, ?_, ?_, (e6.trans e7).setCell (Nat.le_refl _) _⟩, ?_⟩
          · rw [List.take_add_one, List.getElem?_eq_getElem hjl, keepL_append, hacc]
            simp [keepL, hy]
          · have := (hb6.ext e7).set (o := l[j].toNat) (vU y)
            rw [List.map_set]; exact this
          · simp; omega
        · rw [hn, hfull] at hK
          simp only [keepL, hno] at hK
          exact hK L w7 rfl h7
      · rw [if_neg (by simpa using hjl)]
        have hjj : l.take j = l := List.take_of_length_le (by omega)
        rw [hjj] at hacc
        rw [hn, hacc] at hK
        have hL1 : w1.heap.size ∉ L.all := fun hm => by have := h1.lt _ hm; omega
        have hn1 : c.w0.heap.size ≤ w1.heap.size ∧ w1.heap.size ≠ c.vb := ⟨h1.ext.size, by have := h1.xe.lt; omega⟩
        rw [NC_ptr, FA_at]
        refine ST_one t6.blk (by simp [frC]) rfl rfl ?_
        have hal : acc.length = k := by rw [haok.1]; simp
        have hpm := t6.pm
        refine hK { L with fr := (p.1, w1.heap.size) :: ps } _ rfl ?_ (t6.setTop (f' := { f with slots := acc }) (h6.xe.setCell (h6.new _ hpm.1) _) (fun b _ hb _ => setCell_other (fun e => hb e.symm) _) (.inr ⟨hL1, hn1⟩) ?_ ?_)
        · refine ⟨by have := e1.size; have := e6.size; simp [World.setCell]; omega, fun b hb hnb => ⟨?_, fun hm => ?_⟩⟩
          · rw [setCell_other (fun e => hnb (by rw [← e]; exact hpm.1)), e6.same b (by have := e1.size; omega), e1.same b hb]
          · simp only [Lay.all, Lay.hpB, Lay.frB, Lay.obB, t.fr, List.map_cons, List.mem_cons, List.mem_append] at hm hnb
            simp only [not_or] at hnb
            have := e1.size
            rcases hm with hm | hm | (((hm | hm) | (hm | hm)) | hm) | hm
            · exact hnb.1 hm
            · rcases hm with hm | hm | hm | hm
              · exact hnb.2.1.1 hm
              · exact hnb.2.1.2.1 hm
              · exact hnb.2.1.2.2.1 hm
              · exact hnb.2.1.2.2.2 hm
            · exact hnb.2.2.1.1.1.1 hm
            · exact hnb.2.2.1.1.1.2 hm
            · omega
            · exact hnb.2.2.1.1.2.2 hm
            · exact hnb.2.2.1.2 hm
            · exact hnb.2.2.2 hm
        · have hne : p.1 ≠ w1.heap.size := fun e => hL1 (by rw [← e]; exact hpm.1)
          refine ⟨⟨fa, t.spot, t.fn, ?_⟩, hb6.other hne _⟩
          have := t6.blk.set (o := 3) (.slice (some ⟨w1.heap.size, 0, none⟩) k k)
          simp only [frC, hal]
          exact this
        · exact h.inv.setTop hf (by rw [hn]; exact hal) rfl haok.2 (h.inv.block f (by rw [hf]; simp)) (h.inv.pos f (by rw [hf]; simp))
end
end Go.Proofs.YtgnfodphfgmdlaaGreat
/- What is written into a plain heap leaves it whole. -/
namespace Go.GX
open Go

theorem wShape_head (sh n : Nat) (h : sh < 1048576) : wShape (wHead sh n) = sh := by unfold wShape wHead; omega
theorem wLen_head (sh n : Nat) (hn : n < 1048576) : wLen (wHead sh n) = n := by unfold wLen wHead; omega
theorem wHead_64 (sh n : Nat) : W64 (wHead sh n) := by unfold W64 wHead; omega

theorem needL_inl {lays : List (Int × Int)} {sh n k : Int} (h : needL lays sh n = .inl k) :
    0 ≤ n ∧ n ≤ 65536 ∧ ∃ l, nth lays sh = some l ∧ (l.1 = 1 → n = l.2) ∧ k = if l.1 = 3 then 1 + (n + 7) / 8 else 1 + n := by
  unfold needL at h
  split at h
  · cases h
  · split at h
    · cases h
    · rename_i l hl
      split at h
      · cases h
      · split at h
        · cases h
        · rename_i h1 h2 h3
          refine ⟨by omega, by omega, l, hl, fun e => Classical.byContradiction fun hne => h2 ⟨e, hne⟩, ?_⟩
          split at h
          · rename_i h4; cases h; simp [h4]
          · rename_i h4; cases h; simp [h4]

theorem Chain.le {ws : List Nat} {lays : List (Int × Int)} : ∀ {a b : Nat} {objs : List Nat}, Chain ws lays a objs b → a ≤ b
  | _, _, [], h => Nat.le_of_eq h
  | _, _, _ :: _, ⟨rfl, _, _, _, _, _, _, _, _, h⟩ => Nat.le_trans (Nat.le_add_right _ _) (Chain.le h)

theorem Chain.mem {ws : List Nat} {lays : List (Int × Int)} : ∀ {a b : Nat} {objs : List Nat}, Chain ws lays a objs b → ∀ x ∈ objs,
    ∃ sh n k : Nat, ws[x]? = some (wHead sh n) ∧ sh < lays.length ∧ n ≤ 65536 ∧ needL lays sh n = .inl (k : Int) ∧ a ≤ x ∧ x + k ≤ b ∧ x + k ≤ ws.length ∧ ∀ y ∈ objs, y ≤ x ∨ x + k ≤ y
  | a, b, [], _, x, hx => by cases hx
  | a, b, y :: ys, h, x, hx => by
    obtain ⟨rfl, sh, n, k, h1, h2, h3, h4, h5, h6⟩ := h
    have hle := Chain.le h6
    have hge : ∀ z ∈ ys, y + k ≤ z := fun z hz => by
      obtain ⟨_, _, _, _, _, _, _, g, _⟩ := Chain.mem h6 z hz
      exact g
    rcases List.mem_cons.1 hx with rfl | hx
    · exact ⟨sh, n, k, h1, h2, h3, h4, Nat.le_refl _, hle, h5, fun z hz => (List.mem_cons.1 hz).elim (fun e => .inl (Nat.le_of_eq e)) (fun hz => .inr (hge z hz))⟩
    · obtain ⟨sh', n', k', g1, g2, g3, g4, g5, g6, g7, g8⟩ := Chain.mem h6 x hx
      exact ⟨sh', n', k', g1, g2, g3, g4, by omega, g6, g7, fun z hz => (List.mem_cons.1 hz).elim (fun e => .inl (by omega)) (fun hz => g8 z hz)⟩

/-- An object. -/
structure ObjP (h : Hp) (x : Nat) (sh n k : Nat) : Prop where
  word : wordP h x = wHead sh n
  at' : h.words[x]? = some (wHead sh n)
  shape : wShape (wordP h x) = sh
  len : wLen (wordP h x) = n
  lay : sh < h.lays.length
  nle : n ≤ 65536
  need : needL h.lays sh n = .inl (k : Int)
  top : x + k ≤ h.top
  pos : 1 ≤ k
  apart : ∀ y ∈ h.objs, y ≤ x ∨ x + k ≤ y

theorem HpOk.obj {h : Hp} (ok : HpOk h) {x : Nat} (hx : x ∈ h.objs) : ∃ sh n k, ObjP h x sh n k := by
  obtain ⟨sh, n, k, h1, h2, h3, h4, h5, h6, h7, h8⟩ := ok.chain.mem x hx
  have hw : wordP h x = wHead sh n := by simp [wordP, h1]
  have hl := ok.nlays
  refine ⟨sh, n, k, hw, h1, by rw [hw]; exact wShape_head _ _ (by omega), by rw [hw]; exact wLen_head _ _ (by omega), h2, h3, h4, h6, ?_, h8⟩
  obtain ⟨_, _, l, _, _, hk⟩ := needL_inl h4
  split at hk <;> omega

theorem isP_nat {h : Hp} {x : Int} (hx : isP h x = true) : ∃ y : Nat, x = y ∧ y < h.top ∧ y ∈ h.objs := by
  unfold isP at hx
  simp only [Bool.and_eq_true, decide_eq_true_eq] at hx
  refine ⟨x.toNat, by omega, by omega, hx.2⟩

theorem HpOk.is {h : Hp} (ok : HpOk h) {x : Int} (hx : isP h x = true) : ∃ y sh n k : Nat, x = y ∧ ObjP h y sh n k := by
  obtain ⟨y, e, _, hm⟩ := isP_nat hx
  obtain ⟨sh, n, k, o⟩ := ok.obj hm
  exact ⟨y, sh, n, k, e, o⟩

theorem hasP_spec {h : Hp} (ok : HpOk h) {x i : Int} {b : Bool} (hh : hasP h x i b = true) :
    ∃ y j sh n k : Nat, x = y ∧ i = j ∧ y ∈ h.objs ∧ ObjP h y sh n k ∧ j < n ∧ (decide (kindP h (sh : Int) = 3)) = b ∧ (b = false → k = 1 + n ∧ y + 1 + j < h.top) ∧ (b = true → k = 1 + (n + 7) / 8 ∧ y + 1 + j / 8 < h.top) := by
  unfold hasP at hh
  simp only [Bool.and_eq_true, decide_eq_true_eq, beq_iff_eq] at hh
  obtain ⟨⟨⟨h1, h2⟩, h3⟩, h4⟩ := hh
  obtain ⟨y, rfl, hlt, hm⟩ := isP_nat h1
  obtain ⟨sh, n, k, ob⟩ := ok.obj hm
  rw [ob.shape] at h2
  rw [ob.len] at h4
  obtain ⟨j, rfl⟩ : ∃ j : Nat, i = j := ⟨i.toNat, by omega⟩
  obtain ⟨_, _, l, hl, _, hk⟩ := needL_inl ob.need
  have hkind : kindP h (sh : Int) = l.1 := by unfold kindP; rw [hl]
  have htop := ob.top
  refine ⟨y, j, sh, n, k, rfl, rfl, hm, ob, by omega, h2, fun hb => ?_, fun hb => ?_⟩
  · rw [hb, hkind] at h2
    have : ¬ l.1 = 3 := by simpa using h2
    rw [if_neg this] at hk; omega
  · rw [hb, hkind] at h2
    have : l.1 = 3 := by simpa using h2
    rw [if_pos this] at hk; omega

theorem wordP_lt {h : Hp} {i : Nat} (hi : i < h.words.length) : h.words[i]? = some (wordP h i) := by simp [wordP, hi]

theorem word64 {h : Hp} (ok : HpOk h) (i : Int) : W64 (wordP h i) := by
  unfold wordP
  cases hx : h.words[i.toNat]? with
  | none => show W64 0; unfold W64; omega
  | some y => exact ok.w64 y (List.mem_of_getElem? hx)

theorem Chain.set {lays : List (Int × Int)} {ws : List Nat} (p v : Nat) : ∀ {a b : Nat} {objs : List Nat}, Chain ws lays a objs b → p ∉ objs → Chain (ws.set p v) lays a objs b
  | _, _, [], h, _ => h
  | _, _, _ :: _, ⟨e, sh, n, k, h1, h2, h3, h4, h5, h6⟩, hp => by
    subst e
    simp only [List.mem_cons, not_or] at hp
    exact ⟨rfl, sh, n, k, by rw [List.getElem?_set_ne hp.1]; exact h1, h2, h3, h4, by simpa using h5, Chain.set p v h6 hp.2⟩

/-- A word within an object, behind its head, becomes another one. -/
theorem HpOk.setWord {h : Hp} (ok : HpOk h) {y sh n k p v : Nat} (hm : y ∈ h.objs) (ob : ObjP h y sh n k) (h1 : y < p) (h2 : p < y + k) (hv : W64 v) (hf : kindP h (sh : Int) ≠ 3 → fitsP h v = true) (hpd : kindP h (sh : Int) = 3 → n % 8 ≠ 0 → p = y + 1 + n / 8 → v < 2 ^ (n % 8 * 8)) :
    HpOk { h with words := h.words.set p v } := by
  have htop := ob.top; have htl := ok.top
  have hp : p ∉ h.objs := fun hm' => by rcases ob.apart p hm' with h | h <;> omega
  have hword : ∀ i : Nat, i ≠ p → wordP { h with words := h.words.set p v } i = wordP h i := fun i hi => by
    simp only [wordP, Int.toNat_natCast]; rw [List.getElem?_set_ne (fun e => hi e.symm)]
  have hself : wordP { h with words := h.words.set p v } p = v := by
    simp only [wordP, Int.toNat_natCast]; rw [List.getElem?_set_self (by omega)]; rfl
  refine ⟨by simpa using ok.len, fun x hx => (List.mem_or_eq_of_mem_set hx).elim (ok.w64 x) (fun e => e ▸ hv), ok.nlays, ok.lays, ok.chain.set p v hp, by simpa using ok.top, ?_, ?_, ?_⟩
  · intro x hx hkx i hi
    have hxp : x ≠ p := fun e => hp (e ▸ hx)
    rw [hword x hxp] at hkx hi
    by_cases e : x + 1 + i = p
    · rw [e, hself]
      obtain ⟨sh', n', k', ob'⟩ := ok.obj hx
      rw [ob'.shape] at hkx
      rw [ob'.len] at hi
      have hk' : k' = 1 + n' := by
        obtain ⟨_, _, l, hl, _, hk⟩ := needL_inl ob'.need
        have : kindP h (sh' : Int) = l.1 := by unfold kindP; rw [hl]
        rw [if_neg (by rw [← this]; exact hkx)] at hk; omega
      have hxy : x = y := by
        have a1 := ob.apart x hx
        have a2 := ob'.apart y hm
        omega
      subst hxy
      have : sh' = sh := by rw [← ob'.shape, ← ob.shape]
      subst this
      exact hf hkx
    · rw [hword _ e]
      exact ok.fit x hx hkx i hi
  · intro i hi
    rw [hword i (by show i ≠ p; have : h.top ≤ i := hi; omega)]
    exact ok.zero i hi
  · intro x hx hkx hn8
    have hxp : x ≠ p := fun e => hp (e ▸ hx)
    rw [hword x hxp] at hkx hn8 ⊢
    by_cases e : x + 1 + wLen (wordP h x) / 8 = p
    · rw [e, hself]
      obtain ⟨sh', n', k', ob'⟩ := ok.obj hx
      have hkx' : kindP h (wShape (wordP h x) : Nat) = 3 := hkx
      rw [ob'.shape] at hkx'
      rw [ob'.len] at hn8 e ⊢
      have hk' : k' = 1 + (n' + 7) / 8 := by
        obtain ⟨_, _, l, hl, _, hk⟩ := needL_inl ob'.need
        have : kindP h (sh' : Int) = l.1 := by unfold kindP; rw [hl]
        rw [if_pos (by rw [← this]; exact hkx')] at hk; omega
      have hxy : x = y := by
        have a1 := ob.apart x hx
        have a2 := ob'.apart y hm
        omega
      subst hxy
      have e1 : sh' = sh := by rw [← ob'.shape, ← ob.shape]
      have e2 : n' = n := by rw [← ob'.len, ← ob.len]
      subst e1; subst e2
      exact hpd hkx' hn8 e.symm
    · rw [hword _ e]
      exact ok.pad x hx hkx hn8

theorem storeP_ok {h h' : Hp} (ok : HpOk h) {x i : Int} {v : Nat} (hv : W64 v) (hs : storeP h x i v = some h') :
    HpOk h' ∧ h'.objs = h.objs ∧ h'.lays = h.lays ∧ h'.top = h.top ∧ h'.words.length = h.words.length := by
  unfold storeP at hs
  split at hs
  · rename_i hc
    cases hs
    rw [Bool.and_eq_true] at hc
    obtain ⟨y, j, sh, n, k, rfl, rfl, hm, ob, hj, hkd, h1, _⟩ := hasP_spec ok hc.1
    have h1 := h1 rfl
    have e : ((y : Int) + 1 + j).toNat = y + 1 + j := by omega
    rw [e]
    exact ⟨ok.setWord hm ob (by omega) (by omega) hv (fun _ => hc.2) (fun h3 => by simp [h3] at hkd), rfl, rfl, rfl, by simp⟩
  · cases hs

theorem withByte_lt {w b : Nat} {i : Int} (hw : W64 w) (hb : b < 256) : W64 (withByte w i b) := by
  unfold withByte bOf W64 at *
  obtain ⟨s, hs, hs8⟩ : ∃ s : Nat, (i % 8 * 8).toNat = s ∧ (s = 0 ∨ s = 8 ∨ s = 16 ∨ s = 24 ∨ s = 32 ∨ s = 40 ∨ s = 48 ∨ s = 56) := ⟨_, rfl, by omega⟩
  rw [hs]
  rcases hs8 with rfl | rfl | rfl | rfl | rfl | rfl | rfl | rfl <;> omega

theorem withByte_pad {w j n b : Nat} (hb : b < 256) (hw : w < 2 ^ (n % 8 * 8)) (hj : j % 8 < n % 8) : withByte w (j : Int) b < 2 ^ (n % 8 * 8) := by
  unfold withByte bOf
  have e : ((j : Int) % 8 * 8).toNat = j % 8 * 8 := by omega
  rw [e]
  obtain ⟨s, hs⟩ : ∃ s, j % 8 = s := ⟨_, rfl⟩
  obtain ⟨m, hm⟩ : ∃ m, n % 8 = m := ⟨_, rfl⟩
  have hm8 : m < 8 := by omega
  rw [hs] at hj ⊢
  rw [hm] at hj hw ⊢
  have hd := Nat.div_add_mod w (2 ^ (s * 8))
  have hr := Nat.mod_lt w (Nat.two_pow_pos (s * 8))
  have hd2 := Nat.div_add_mod (w / 2 ^ (s * 8)) 256
  generalize w / 2 ^ (s * 8) = q at *
  generalize w % 2 ^ (s * 8) = r at *
  obtain ⟨d, rfl⟩ : ∃ d, m = s + 1 + d := ⟨m - s - 1, by omega⟩
  have hp : 2 ^ ((s + 1 + d) * 8) = 2 ^ (s * 8) * (256 * 2 ^ (d * 8)) := by
    rw [show (s + 1 + d) * 8 = s * 8 + (8 + d * 8) by omega, Nat.pow_add, Nat.pow_add]
  rw [hp] at hw ⊢
  generalize 2 ^ (s * 8) = A at *
  generalize 2 ^ (d * 8) = B at *
  have hq : q < 256 * B := by
    apply Nat.lt_of_mul_lt_mul_left (a := A)
    omega
  have hqb : q - q % 256 + b < 256 * B := by omega
  have h1 : A * (q - q % 256 + b) + A ≤ A * (256 * B) := by
    have := Nat.mul_le_mul_left A (show q - q % 256 + b + 1 ≤ 256 * B by omega)
    rw [Nat.mul_add, Nat.mul_one] at this; exact this
  have h2 : w - q % 256 * A + b * A = A * (q - q % 256 + b) + r := by
    have : A * q = A * (q - q % 256) + q % 256 * A := by
      rw [Nat.mul_comm (q % 256) A, ← Nat.mul_add]; congr 1; omega
    rw [Nat.mul_add, Nat.mul_comm b A]; omega
  rw [h2]; omega

theorem setByteP_ok {h : Hp} (ok : HpOk h) (x i : Int) {b : Nat} (hb : b < 256) :
    HpOk (setByteP h x i b) ∧ (setByteP h x i b).objs = h.objs ∧ (setByteP h x i b).lays = h.lays ∧ (setByteP h x i b).top = h.top ∧ (setByteP h x i b).words.length = h.words.length := by
  unfold setByteP
  split
  · rename_i hc
    obtain ⟨y, j, sh, n, k, rfl, rfl, hm, ob, hj, hkd, _, h1⟩ := hasP_spec ok hc
    have h1 := h1 rfl
    have hn := ob.nle
    have e : ((y : Int) + 1 + j / 8).toNat = y + 1 + j / 8 := by omega
    rw [e]
    refine ⟨ok.setWord hm ob (by omega) (by omega) (withByte_lt (word64 ok _) hb) (fun hne => absurd (by simpa using hkd) hne) (fun h3 hn8 hp => ?_), rfl, rfl, rfl, by simp⟩
    have hpd := ok.pad y hm (by rw [ob.shape]; exact h3) (by rw [ob.len]; exact hn8)
    rw [ob.len] at hpd
    have e5 : ((y : Int) + 1 + j / 8) = ((y + 1 + n / 8 : Nat) : Int) := by omega
    rw [e5]
    exact withByte_pad hb hpd (by omega)
  · exact ⟨ok, rfl, rfl, rfl, rfl⟩

theorem isP_same {h h' : Hp} (ho : h'.objs = h.objs) (ht : h'.top = h.top) (x : Int) : isP h' x = isP h x := by unfold isP; rw [ho, ht]
theorem fitsP_same {h h' : Hp} (ho : h'.objs = h.objs) (ht : h'.top = h.top) (x : Nat) : fitsP h' x = fitsP h x := by unfold fitsP; rw [isP_same ho ht]

theorem Chain.snoc {lays : List (Int × Int)} {ws : List Nat} : ∀ {a b : Nat} {objs : List Nat}, Chain ws lays a objs b → ∀ sh n k : Nat, ws[b]? = some (wHead sh n) → sh < lays.length → n ≤ 65536 → needL lays sh n = .inl (k : Int) → b + k ≤ ws.length →
    Chain ws lays a (objs ++ [b]) (b + k)
  | _, _, [], h, sh, n, k, h1, h2, h3, h4, h5 => by
    have h : _ = _ := h
    subst h
    exact ⟨rfl, sh, n, k, h1, h2, h3, h4, h5, rfl⟩
  | _, _, _ :: _, ⟨e, sh', n', k', g1, g2, g3, g4, g5, g6⟩, sh, n, k, h1, h2, h3, h4, h5 =>
    ⟨e, sh', n', k', g1, g2, g3, g4, g5, Chain.snoc g6 sh n k h1 h2 h3 h4 h5⟩

theorem Chain.words {lays : List (Int × Int)} {ws ws' : List Nat} : ∀ {a b : Nat} {objs : List Nat}, Chain ws lays a objs b → ws.length ≤ ws'.length → (∀ i, i < b → ws'[i]? = ws[i]?) → Chain ws' lays a objs b
  | _, _, [], h, _, _ => h
  | _, _, _ :: _, ⟨e, sh, n, k, h1, h2, h3, h4, h5, h6⟩, hl, hw => by
    subst e
    have hle := Chain.le h6
    have hk : 1 ≤ k := by
      obtain ⟨_, _, l, _, _, hk⟩ := needL_inl h4
      split at hk <;> omega
    exact ⟨rfl, sh, n, k, by rw [hw _ (by omega)]; exact h1, h2, h3, h4, by omega, Chain.words h6 hl hw⟩

/-- The words of a heap with an object more. -/
def allocW (ws : List Nat) (top : Nat) (head : Nat) (n : Nat) : List Nat := ws.take top ++ (head :: List.replicate n 1) ++ ws.drop (top + 1 + n)

theorem allocW_length {ws : List Nat} {top head n : Nat} (h : top + 1 + n ≤ ws.length) : (allocW ws top head n).length = ws.length := by
  simp [allocW]; omega
theorem allocW_get {ws : List Nat} {top head n : Nat} (h : top + 1 + n ≤ ws.length) (i : Nat) :
    (allocW ws top head n)[i]? = if i = top then some head else if top < i ∧ i ≤ top + n then some 1 else ws[i]? := by
  unfold allocW
  by_cases h1 : i < top
  · rw [if_neg (by omega), if_neg (by omega), List.append_assoc, List.getElem?_append_left (by simp; omega)]
    rw [List.getElem?_take, if_pos h1]
  · by_cases h2 : i = top
    · rw [if_pos h2, List.append_assoc, List.getElem?_append_right (by simp; omega)]
      have e : i - (ws.take top).length = 0 := by simp; omega
      rw [e]; rfl
    · rw [if_neg h2]
      by_cases h3 : top < i ∧ i ≤ top + n
      · rw [if_pos h3, List.append_assoc, List.getElem?_append_right (by simp; omega)]
        have e : i - (ws.take top).length = (i - top - 1) + 1 := by simp; omega
        rw [e, List.cons_append, List.getElem?_cons_succ, List.getElem?_append_left (by simp; omega)]
        rw [List.getElem?_replicate, if_pos (by omega)]
      · rw [if_neg h3, List.getElem?_append_right (by simp; omega), List.getElem?_drop]
        congr 1; simp; omega

end Go.GX
