/- VmDeep answers true at every input and leaves its arguments as they were; no condition: text 9 of 12. -/
import Derived.Recover
import Derived.Tactics
import Derived.Tactics2
import Derived.Laws.Rows
import Derived.Test.YtgnfodphfgmdlaaGreatDeep08
set_option linter.all false
/- The contract of heap.New, joined. -/
namespace Go.GX
open Go

/-- A layout of a slice that grows. -/
theorem IA_gl {w : World} {o : Option (Nat × List Value)} {lays : List (Int × Int)} (hg : GrAt w o 121 (laysC lays)) {i : Nat} {x : Int × Int} (hx : lays[i]? = some x) {K : Value → Prop}
    (hK : ∀ b off, (∀ (j : Nat) v, [vInt x.1, vInt x.2][j]? = some v → w.cell? ⟨b, off + j, none⟩ = some v) → K (.pointer (some ⟨b, off, none⟩))) : IA 2 (laysV o lays.length) (vInt i) K := by
  have hlt := (List.getElem?_eq_some_iff.1 hx).1
  cases o with
  | none =>
    have hz : laysC lays = [] := hg
    cases hq : lays with
    | nil => rw [hq] at hlt; simp at hlt
    | cons a b => rw [hq] at hz; simp [laysC] at hz
  | some q =>
    have hb : Blk w q.1 121 (laysC lays ++ q.2) := hg
    show IA 2 (.slice _ _ _) _ _
    rw [IA_slice]
    refine ⟨by omega, ?_⟩
    rw [add_lit, Int.toNat_natCast, Nat.zero_add]
    have hgt := laysC_get lays i x hx
    refine hK _ _ fun j v hj => ?_
    rw [hb.cell]
    match j, hj with
    | 0, hj => cases hj; rw [Nat.add_zero, List.getElem?_append_left (List.getElem?_eq_some_iff.1 hgt.1).1]; exact hgt.1
    | 1, hj => cases hj; rw [List.getElem?_append_left (List.getElem?_eq_some_iff.1 hgt.2).1]; exact hgt.2

theorem LEN_gl {w : World} {o : Option (Nat × List Value)} {lays : List (Int × Int)} (hg : GrAt w o 121 (laysC lays)) {K : Value → Prop} (hK : K (vInt lays.length)) : LEN (.sl 2) (laysV o lays.length) K := by
  cases o with
  | none =>
    have hz : laysC lays = [] := hg
    cases hq : lays with
    | nil => rw [hq] at hK; exact hK
    | cons a b => rw [hq] at hz; simp [laysC] at hz
  | some q => exact hK
end Go.GX
namespace Go.Proofs.YtgnfodphfgmdlaaGreat
open Go Go.GX

theorem zero121 : zeroB Tryz.prog 121 = some [vInt 0, vInt 0] := by kernel_rfl

section
variable {w : World} {K : Value → World → Prop} {X : List PanicEntry → World → Prop}

set_option maxRecDepth 20000 in
/-- New -/
theorem c57 {n : Nat} (hn : n ≤ 65536) {o : Option (Nat × List Value)} {lays : List (Int × Int)} (hg : GrAt w o 121 (laysC lays)) (hl : lays.length ≤ 512)
    (hok : lays.all layOk = true → ∀ w' (L : Lay), Ext w w' → HpAt w' L (newHp n lays) → L.hpOk → (∀ x ∈ L.hpB, w.heap.size ≤ x) → K (.tuple #[vPtr L.h, vInt 0]) w')
    (hno : lays.all layOk = false → ∀ w', Ext w w' → K (.tuple #[.pointer none, vInt 1]) w') : CAL Tryz.prog 57 #[vInt n, laysV o lays.length] w K X := n57 <| by
  unfold N57
  rw [BIN_lss]
  have e0 : decide ((n : Int) < 0) = false := by simp
  rw [e0, GRP_or, if_neg (by simp), BIN_gtr]
  have e1 : decide ((65536 : Int) < n) = false := by simp; omega
  rw [e1]
  show CND _ _ _
  rw [CND_bool, if_neg (by simp)]
  refine LEN_gl hg ?_
  rw [BIN_gtr]
  have e2 : decide ((512 : Int) < lays.length) = false := by simp; omega
  rw [e2, CND_bool, if_neg (by simp)]
  refine LEN_gl hg ?_
  refine LOOP1_rel (fun k a w' => ∃ i : Nat, a = vInt i ∧ i ≤ lays.length ∧ Ext w w' ∧ (lays.take i).all layOk = true ∧ k = lays.length - i) ⟨0, rfl, Nat.zero_le _, Ext.refl w, by simp, rfl⟩ ?_
  rintro k a w2 back ⟨i, rfl, hi, ex2, hall, rfl⟩ hback
  have hg2 : GrAt w2 o 121 (laysC lays) := hg.same fun b hb => ex2.same b (hg.lt b hb)
  rw [BIN_lss, CND_bool]
  by_cases hlt : i < lays.length
  · rw [if_pos (by simpa using hlt)]
    have hx : lays[i]? = some lays[i] := List.getElem?_eq_getElem hlt
    generalize lays[i] = x at hx
    have hmem : x ∈ lays := List.mem_of_getElem? hx
    refine IA_gl hg2 hx fun b off hc => ?_
    refine LDN_at (vs := [vInt x.1, vInt x.2]) rfl hc ?_
    refine LOCAL (vs := [vInt x.1, vInt x.2]) zero121 rfl rfl (by intro v hv; simp at hv; rcases hv with rfl | rfl <;> rfl) fun w4 e4 hb4 _ => ?_
    rw [FA_at]
    refine LD_blk hb4 (v := vInt x.1) rfl ?_
    rw [BIN_lss]
    refine GRP_or_to (u := decide ((3 : Int) < x.1)) (fun _ hk => ?_) ?_
    · rw [FA_at]; refine LD_blk hb4 (v := vInt x.1) rfl ?_; rw [BIN_gtr]; exact hk
    refine GRP_or_to (u := decide (x.2 < 0)) (fun _ hk => ?_) ?_
    · rw [FA_at]; refine LD_blk hb4 (v := vInt x.2) rfl ?_; rw [BIN_lss]; exact hk
    refine GRP_or_to (u := decide ((65536 : Int) < x.2)) (fun _ hk => ?_) ?_
    · rw [FA_at]; refine LD_blk hb4 (v := vInt x.2) rfl ?_; rw [BIN_gtr]; exact hk
    rw [CND_bool]
    have hlay : (((decide (x.1 < 1) || decide ((3 : Int) < x.1)) || decide (x.2 < 0)) || decide ((65536 : Int) < x.2)) = !layOk x := by
      unfold layOk
      rw [Bool.eq_iff_iff]
      simp only [Bool.or_eq_true, decide_eq_true_eq, Bool.not_eq_true', Bool.and_eq_false_iff, decide_eq_false_iff_not]
      omega
    rw [hlay]
    cases hlo : layOk x with
    | false =>
      rw [if_pos (by rfl)]
      refine hno ?_ w4 (ex2.trans e4)
      rw [List.all_eq_false]
      exact ⟨x, hmem, by simp [hlo]⟩
    | true =>
      rw [if_neg (by simp), BIN_add, wrap64 _ (by omega)]
      refine hback _ _ (lays.length - (i + 1)) (by omega) ⟨i + 1, rfl, hlt, ex2.trans e4, ?_, rfl⟩
      rw [List.take_succ, hx]
      simp [List.all_append, hall, hlo]
  · rw [if_neg (by simpa using hlt)]
    have hil : i = lays.length := by omega
    subst hil
    have hall' : lays.all layOk = true := by simpa using hall
    have hok := hok hall'
    have edr := ex2.drew
    have hdr : w2.drew.heap.size = w2.heap.size := rfl
    have hsz := ex2.size
    have hgd : GrAt w2.drew o 121 (laysC lays) := hg2
    have e6 : (n : Int).tdiv 64 = ((n / 64 : Nat) : Int) := by rw [Int.tdiv_eq_ediv_of_nonneg (by omega)]; omega
    rw [BIN_quo]
    refine ⟨by omega, ?_⟩
    rw [e6, wrap64 _ (by omega), BIN_add, wrap64 _ (by omega), show ((n / 64 : Nat) : Int) + 1 = ((n / 64 + 1 : Nat) : Int) by omega]
    have hn2 : n / 64 + 1 ≤ 65536 := by omega
    have gmono : ∀ {a b : World} {og : Option (Nat × List Value)}, GrAt a og 121 (laysC lays) → Ext a b → GrAt b og 121 (laysC lays) := fun hg e => hg.same fun x hx => e.same x (hg.lt x hx)
    refine ⟨?_, ?_, ?_⟩
    · refine opMake hn fun w8 a x1 ba na la => ⟨?_, ?_⟩
      · refine opMake hn2 fun w9 b x2 bb nb lb => ?_
        refine opApp (gmono hgd (x1.trans x2)) hl fun w10 o' x3 ho hob => ?_
        have s1 := x1.size; have s2 := x2.size; have s3 := x3.size
        exact opFin (edr.trans (x1.trans (x2.trans x3))) (ba.ext (x2.trans x3)) (bb.ext x3) ho (by omega) (by omega) (fun x hx => ⟨by have := hob x hx; omega, by have := hob x hx; omega, by have := hob x hx; omega⟩) (by omega) hok
      · refine opApp (gmono hgd x1) hl fun w9 o' x2 ho hob => ?_
        refine opMake hn2 fun w10 b x3 bb nb lb => ?_
        have s1 := x1.size; have s2 := x2.size; have s3 := x3.size
        exact opFin (edr.trans (x1.trans (x2.trans x3))) (ba.ext (x2.trans x3)) bb (gmono ho x3) (by omega) (by omega) (fun x hx => ⟨by have := hob x hx; omega, by have := hob x hx; omega, by have := hob x hx; omega⟩) (by omega) hok
    · refine opMake hn2 fun w8 b x1 bb nb lb => ⟨?_, ?_⟩
      · refine opMake hn fun w9 a x2 ba na la => ?_
        refine opApp (gmono hgd (x1.trans x2)) hl fun w10 o' x3 ho hob => ?_
        have s1 := x1.size; have s2 := x2.size; have s3 := x3.size
        exact opFin (edr.trans (x1.trans (x2.trans x3))) (ba.ext x3) (bb.ext (x2.trans x3)) ho (by omega) (by omega) (fun x hx => ⟨by have := hob x hx; omega, by have := hob x hx; omega, by have := hob x hx; omega⟩) (by omega) hok
      · refine opApp (gmono hgd x1) hl fun w9 o' x2 ho hob => ?_
        refine opMake hn fun w10 a x3 ba na la => ?_
        have s1 := x1.size; have s2 := x2.size; have s3 := x3.size
        exact opFin (edr.trans (x1.trans (x2.trans x3))) ba (bb.ext (x2.trans x3)) (gmono ho x3) (by omega) (by omega) (fun x hx => ⟨by have := hob x hx; omega, by have := hob x hx; omega, by have := hob x hx; omega⟩) (by omega) hok
    · refine opApp hgd hl fun w8 o' x1 ho hob => ⟨?_, ?_⟩
      · refine opMake hn fun w9 a x2 ba na la => ?_
        refine opMake hn2 fun w10 b x3 bb nb lb => ?_
        have s1 := x1.size; have s2 := x2.size; have s3 := x3.size
        exact opFin (edr.trans (x1.trans (x2.trans x3))) (ba.ext x3) bb (gmono ho (x2.trans x3)) (by omega) (by omega) (fun x hx => ⟨by have := hob x hx; omega, by have := hob x hx; omega, by have := hob x hx; omega⟩) (by omega) hok
      · refine opMake hn2 fun w9 b x2 bb nb lb => ?_
        refine opMake hn fun w10 a x3 ba na la => ?_
        have s1 := x1.size; have s2 := x2.size; have s3 := x3.size
        exact opFin (edr.trans (x1.trans (x2.trans x3))) ba (bb.ext x3) (gmono ho (x2.trans x3)) (by omega) (by omega) (fun x hx => ⟨by have := hob x hx; omega, by have := hob x hx; omega, by have := hob x hx; omega⟩) (by omega) hok
end
end Go.Proofs.YtgnfodphfgmdlaaGreat
/- vm.Run, by hand: its parts up to the deferred call, by the transformer. -/
namespace Go.GX
open Go

def seqL : Code → Code
  | .seq x _ => x
  | c => c
def seqR : Code → Code
  | .seq _ y => y
  | c => c

/-- What stands behind a part that only ends normally, or panics. -/
def QG (G : Env → World → Prop) (Xp : List PanicEntry → World → Prop) : Exit → Env → World → Prop
  | .normal, E, w => G E w
  | .panic ch, _, w => Xp ch w
  | _, _, _ => False

theorem wp_first {P : Program} {ent : Nat → Bool} (hent : ∀ f, ent f = true → ∀ args w, (callFunc f args).run P w = .ok (.enter f args) w) (hm : P.follows .mixedOrders = true) {N : Nat} {Df : List Deferred} {x y : Code} {p : Plan} {E : Env} {a : Act} {w : World} {G : Env → World → Prop} {Xp : List PanicEntry → World → Prop} {Q : Exit → Act → World → Prop}
    (hchk : chkC P x p = true) (h : T P ent N x p E w (QG G Xp)) (hI : Inv Df N a) (hA : Agrees E a)
    (hn : ∀ E' a' w', Inv Df N a' → Agrees E' a' → Io w w' → G E' w' → y.wp P Q a' w') (hp : ∀ ch a' w', Inv Df N a' → Xp ch w' → Q (.panic ch) a' w') : (Code.seq x y).wp P Q a w := by
  have h' : T P ent N x p E w (QG (fun E' w' => Io w w' ∧ G E' w') Xp) := T_io (w0 := w) x p E w _ _ (Io.refl w) h fun e E' w' hi hh => by
    cases e with
    | normal => exact ⟨hi, hh⟩
    | ret => exact hh
    | panic ch => exact hh
    | outgrown => exact hh
    | exit i => exact hh
    | goto l => exact hh
  refine wp_seq (wp_mono (T_sound hent hm x p E w _ hchk h' a hI hA) ?_)
  intro e a' w' hL
  cases e with
  | normal => obtain ⟨h1, _, E', hA', hq⟩ := hL; exact hn E' a' w' h1 hA' hq.1 hq.2
  | ret => obtain ⟨_, _, _, _, hq⟩ := hL; exact hq.elim
  | panic ch => exact hp ch a' w' hL.1 hL.2
  | outgrown => exact hL.elim
  | exit i => obtain ⟨_, _, _, _, hq⟩ := hL; exact hq.elim
  | goto l => obtain ⟨_, _, _, _, hq⟩ := hL; exact hq.elim
end Go.GX
namespace Go.Proofs.YtgnfodphfgmdlaaGreat
open Go Go.GX
set_option maxRecDepth 20000

noncomputable def b17 : Code := codeOf Tryz.f17
noncomputable def r17_0 : Code := seqL (b17)
noncomputable def r17_1 : Code := seqL (seqR (b17))
noncomputable def r17_2 : Code := seqL (seqR (seqR (b17)))
noncomputable def r17_3 : Code := seqL (seqR (seqR (seqR (b17))))
noncomputable def r17_4 : Code := seqL (seqR (seqR (seqR (seqR (b17)))))
noncomputable def r17_5 : Code := seqL (seqR (seqR (seqR (seqR (seqR (b17))))))
noncomputable def r17_6 : Code := seqL (seqR (seqR (seqR (seqR (seqR (seqR (b17)))))))
noncomputable def r17_7 : Code := seqL (seqR (seqR (seqR (seqR (seqR (seqR (seqR (b17))))))))
noncomputable def r17_8 : Code := seqL (seqR (seqR (seqR (seqR (seqR (seqR (seqR (seqR (b17)))))))))
theorem b17_eq : b17 = .seq r17_0 (.seq r17_1 (.seq r17_2 (.seq r17_3 (.seq r17_4 (.seq r17_5 (.seq r17_6 (.seq r17_7 (.seq r17_8 .ret)))))))) := by kernel_rfl

section
variable (G : Env → World → Prop) (Xp : List PanicEntry → World → Prop) (w : World)
theorem reg0 (t0 t1 : Value) : T Tryz.prog ent 30 r17_0 (.reg (.sq 0 3 .nil)) [(0, t0), (1, t1)] w (QG G Xp) = (BOX t0 27 w fun t2 w1 => BOX t1 37 w1 fun t3 w2 => AL Tryz.prog 44 w2 fun t4 w3 => G [(4, t4), (3, t3), (2, t2), (0, t0), (1, t1)] w3) := by kernel_rfl
theorem reg1 (t0 t1 t2 t3 t4 : Value) : T Tryz.prog ent 30 r17_1 (.reg (.sq 0 6 .nil)) [(4, t4), (3, t3), (2, t2), (0, t0), (1, t1)] w (QG G Xp) = (FA 1 t3 fun u6 => LD w u6 fun u7 => MIN [u7, .int .i64 16777216] fun u8 => MAX [.int .i64 0, u8] fun u9 => FA 1 t3 fun u10 => GX.ST 1 w u10 u9 fun w1 => G [(10, u10), (9, u9), (8, u8), (7, u7), (6, u6), (4, t4), (3, t3), (2, t2), (0, t0), (1, t1)] w1) := by kernel_rfl
theorem reg2 (t0 t1 t2 t3 t4 u10 u6 u7 u8 u9 : Value) : T Tryz.prog ent 30 r17_2 (.reg (.sq 0 6 .nil)) [(10, u10), (9, u9), (8, u8), (7, u7), (6, u6), (4, t4), (3, t3), (2, t2), (0, t0), (1, t1)] w (QG G Xp) = (FA 2 t3 fun u11 => LD w u11 fun u12 => MIN [u12, .int .i64 65536] fun u13 => MAX [.int .i64 0, u13] fun u14 => FA 2 t3 fun u15 => GX.ST 1 w u15 u14 fun w1 => G [(15, u15), (14, u14), (13, u13), (12, u12), (11, u11), (10, u10), (9, u9), (8, u8), (7, u7), (6, u6), (4, t4), (3, t3), (2, t2), (0, t0), (1, t1)] w1) := by kernel_rfl
theorem reg3 (t0 t1 t2 t3 t4 u10 u11 u12 u13 u14 u15 u6 u7 u8 u9 : Value) : T Tryz.prog ent 30 r17_3 (.reg (.sq 0 6 .nil)) [(15, u15), (14, u14), (13, u13), (12, u12), (11, u11), (10, u10), (9, u9), (8, u8), (7, u7), (6, u6), (4, t4), (3, t3), (2, t2), (0, t0), (1, t1)] w (QG G Xp) = (FA 3 t3 fun u16 => LD w u16 fun u17 => MIN [u17, .int .i64 65536] fun u18 => MAX [.int .i64 0, u18] fun u19 => FA 3 t3 fun u20 => GX.ST 1 w u20 u19 fun w1 => G [(20, u20), (19, u19), (18, u18), (17, u17), (16, u16), (15, u15), (14, u14), (13, u13), (12, u12), (11, u11), (10, u10), (9, u9), (8, u8), (7, u7), (6, u6), (4, t4), (3, t3), (2, t2), (0, t0), (1, t1)] w1) := by kernel_rfl
theorem reg4 (t0 t1 t2 t3 t4 u10 u11 u12 u13 u14 u15 u16 u17 u18 u19 u20 u6 u7 u8 u9 : Value) : T Tryz.prog ent 30 r17_4 (.reg (.sq 0 5 .nil)) [(20, u20), (19, u19), (18, u18), (17, u17), (16, u16), (15, u15), (14, u14), (13, u13), (12, u12), (11, u11), (10, u10), (9, u9), (8, u8), (7, u7), (6, u6), (4, t4), (3, t3), (2, t2), (0, t0), (1, t1)] w (QG G Xp) = (LDN 5 w t3 fun u21 => BLD Tryz.prog 78 [(0, t2), (1, u21)] fun u22 => BOX u22 78 w fun u23 w1 => AL Tryz.prog 73 w1 fun u5 w2 => GX.ST 1 w2 u5 u23 fun w3 => G [(5, u5), (23, u23), (22, u22), (21, u21), (20, u20), (19, u19), (18, u18), (17, u17), (16, u16), (15, u15), (14, u14), (13, u13), (12, u12), (11, u11), (10, u10), (9, u9), (8, u8), (7, u7), (6, u6), (4, t4), (3, t3), (2, t2), (0, t0), (1, t1)] w3) := by kernel_rfl
theorem reg6 (t4 t5 : Value) : T Tryz.prog ent 30 r17_6 (.reg (.op 0 false (.op 1 false .nil))) [(5, t5), (4, t4)] w (QG G Xp) = (LD w t5 fun u25 => CAL Tryz.prog 29 #[u25] w (fun u26 w1 => G [(26, u26), (25, u25), (5, t5), (4, t4)] w1) Xp) := by kernel_rfl
theorem reg7 (t4 t5 : Value) : T Tryz.prog ent 30 r17_7 (.reg (.op 0 false (.op 1 false .nil))) [(5, t5), (4, t4)] w (QG G Xp) = (LD w t5 fun u27 => CAL Tryz.prog 30 #[u27] w (fun u28 w1 => G [(28, u28), (27, u27), (5, t5), (4, t4)] w1) Xp) := by kernel_rfl
end
end Go.Proofs.YtgnfodphfgmdlaaGreat
/- The contract of begin of package vm. -/
namespace Go.GX
open Go

/-- How a run begins. -/
def startP (c : Cx) : Res Unit :=
  if checkP c.im ≠ 0 then .stop 6 (vm0 (hp0 c))
  else if (c.im.shapes.map layOf).all layOk = true then
    match nth c.im.funcs c.im.main with
    | none => .stop 6 (vm0 (hp0 c))
    | some f => if f.params.length = 0 then callP c c.im.main [] (vm0 (hp0 c)) else .stop 6 (vm0 (hp0 c))
  else .stop 6 (vm0 (hp0 c))

/-- Bytes in a block that is not among the first ones. -/
def OV (w : World) (lo : Nat) (ov : Value) (l : List Nat) : Prop :=
  LenOk l.length ∧ (∀ x ∈ l, x < 256) ∧ ((ov = .slice none 0 0 ∧ l = []) ∨ ∃ b c, ov = .slice (some ⟨b, 0, none⟩) l.length c ∧ lo ≤ b ∧ b < w.heap.size ∧ ∀ (i : Nat) x, l[i]? = some x → w.cell? ⟨b, i, none⟩ = some (vB x))

theorem OV.same {w w' : World} {lo : Nat} {ov : Value} {l : List Nat} (h : OV w lo ov l) (hs : w.heap.size ≤ w'.heap.size) (e : ∀ b, lo ≤ b → b < w.heap.size → w'.heap[b]? = w.heap[b]?) : OV w' lo ov l :=
  ⟨h.1, h.2.1, h.2.2.imp id fun ⟨b, c, h1, h2, h3, h4⟩ => ⟨b, c, h1, h2, Nat.lt_of_lt_of_le h3 hs, fun i x hx => by rw [cell_same (e b h2 h3)]; exact h4 i x hx⟩⟩
theorem OV.sl {w : World} {lo : Nat} {ov : Value} {l : List Nat} (h : OV w lo ov l) : Sl 1 (ByteAt w) ov l := by
  obtain ⟨h1, h2, ⟨rfl, rfl⟩ | ⟨b, c, rfl, h3, h4, h5⟩⟩ := h
  · exact ⟨h1, none, 0, rfl, .inl rfl⟩
  · refine ⟨h1, _, c, rfl, .inr ⟨b, 0, rfl, fun i x hx => ⟨?_, h2 x (List.mem_of_getElem? hx)⟩⟩⟩
    rw [Nat.zero_add, Nat.mul_one]; exact h5 i x hx

/-- What came out, in the machine's own cells. -/
structure OutW (w : World) (mb lo : Nat) (s : Vm) : Prop where
  ex : ∃ cs ov, Blk w mb 78 cs ∧ cs[11]? = some (vInt s.kind) ∧ cs[12]? = some ov ∧ cs[13]? = some (.string s.exn) ∧ cs[14]? = some (vInt s.steps) ∧ cs[15]? = some (vInt s.swept) ∧ OV w lo ov s.output

theorem MS.outW {c : Ctx} {L : Lay} {s : Vm} {w : World} (h : MS c L s w) : OutW w L.m c.w0.heap.size s := by
  refine ⟨_, _, h.mach, rfl, rfl, rfl, rfl, rfl, ?_⟩
  have h1 := h.inv.output; have h2 := h.inv.steps; have h3 := h.ok.ok.fuel
  have hb := h.out.back
  have hu := h.out.u8
  have hl : LenOk s.output.length := by unfold LenOk; omega
  refine ⟨hl, hu, ?_⟩
  cases ho : L.ob with
  | none => exact .inl ⟨rfl, h.out.nil ho⟩
  | some q =>
    rw [ho] at hb
    have hb : Blk w q.1 5 (s.output.map vB ++ q.2) := hb
    refine .inr ⟨q.1, s.output.length + q.2.length, rfl, (h.new q.1 ?_).1, hb.lt, fun i x hx => ?_⟩
    · unfold Lay.all Lay.obB; rw [ho]; simp
    · rw [hb.cell, List.getElem?_append_left (by simp; exact (List.getElem?_eq_some_iff.1 hx).1)]
      simp [hx]

/-- The machine's cells ahead of its run. -/
def initC (c : Ctx) : List Value :=
  [vPtr c.ia, c.vin, vInt c.fuel, vInt c.heap, vInt c.stack, c.vcol, .pointer none, .slice none 0 0, vInt 0, vInt 0, vInt 0, vInt 0, .slice none 0 0, .string ByteArray.empty, vInt 0, vInt 0]

theorem OutW.init {c : Ctx} {w : World} {mb lo : Nat} (hb : Blk w mb 78 (initC c)) {h : Hp} : OutW w mb lo (vm0 h) :=
  ⟨_, _, hb, rfl, rfl, rfl, rfl, rfl, by unfold LenOk; simp [vm0], fun x hx => by simp [vm0] at hx, .inl ⟨rfl, rfl⟩⟩

theorem Cx.ok_of {c : Cx} (hc : checkP c.im = 0) (h1 : 0 ≤ c.fuel ∧ c.fuel ≤ 16777216) (h2 : 0 ≤ c.heap ∧ c.heap ≤ 65536) (h3 : 0 ≤ c.stack ∧ c.stack ≤ 65536) : c.Ok := by
  have sm := small_of (check_ok hc).1
  refine ⟨h1, h2, h3, fun f hf => (sm.funcs f hf).1, sm.fields, sm.strs, fun f hf b hb => ⟨((sm.funcs f hf).2.2.2 b hb).1, fun x hx => ?_⟩⟩
  have := ((sm.funcs f hf).2.2.2 b hb).2.2 x hx
  unfold bigI at this
  simp only [Bool.or_eq_false_iff, decide_eq_false_iff_not] at this
  exact ⟨by omega, by omega, by omega⟩

theorem JOIN_w {b : (World → Prop) → Prop} {r : World → Prop} (P : World → Prop) (hb : ∀ r' : World → Prop, (∀ w, P w → r' w) → b r') (hr : ∀ w, P w → r w) : JOIN b r := hb r hr

theorem GrAt.ext {w w' : World} {o : Option (Nat × List Value)} {t : TypeId} {xs : List Value} (h : GrAt w o t xs) (e : Ext w w') : GrAt w' o t xs := h.same fun b hb => e.same b (h.lt b hb)

end Go.GX
namespace Go.Proofs.YtgnfodphfgmdlaaGreat
open Go Go.GX
set_option maxRecDepth 20000

theorem bld121 (a : Value) (ha : a.cells = #[a]) (K : Value → Prop) : BLD Tryz.prog 121 [(0, a)] K = K (.agg #[a, .int .i64 0]) := by
  have : bldP Tryz.prog 121 = some (.fields [(0, 1), (1, 1)] [.int .i64 0, .int .i64 0]) := by kernel_rfl
  simp [BLD, this, buildV, fillL, ha, setRange, VO]

section
variable {w : World} {K : Value → World → Prop} {X : List PanicEntry → World → Prop}

/-- An append of one layout. -/
theorem app119 {o : Option (Nat × List Value)} {lays : List (Int × Int)} (hg : GrAt w o 121 (laysC lays)) (hev : ∀ q, o = some q → q.2.length % 2 = 0) (hl : lays.length ≤ 512) (x : Int × Int)
    (hK : ∀ w2 w' o', Ext w w2 → AppO w2 w' o o' → GrAt w' o' 121 (laysC (lays ++ [x])) → (∀ q, o' = some q → q.2.length % 2 = 0) → K (laysV o' (lays.length + 1)) w') :
    BSLC Tryz.prog 119 1 [(0, .agg #[vInt x.1, vInt x.2])] w fun t w2 => RUN Tryz.prog (Builtin.append_ #[119, 119] 119 #[laysV o lays.length, t]) w2 K := by
  have hb : bslP Tryz.prog 119 = some (.mk 121 2 [.int .i64 0, .int .i64 0]) := by kernel_rfl
  refine BSLC_all hb [.agg #[vInt x.1, vInt x.2]] (fun v hv => by simp at hv; subst hv; rfl) (by simp) fun w2 e2 hb2 hs2 => ?_
  have hfm : ([Value.agg #[vInt x.1, vInt x.2]].flatMap fun v => v.cells.toList) = [vInt x.1, vInt x.2] := rfl
  rw [hfm] at hb2
  have hsrc : Src 2 w2 (.slice (some ⟨w.heap.size, 0, none⟩) [Value.agg #[vInt x.1, vInt x.2]].length [Value.agg #[vInt x.1, vInt x.2]].length) 1 [vInt x.1, vInt x.2] :=
    ⟨rfl, .inr ⟨_, _, rfl, fun j v hj => by rw [add_lit, hb2.cell, Nat.zero_add]; exact hj⟩⟩
  have hone : ∀ v ∈ [vInt x.1, vInt x.2], v.oneCell' = true := fun v hv => by simp at hv; rcases hv with rfl | rfl <;> rfl
  have hlc := laysC_length lays
  have happ : laysC (lays ++ [x]) = laysC lays ++ [vInt x.1, vInt x.2] := by simp [laysC]
  have key : ∀ (base : Option Addr) (cap : Nat) (j : List Value), laysV o lays.length = .slice base lays.length cap →
      ((base = none ∧ lays.length = 0 ∧ cap = 0 ∧ laysC lays = [] ∧ o = none) ∨ ∃ b, o = some (b, j) ∧ base = some ⟨b, 0, none⟩ ∧ Blk w2 b 121 (laysC lays ++ j) ∧ (laysC lays).length = lays.length * 2 ∧ cap * 2 = (laysC lays).length + j.length) →
      RUN Tryz.prog (Builtin.append_ #[119, 119] 119 #[laysV o lays.length, .slice (some ⟨w.heap.size, 0, none⟩) [Value.agg #[vInt x.1, vInt x.2]].length [Value.agg #[vInt x.1, vInt x.2]].length]) w2 K := by
    intro base cap j heq hbb
    rw [heq]
    refine RUN_app (j := j) elem119 (by omega) (hbb.imp (fun h => ⟨h.1, h.2.1, h.2.2.1, h.2.2.2.1⟩) (fun ⟨b, _, h2, h3⟩ => ⟨b, h2, h3⟩)) hsrc hone (by omega) (by omega) fun w' base' j' cap' ha hc => ?_
    rcases ha with ⟨rfl, hbn, hxy, rfl, rfl⟩ | ⟨b', rfl, hblk, hcase⟩
    · simp at hxy
    · have he : cap' = (lays.length + 1) + j'.length / 2 := by omega
      have hev' : j'.length % 2 = 0 := by omega
      rw [he]
      refine hK w2 w' (some (b', j')) e2 ?_ (by rw [happ]; exact hblk) (fun q hq => by cases hq; exact hev')
      rcases hcase with ⟨h1, h2, h3⟩ | ⟨h1, h2⟩
      · left
        rcases hbb with ⟨h, _⟩ | ⟨b, ho, hb2', _⟩
        · rw [h] at h1; cases h1
        · rw [hb2'] at h1
          have : b = b' := by injection h1 with h1; injection h1
          subst this
          exact ⟨b, rfl, by rw [ho]; rfl, h2, h3⟩
      · right; exact ⟨fun b hb => by simp at hb; omega, h2⟩
  cases o with
  | none =>
    have hz : laysC lays = [] := hg
    have h0 : lays = [] := by
      cases lays with
      | nil => rfl
      | cons a b => simp [laysC] at hz
    subst h0
    exact key none 0 [] rfl (.inl ⟨rfl, rfl, rfl, rfl, rfl⟩)
  | some q =>
    have hblk0 : Blk w q.1 121 (laysC lays ++ q.2) := hg
    have := hev q rfl
    exact key (some ⟨q.1, 0, none⟩) (lays.length + q.2.length / 2) q.2 rfl (.inr ⟨q.1, rfl, rfl, hblk0.ext e2, by omega, by omega⟩)

/-- begin -/
theorem c29 (c : Ctx) (mb : Nat) (hw0 : Ext c.w0 w) (him : ImgAt c.w0 ⟨c.ia, 0, none⟩ c.im) (hin : Sl 1 (ByteAt c.w0) c.vin c.input) (hcol : Sl 1 (BoolAt c.w0) c.vcol c.collect)
    (hf : 0 ≤ c.fuel ∧ c.fuel ≤ 16777216) (hh : 0 ≤ c.heap ∧ c.heap ≤ 65536) (hs : 0 ≤ c.stack ∧ c.stack ≤ 65536) (hmb : Blk w mb 78 (initC c)) (hmb0 : c.w0.heap.size ≤ mb) (hmbv : mb ≠ c.vb) (hvl : c.vb < w.heap.size) (hvo : w.heap[c.vb]? = c.vo)
    (hK : ∀ s L w', startP c.toCx = .ok () s → L.m = mb → MS c L s w' → Ext w w' ∨ True → K (.tuple #[]) w') (hX : ∀ k s w', startP c.toCx = .stop k s → XE c w' → OutW w' mb c.w0.heap.size s → X (over k) w') :
    CAL Tryz.prog 29 #[vPtr mb] w K X := n29 <| by
  unfold N29
  obtain ⟨tv, t1, t2⟩ := him.types; obtain ⟨sv, s1, s2⟩ := him.shapes; obtain ⟨stv, st1, st2⟩ := him.strings; obtain ⟨nv, nn1, nn2⟩ := him.names; obtain ⟨fv, f1, f2⟩ := him.funcs
  have hcells : ∀ w', Ext c.w0 w' → ∀ (j : Nat) u, [tv, sv, stv, nv, fv, vInt c.im.main, vInt c.im.exn][j]? = some u → w'.cell? ⟨c.ia, 0 + j, none⟩ = some u := fun w' e j u hj => by
    refine e.cell ?_
    match j, hj with
    | 0, hj => cases hj; exact t1
    | 1, hj => cases hj; exact s1
    | 2, hj => cases hj; exact st1
    | 3, hj => cases hj; exact nn1
    | 4, hj => cases hj; exact f1
    | 5, hj => cases hj; exact him.main.1
    | 6, hj => cases hj; exact him.exn.1
  have hIV : ImgV c.w0 [tv, sv, stv, nv, fv, vInt c.im.main, vInt c.im.exn] c.im := ⟨⟨tv, sv, stv, nv, fv, rfl, t2, s2, st2, nn2, f2⟩, him.main.2, him.exn.2⟩
  rw [NC_ptr, FA_at]
  refine LD_blk hmb (v := vPtr c.ia) rfl ?_
  rw [NC_ptr]
  refine LDN_at (vs := [tv, sv, stv, nv, fv, vInt c.im.main, vInt c.im.exn]) rfl (hcells w hw0) ?_
  refine c31 (hIV.ext hw0) fun w1 e1 => ?_
  rw [BIN_eql]
  have hmb1 := hmb.ext e1
  have x01 : XE c w1 := XE.trans ⟨hw0, hvo, hvl⟩ e1
  have e01 := x01.toExt
  unfold startP at hK hX
  by_cases hc : checkP c.im = 0
  case neg =>
    rw [if_pos hc] at hX
    exact c56 _ _ (fun ht => by simp at ht; exact absurd ht hc) (fun _ => hX 6 _ w1 rfl x01 (OutW.init hmb1))
  rw [if_neg (by omega)] at hK hX
  have hok : c.toCx.Ok := Cx.ok_of hc hf hh hs
  have sm := small_of (check_ok hc).1
  refine c56 _ _ (fun _ => ?_) (fun hf => by simp at hf; omega)
  rw [NC_ptr, FA_at]
  refine LD_blk hmb1 (v := vPtr c.ia) rfl ?_
  rw [NC_ptr, FA_at]
  have hsv : ∀ w', Ext c.w0 w' → ∀ K, K sv → LD w' (.pointer (some ⟨c.ia, 1, none⟩)) K := fun w' e K hK => by
    rw [LD_some (show w'.cell? ⟨c.ia, 1, none⟩ = some sv from hcells w' e 1 sv rfl)]; exact hK
  refine hsv w1 e01 _ (LEN_sl s2 ?_)
  have hsl := sm.shapes
  refine LOOP2_rel (fun n a b w' => ∃ (i : Nat) (o : Option (Nat × List Value)), a = laysV o i ∧ b = vInt i ∧ i ≤ c.im.shapes.length ∧ Ext w1 w' ∧ GrAt w' o 121 (laysC ((c.im.shapes.take i).map layOf)) ∧ Own w1 o ∧ (∀ q, o = some q → q.2.length % 2 = 0) ∧ n = c.im.shapes.length - i)
    ⟨0, none, rfl, rfl, Nat.zero_le _, Ext.refl w1, rfl, fun b hb => (by simp at hb), fun q hq => (by cases hq), rfl⟩ ?_
  rintro n a b w3 back ⟨i, o, rfl, rfl, hi, e3, hg, hown, hev, rfl⟩ hback
  have e03 := e01.trans e3
  rw [BIN_lss, CND_bool]
  by_cases hlt : i < c.im.shapes.length
  · rw [if_pos (by simpa using hlt)]
    have hgi : c.im.shapes[(i : Int).toNat]? = some c.im.shapes[i] := List.getElem?_eq_getElem hlt
    have htk : (c.im.shapes.take (i + 1)).map layOf = (c.im.shapes.take i).map layOf ++ [layOf c.im.shapes[i]] := by
      rw [List.take_succ_eq_append_getElem hlt, List.map_append]; rfl
    generalize c.im.shapes[i] = sh at hgi htk
    refine IA_sl s2 (by omega) hgi fun b off hx => ?_
    have hxe := hx.ext e03
    obtain ⟨fiv, h1, h2⟩ := hxe.cells
    refine LDN_at rfl h2 ?_
    refine LOCAL2 (vs := [vInt sh.kind, fiv, .string sh.name]) (by kernel_rfl) rfl (fun u hu => by simp at hu; rcases hu with rfl | rfl | rfl; rfl; exact h1.isSlN.one; rfl) fun w5 e5 hb5 _ => ?_
    rw [FA_at]
    refine LD_blk hb5 (v := vInt sh.kind) rfl ?_
    rw [bld121 _ rfl]
    refine LOCAL2 (vs := [vInt sh.kind, vInt 0]) (by kernel_rfl) rfl (fun u hu => by simp at hu; rcases hu with rfl | rfl <;> rfl) fun w7 e7 hb7 hs7 => ?_
    have hb57 := hb5.ext e7
    have hne : w5.heap.size ≠ w3.heap.size := by have := e5.size; have := hb5.lt; omega
    refine JOIN_w (fun w' => Blk w' w5.heap.size 121 [vInt (layOf sh).1, vInt (layOf sh).2] ∧ Ext w3 w') ?_ ?_
    · intro J hJ
      rw [FA_at]
      refine LD_blk hb57 (v := vInt sh.kind) rfl ?_
      rw [BIN_eql, CND_bool]
      by_cases hk : sh.kind = 1
      · rw [if_pos (by simpa using hk), FA_at]
        refine LD_blk hb57 (v := fiv) rfl (LEN_sl h1 ?_)
        rw [FA_at]
        refine ST_one hb7 (by simp) rfl rfl (hJ _ ⟨?_, (e5.trans e7).setCell (by show w3.heap.size ≤ w5.heap.size; exact e5.size) _⟩)
        have := hb7.set (o := 1) (vInt sh.fields.length)
        simpa [layOf, hk] using this
      · rw [if_neg (by simpa using hk)]
        refine hJ _ ⟨?_, e5.trans e7⟩
        simpa [layOf, hk] using hb7
    · rintro w8 ⟨hb8, e8⟩
      refine LDN_at (vs := [vInt (layOf sh).1, vInt (layOf sh).2]) rfl (fun j v hj => by rw [hb8.cell, Nat.zero_add]; exact hj) ?_
      have hlen : ((c.im.shapes.take i).map layOf).length = i := by simp; omega
      have := app119 (w := w8) (o := o) (lays := (c.im.shapes.take i).map layOf) (hg.ext e8) hev (by omega) (layOf sh) (K := fun t43 w11 => BIN .int .add (vInt i) (.int .i64 1) fun t44 => back t43 t44 w11) ?_
      · rw [hlen] at this; exact this
      · intro w2' w' o' e2' hap hg' hev'
        obtain ⟨e11, ho11⟩ := hap.ext ((e3.trans e8).trans e2') hown
        rw [BIN_add, wrap64 _ (by omega), hlen]
        exact hback _ _ _ (c.im.shapes.length - (i + 1)) (by omega) ⟨i + 1, o', rfl, rfl, hlt, e11, by rw [htk]; exact hg', ho11, hev', rfl⟩
  · rw [if_neg (by simpa using hlt)]
    have hil : i = c.im.shapes.length := by omega
    subst hil
    rw [List.take_length] at hg
    have hmb3 := hmb1.ext e3
    rw [NC_ptr, FA_at, FA_at]
    refine LD_blk hmb3 (v := vInt c.heap) rfl ?_
    have hll : (c.im.shapes.map layOf).length = c.im.shapes.length := by simp
    obtain ⟨hn, hhn⟩ : ∃ n : Nat, c.heap = n := ⟨c.heap.toNat, by omega⟩
    have c57' := fun (K' : Value → World → Prop) h1 h2 => c57 (w := w3) (K := K') (X := X) (n := hn) (by omega) hg (by omega) h1 h2
    rw [hll] at c57'
    rw [hhn]
    refine c57' _ (fun hall w12 L0 e12 hp12 hok12 hnew12 => ?_) (fun hall w12 e12 => ?_)
    case refine_2 =>
      rw [if_neg (by rw [hall]; simp)] at hX
      rw [EX_0, EX_1, BIN_eql]
      have e0 : decide ((1 : Int) = 0) = false := by simp
      rw [e0]
      refine GRP_and_to (u := false) (fun h => by cases h) ?_
      refine GRP_and_to (u := false) (fun h => by cases h) ?_
      refine GRP_and_to (u := false) (fun h => by cases h) ?_
      exact c56 _ _ (fun ht => by simp at ht) (fun _ => hX 6 _ _ rfl ((x01.trans e3).trans e12).drew (OutW.init (hmb3.ext e12.drew)))
    rw [if_pos hall] at hK hX
    rw [EX_0, EX_1, BIN_eql]
    have e0 : decide ((0 : Int) = 0) = true := by simp
    rw [e0]
    have hmbd := hmb3.ext e12.drew
    have x012 := ((x01.trans e3).trans e12).drew
    have e012 := x012.toExt
    have hcl := hcells _ e012
    have hmain : ∀ K, K (vInt c.im.main) → LD w12.drew (.pointer (some ⟨c.ia, 5, none⟩)) K := fun K hK => by rw [LD_some (show w12.drew.cell? ⟨c.ia, 5, none⟩ = some (vInt c.im.main) from hcl 5 _ rfl)]; exact hK
    have hfuncs : ∀ K, K fv → LD w12.drew (.pointer (some ⟨c.ia, 4, none⟩)) K := fun K hK => by rw [LD_some (show w12.drew.cell? ⟨c.ia, 4, none⟩ = some fv from hcl 4 _ rfl)]; exact hK
    have hmi := him.main.2
    have hfl := f2.len
    refine GRP_and_to (u := decide (0 ≤ c.im.main)) (fun _ hk => ?_) ?_
    · rw [NC_ptr, FA_at]
      refine LD_blk hmbd (v := vPtr c.ia) rfl ?_
      rw [NC_ptr, FA_at]
      refine hmain _ ?_
      rw [BIN_geq]; exact hk
    refine GRP_and_to (u := decide (c.im.main < c.im.funcs.length)) (fun _ hk => ?_) ?_
    · rw [NC_ptr, FA_at]
      refine LD_blk hmbd (v := vPtr c.ia) rfl ?_
      rw [NC_ptr, FA_at]
      refine hmain _ ?_
      rw [NC_ptr, FA_at]
      refine LD_blk hmbd (v := vPtr c.ia) rfl ?_
      rw [NC_ptr, FA_at]
      refine hfuncs _ (LEN_sl f2 ?_)
      rw [BIN_lss]; exact hk
    cases hfm : nth c.im.funcs c.im.main with
    | none =>
      have hno := nth_none hfm
      simp only [hfm] at hX
      refine GRP_and_to (u := false) (fun h => by simp at h; omega) ?_
      exact c56 _ _ (fun ht => by simp at ht) (fun _ => hX 6 _ _ rfl x012 (OutW.init hmbd))
    | some f =>
      have hlt2 := nth_lt hfm
      simp only [hfm] at hX hK
      refine GRP_and_to (u := decide ((f.params.length : Int) = 0)) (fun _ hk => ?_) ?_
      · rw [NC_ptr, FA_at]
        refine LD_blk hmbd (v := vPtr c.ia) rfl ?_
        rw [NC_ptr, FA_at]
        refine hfuncs _ ?_
        rw [NC_ptr, FA_at]
        refine LD_blk hmbd (v := vPtr c.ia) rfl ?_
        rw [NC_ptr, FA_at]
        refine hmain _ ?_
        refine IA_sl f2 hlt2.1 (nth_some hfm).2 fun b off hx => ?_
        obtain ⟨pv, bv, h1, h2, h3⟩ := (hx.ext e012).cells
        rw [FA_at]
        rw [LD_some (show w12.drew.cell? ⟨b, off + 0, none⟩ = some pv from h3 0 pv rfl)]
        refine LEN_sl h1 ?_
        rw [BIN_eql]; exact hk
      by_cases hpz : f.params.length = 0
      case neg =>
        rw [if_neg hpz] at hX
        exact c56 _ _ (fun ht => by simp only [Bool.and_eq_true, decide_eq_true_eq] at ht; omega) (fun _ => hX 6 _ _ rfl x012 (OutW.init hmbd))
      rw [if_pos hpz] at hK hX
      refine c56 _ _ (fun _ => ?_) (fun ht => by simp [hpz] at ht; omega)
      rw [NC_ptr, FA_at]
      refine ST_one hmbd (by simp [initC]) rfl rfl ?_
      have hmb17 := hmbd.set (o := 6) (vPtr L0.h)
      generalize hw17 : w12.drew.setCell ⟨mb, 6, none⟩ (vPtr L0.h) = w17 at *
      have hmbw : mb < w.heap.size := hmb.lt
      have hsz13 : w.heap.size ≤ w3.heap.size := Nat.le_trans e1.size e3.size
      have x017 : XE c w17 := by rw [← hw17]; exact x012.setCell ⟨hmb0, hmbv⟩ _
      have e017 := x017.toExt
      have hp17 : HpAt w17 L0 (newHp hn (c.im.shapes.map layOf)) := by
        rw [← hw17]
        refine hp12.same fun b hb => ?_
        have := hnew12 b hb
        exact setCell_other (show mb ≠ b by omega) _
      have hMS : MS c { L0 with m := mb, fr := [], fb := none, ob := none } (vm0 (hp0 c.toCx)) w17 := by
        have hnh : newHp hn (c.im.shapes.map layOf) = hp0 c.toCx := by unfold newHp hp0; rw [hhn]; simp
        rw [hnh] at hp17
        have hnok := newHp_ok (n := hn) (lays := c.im.shapes.map layOf) (by omega) (by omega) (fun l hl => List.all_eq_true.1 hall l hl)
        rw [hnh] at hnok
        refine ⟨⟨hok, him, hin, hcol⟩, ?_, x017, ?_, ⟨hp17.blk, hp17.words, hp17.heads, hp17.lays⟩, ⟨rfl, fun i f p h => by simp [vm0] at h, rfl, fun _ => rfl⟩, ⟨rfl, fun _ => rfl, fun x hx => by simp [vm0] at hx⟩, ?_, ?_⟩
        · exact ⟨hnok, rfl, rfl, by show (0 : Int) ≤ c.stack; omega, by simp [vm0], by simp [vm0], by simp [vm0], by simp [vm0], by simp [vm0], ⟨by simp [vm0], by show (0 : Int) ≤ c.fuel; omega⟩, by simp [vm0], by simp [vm0], by simp [vm0], by simp [vm0], rfl⟩
        · exact hmb17
        · unfold Lay.all Lay.frB Lay.obB
          simp only [List.map_nil, List.nil_append, Option.map_none, Option.toList, List.append_nil]
          refine List.nodup_cons.2 ⟨fun hm => ?_, hok12⟩
          have := hnew12 mb hm
          omega
        · intro b hb
          unfold Lay.all Lay.frB Lay.obB at hb
          simp only [List.map_nil, List.nil_append, Option.map_none, Option.toList, List.append_nil, List.mem_cons] at hb
          rcases hb with rfl | hb
          · exact ⟨hmb0, hmbv⟩
          · have := hnew12 b hb; have := hw0.size; exact ⟨by omega, by omega⟩
      rw [NC_ptr, FA_at]
      have hmb17' : Blk w17 mb 78 _ := hmb17
      refine LD_blk hmb17' (v := vPtr c.ia) rfl ?_
      rw [NC_ptr, FA_at]
      rw [LD_some (show w17.cell? ⟨c.ia, 5, none⟩ = some (vInt c.im.main) from hcells w17 e017 5 _ rfl)]
      refine c58 (L := { L0 with m := mb, fr := [], fb := none, ob := none }) hMS c.im.main (args := []) (o := none) rfl (fun b hb => by simp at hb) (fun x hx => by simp at hx) (by simp) ?_
      cases hcall : callP c.toCx c.im.main [] (vm0 (hp0 c.toCx)) with
      | ok u s => exact fun L' w' hm' _ hms => hK s L' w' hcall hm' hms (.inr trivial)
      | stop k s => exact fun L' w' hm' hms => hX k s w' hcall hms.xe (by have := hms.outW; rw [hm'] at this; exact this)
      | bad =>
        exfalso
        unfold callP at hcall
        rw [hfm] at hcall
        simp only at hcall
        split at hcall
        · split at hcall <;> cases hcall
        · cases hcall
end
end Go.Proofs.YtgnfodphfgmdlaaGreat
/- The closure of vm.Run that recovers. -/
namespace Go.GX
open Go
def isStr (o : Option TypeDesc) : Bool := match o with
  | some (.struct _) => true
  | _ => false

theorem run_assert {P : Program} {t x : TypeId} (h : isStr (P.underlying t) = true) (v : Value) (w : World) : (Instr.typeAssert (.iface t v) x t true).run P w = .ok (.tuple #[v, .bool true]) w := by
  cases hu : P.underlying t with
  | none => rw [hu] at h; cases h
  | some d =>
    rw [hu] at h
    cases d <;> simp only [isStr, Bool.false_eq_true] at h
    simp [Instr.typeAssert, run_underlying hu]

def blockBody : Code → Code
  | .block _ c => c
  | c => c
def condT : Code → Code
  | .cond _ x _ => x
  | c => c
def condF : Code → Code
  | .cond _ _ y => y
  | c => c
end Go.GX
namespace Go.Proofs.YtgnfodphfgmdlaaGreat
open Go Go.GX
set_option maxRecDepth 20000

noncomputable def t28 : Code := condT (seqR (blockBody (seqR (codeOf Tryz.f28))))
noncomputable def e28 : Code := condF (seqR (blockBody (seqR (codeOf Tryz.f28))))

theorem b28_eq : Tryz.f28.body = some (.seq (.region 0 #[{ dst := some 4, op := .call { callee := .builtin .recover, args := #[], argTypes := #[] }, type := 20, pos := "vm.go:51", after := #[], guard := none }] false)
    (.block 0 (.seq (.region 3 #[{ dst := some 6, op := .typeAssert (.tmp 4) 20 80 true, type := 0, pos := "vm.go:51", after := #[], guard := none },
        { dst := some 7, op := .extract (.tmp 6) 1, type := 4, pos := "vm.go:51", after := #[{ on := 0, ground := .data }], guard := none },
        { dst := some 8, op := .extract (.tmp 6) 0, type := 80, pos := "vm.go:51", after := #[{ on := 0, ground := .data }], guard := none }] false)
      (.cond (.tmp 7) t28 e28)))) := by kernel_rfl

def plan28 : Plan := .seq (.reg (.op 0 false (.op 1 false .nil))) (.seq (.reg (.sq 0 5 .nil)) (.reg (.sq 0 4 .nil)))

theorem chk28 : chkC Tryz.prog t28 plan28 = true := by kernel_rfl

theorem T28 (G : Env → World → Prop) (Xp : List PanicEntry → World → Prop) (w : World) (t0 t1 t8 : Value) : T Tryz.prog ent 16 t28 plan28 [(0, t0), (1, t1), (8, t8)] w (QG G Xp) =
    (AL Tryz.prog 80 w fun t2 w1 => GX.ST 1 w1 t2 t8 fun w2 =>
      LD w2 t0 fun t9 => NC t9 fun t10 => FA 11 t10 fun t11 => LDN 5 w2 t11 fun t12 => GX.ST 5 w2 t1 t12 fun w3 =>
      FA 0 t2 fun t13 => LD w3 t13 fun t14 => FA 0 t1 fun t15 => GX.ST 1 w3 t15 t14 fun w4 =>
      G [(15, t15), (14, t14), (13, t13), (12, t12), (11, t11), (10, t10), (9, t9), (2, t2), (0, t0), (1, t1), (8, t8)] w4) := by kernel_rfl

/-- What is told of a run. -/
structure Told5 (w : World) (ob lo : Nat) (k : Int) (s : Vm) : Prop where
  ex : ∃ ov, Blk w ob 44 [vInt k, ov, .string s.exn, vInt s.steps, vInt s.swept] ∧ OV w lo ov s.output

theorem c28 {w : World} {vb ob mb lo : Nat} {k : Int} {s : Vm} (hv : w.cell? ⟨vb, 0, none⟩ = some (vPtr mb)) (hm : OutW w mb lo s) {cs0 : List Value} (ho : Blk w ob 44 cs0) (hl0 : cs0.length = 5) {R : Ending → FrameMode → World → Prop}
    (hob : ob < lo) (hvb : vb ≠ ob) (hmb : mb ≠ ob)
    (hR : ∀ w', Told5 w' ob lo k s → (∀ i, i < w.heap.size → i ≠ ob → w'.heap[i]? = w.heap[i]?) → w.heap.size ≤ w'.heap.size → Io w w' → R (.returned (.tuple #[])) (.panicking [{ v := .iface 80 (.agg #[vInt k]), recovered := true }]) w') :
    CallsD Tryz.prog 28 #[vPtr vb, vPtr ob] (.panicking [{ v := .iface 80 (.agg #[vInt k]), recovered := false }]) w R := by
  refine callsD_of_wpS Tryz.func28 b28_eq fun c₀ cs hu => ?_
  apply wpS_seq
  apply wpS_region
  simp [wpOpsS, go_sem, recoverD, hu, Tryz.ntmps28, Exit.thenS]
  refine wpS_of_wp ?_
  refine wp_block ?_
  apply wp_seq
  apply wp_region
  have ha := run_assert (P := Tryz.prog) (t := 80) (x := 20) (by kernel_rfl) (.agg #[vInt k]) w
  simp [wpOps, wpOp, go_sem, Region.wanted, Oper.wp, Oper.upon, execOp, Act.eval, Act.put, ha]
  refine .inl (.inl (.inl ?_))
  generalize hT : (#[vPtr vb, vPtr ob] ++ ((((Array.replicate 14 undef).setIfInBounds 2 (Value.iface 80 (Value.agg #[vInt k]))).setIfInBounds 4 (Value.tuple #[Value.agg #[vInt k], Value.bool true])).setIfInBounds 5 (Value.bool true)).setIfInBounds 6 (Value.agg #[vInt k])) = tm
  have hsz : tm.size = 16 := by rw [← hT]; simp
  have h0 : tm[0]? = some (vPtr vb) := by rw [← hT]; simp
  have h1 : tm[1]? = some (vPtr ob) := by rw [← hT]; simp
  have h7 : tm[7]? = some (.bool true) := by rw [← hT]; simp
  have h8 : tm[8]? = some (.agg #[vInt k]) := by rw [← hT]; simp
  have hc7 : ({ tmps := tm, defers := [] } : Act).eval (.tmp 7) = .bool true := by
    show tm.getD 7 undef = _
    rw [Array.getD_eq_getD_getElem?, h7]; rfl
  refine wp_cond_true hc7 ?_
  refine wp_mono (T_sound (Df := []) (N := 16) hent mixed t28 plan28 [(0, vPtr vb), (1, vPtr ob), (8, .agg #[vInt k])] w (QG (fun _ w' => Told5 w' ob lo k s ∧ (∀ i, i < w.heap.size → i ≠ ob → w'.heap[i]? = w.heap[i]?) ∧ w.heap.size ≤ w'.heap.size ∧ Io w w') (fun _ _ => False)) chk28 ?_ { tmps := tm, defers := [] } ⟨rfl, hsz.symm⟩ ?_) ?_
  · refine T_io (w0 := w) t28 plan28 _ w (QG (fun _ w' => Told5 w' ob lo k s ∧ (∀ i, i < w.heap.size → i ≠ ob → w'.heap[i]? = w.heap[i]?) ∧ w.heap.size ≤ w'.heap.size) (fun _ _ => False)) _ (Io.refl w) ?_ (fun e E' w' hi hh => by
      cases e with
      | normal => exact ⟨hh.1, hh.2.1, hh.2.2, hi⟩
      | ret => exact hh
      | panic ch => exact hh
      | outgrown => exact hh
      | exit i => exact hh
      | goto l => exact hh)
    rw [T28]
    obtain ⟨cs, ov, hb, q11, q12, q13, q14, q15, hov⟩ := hm.ex
    have zero80 : zlen (zeroB Tryz.prog 80) 1 = true := by kernel_rfl
    obtain ⟨z, hz⟩ : ∃ z, zeroB Tryz.prog 80 = some z := by
      cases h : zeroB Tryz.prog 80 with
      | none => rw [h] at zero80; cases zero80
      | some z => exact ⟨z, rfl⟩
    have hzl : z.length = 1 := by rw [hz] at zero80; exact Nat.eq_of_beq_eq_true zero80
    refine AL_new hz fun w1 e1 hb1 hs1 => ?_
    have hob' := ho.lt
    have hmb' := hb.lt
    refine ST_all (vs := [vInt k]) hb1 rfl (by simp [hzl]) (fun v hv => by simp at hv; subst hv; rfl) fun w2 hb2 hs2 ho2 => ?_
    have e2 : Ext w w2 := ⟨by omega, fun i hi => by rw [ho2 i (by omega)]; exact e1.same i hi⟩
    rw [LD_some (e2.cell hv), NC_ptr, FA_at]
    have hbm2 := hb.ext e2
    refine LDN_at (vs := [vInt s.kind, ov, .string s.exn, vInt s.steps, vInt s.swept]) rfl (fun j v hj => ?_) ?_
    · rw [hbm2.cell]
      match j, hj with
      | 0, hj => cases hj; exact q11
      | 1, hj => cases hj; exact q12
      | 2, hj => cases hj; exact q13
      | 3, hj => cases hj; exact q14
      | 4, hj => cases hj; exact q15
    have hovo : ov.oneCell' = true := by
      obtain ⟨_, _, ⟨rfl, _⟩ | ⟨b, c, rfl, _⟩⟩ := hov <;> rfl
    refine ST_all (vs := [vInt s.kind, ov, .string s.exn, vInt s.steps, vInt s.swept]) (ho.ext e2) rfl (by simp [hl0]) (fun v hv => by simp at hv; rcases hv with rfl | rfl | rfl | rfl | rfl <;> first | rfl | exact hovo) fun w3 hb3 hs3 ho3 => ?_
    have hbx : Blk w3 w.heap.size 80 [vInt k] := hb2.same (ho3 _ (by omega))
    rw [FA_at]
    refine LD_blk hbx (v := vInt k) rfl ?_
    rw [FA_at]
    refine ST_one hb3 (by simp) rfl rfl ?_
    have hb4 := hb3.set (o := 0) (vInt k)
    have hb4' : Blk (w3.setCell ⟨ob, 0, none⟩ (vInt k)) ob 44 [vInt k, ov, .string s.exn, vInt s.steps, vInt s.swept] := hb4
    have hall : ∀ i, i < w.heap.size → i ≠ ob → (w3.setCell ⟨ob, 0, none⟩ (vInt k)).heap[i]? = w.heap[i]? := fun i hi hne => by
      rw [setCell_other (show ob ≠ i from fun e => hne e.symm), ho3 i hne]; exact e2.same i hi
    have hsz4 : (w3.setCell ⟨ob, 0, none⟩ (vInt k)).heap.size = w3.heap.size := by simp [World.setCell]
    exact (⟨⟨ov, hb4', hov.same (by omega) fun b h1 h2 => hall b h2 (by omega)⟩, hall, by omega⟩ : Told5 (w3.setCell ⟨ob, 0, none⟩ (vInt k)) ob lo k s ∧ (∀ i, i < w.heap.size → i ≠ ob → (w3.setCell ⟨ob, 0, none⟩ (vInt k)).heap[i]? = w.heap[i]?) ∧ w.heap.size ≤ (w3.setCell ⟨ob, 0, none⟩ (vInt k)).heap.size)
  · intro t v h
    simp only [lk] at h
    cases e0 : Nat.beq 0 t with
    | true => have := Nat.eq_of_beq_eq_true e0; subst this; rw [e0] at h; cases h; exact h0
    | false =>
      rw [e0] at h
      cases e1 : Nat.beq 1 t with
      | true => have := Nat.eq_of_beq_eq_true e1; subst this; rw [e1] at h; cases h; exact h1
      | false =>
        rw [e1] at h
        cases e8 : Nat.beq 8 t with
        | true => have := Nat.eq_of_beq_eq_true e8; subst this; rw [e8] at h; cases h; exact h8
        | false => rw [e8] at h; cases h
  · intro e a' w' hL
    cases e with
    | normal =>
      obtain ⟨h1, _, E', hA', hq1, hq2, hq3, hq4⟩ := hL
      refine ⟨h1.1, _, rfl, .tuple #[], ?_, hR w' hq1 hq2 hq3 hq4⟩
      simp [results, Tryz.results28]
    | ret => obtain ⟨_, _, _, _, hq⟩ := hL; exact hq.elim
    | panic ch => exact hL.2.elim
    | outgrown => exact hL.elim
    | exit i => obtain ⟨_, _, _, _, hq⟩ := hL; exact hq.elim
    | goto l => obtain ⟨_, _, _, _, hq⟩ := hL; exact hq.elim
end Go.Proofs.YtgnfodphfgmdlaaGreat
/- The contract of vm.Run. -/
namespace Go.GX
open Go

/-- How a whole run ends. -/
def EndP (c : Cx) (k : Int) (s : Vm) : Prop := startP c = .stop k s ∨ ∃ s0 n, startP c = .ok () s0 ∧ runP c n s0 = .stop k s

def clampI (x m : Int) : Int := if 0 ≤ x then (if x ≤ m then x else m) else 0
theorem clampI_fit {x m : Int} (h : 0 ≤ m) : 0 ≤ clampI x m ∧ clampI x m ≤ m := by unfold clampI; split <;> (try split) <;> omega
theorem clampI_of {x m : Int} (h : 0 ≤ x) (h' : x ≤ m) : clampI x m = x := by unfold clampI; rw [if_pos h, if_pos h']
theorem clamp_eq (x m : Int) (h : 0 ≤ m) : (if (if m < x then m else x) > 0 then (if m < x then m else x) else 0) = clampI x m := by unfold clampI; split <;> (try split) <;> (try split) <;> (try split) <;> omega

/-- The cells of the result. -/
def outC (k : Int) (ov : Value) (s : Vm) : List Value := [vInt k, ov, .string s.exn, vInt s.steps, vInt s.swept]
end Go.GX
namespace Go.Proofs.YtgnfodphfgmdlaaGreat
open Go Go.GX
set_option maxRecDepth 20000

theorem r5_eq : r17_5 = .region 5 #[{ dst := some 24, op := .makeFunc (.func 28) #[] #[.tmp 5, .tmp 4], type := 1, pos := "vm.go:50", after := #[], guard := none },
   { dst := none, op := .defer { callee := .value (.tmp 24), args := #[], argTypes := #[] }, type := 0, pos := "vm.go:50", after := #[{ on := 0, ground := .data }], guard := none }] false := by kernel_rfl

noncomputable def g17 : Func := Tryz.f17
theorem zero44 : zlen (zeroB Tryz.prog 44) 5 = true := by kernel_rfl
theorem zero73 : zlen (zeroB Tryz.prog 73) 1 = true := by kernel_rfl
theorem zlen_get {P : Program} {t : TypeId} {n : Nat} (h : zlen (zeroB P t) n = true) : ∃ z, zeroB P t = some z ∧ z.length = n := by
  cases hz : zeroB P t with
  | none => rw [hz] at h; cases h
  | some z => rw [hz] at h; exact ⟨z, rfl, Nat.eq_of_beq_eq_true h⟩

theorem und44 : isStr (Tryz.prog.underlying 44) = true := by kernel_rfl
theorem size44 : ((Tryz.prog.info? 44).map (·.size)) = some 5 := by kernel_rfl

theorem load44 {w : World} {b : Nat} {a1 a2 a3 a4 a5 : Value} (h : Blk w b 44 [a1, a2, a3, a4, a5]) : (loadVar 44 ⟨b, 0, none⟩).run Tryz.prog w = .ok (.agg #[a1, a2, a3, a4, a5]) w := by
  have hu := und44
  cases hd : Tryz.prog.underlying 44 with
  | none => rw [hd] at hu; cases hu
  | some d =>
    rw [hd] at hu
    cases d <;> simp only [isStr, Bool.false_eq_true] at hu
    exact run_loadVar_row w b 44 44 #[a1, a2, a3, a4, a5] (0, 0) _ h hd rfl size44
end Go.Proofs.YtgnfodphfgmdlaaGreat
namespace Go.Proofs.YtgnfodphfgmdlaaGreat
open Go Go.GX
set_option maxRecDepth 20000

theorem bld78 (p a1 a2 a3 a4 a5 : Value) (hp : p.cells = #[p]) (K : Value → Prop) :
    BLD Tryz.prog 78 [(0, p), (1, .agg #[a1, a2, a3, a4, a5])] K = K (.agg #[p, a1, a2, a3, a4, a5, .pointer none, .slice none 0 0, vInt 0, vInt 0, vInt 0, vInt 0, .slice none 0 0, .string ByteArray.empty, vInt 0, vInt 0]) := by
  have : bldP Tryz.prog 78 = some (.fields [(0, 1), (1, 5), (6, 1), (7, 1), (8, 1), (9, 1), (10, 1), (11, 5)] [.pointer none, .slice none 0 0, vInt 0, vInt 0, vInt 0, .slice none 0 0, .pointer none, .slice none 0 0, vInt 0, vInt 0, vInt 0, vInt 0, .slice none 0 0, .string ByteArray.empty, vInt 0, vInt 0]) := by kernel_rfl
  have hc : (Value.agg #[a1, a2, a3, a4, a5]).cells = #[a1, a2, a3, a4, a5] := rfl
  simp [BLD, this, buildV, fillL, hp, hc, setRange, VO]

end Go.Proofs.YtgnfodphfgmdlaaGreat
namespace Go.Proofs.YtgnfodphfgmdlaaGreat
open Go Go.GX
set_option maxRecDepth 20000

section
variable {w : World} {K : Value → World → Prop} {X : List PanicEntry → World → Prop}

theorem ck17_0 : chkC Tryz.prog r17_0 (.reg (.sq 0 3 .nil)) = true := by kernel_rfl
theorem ck17_1 : chkC Tryz.prog r17_1 (.reg (.sq 0 6 .nil)) = true := by kernel_rfl
theorem ck17_2 : chkC Tryz.prog r17_2 (.reg (.sq 0 6 .nil)) = true := by kernel_rfl
theorem ck17_3 : chkC Tryz.prog r17_3 (.reg (.sq 0 6 .nil)) = true := by kernel_rfl
theorem ck17_4 : chkC Tryz.prog r17_4 (.reg (.sq 0 5 .nil)) = true := by kernel_rfl
theorem ck17_6 : chkC Tryz.prog r17_6 (.reg (.op 0 false (.op 1 false .nil))) = true := by kernel_rfl
theorem ck17_7 : chkC Tryz.prog r17_7 (.reg (.op 0 false (.op 1 false .nil))) = true := by kernel_rfl

theorem body17 : Tryz.f17.body = some b17 := by kernel_rfl
theorem mk_func (fn : Fn) (first cap : Array Value) (w : World) : (Instr.makeFunc fn first cap).run Tryz.prog w = .ok (.func fn first cap) w := rfl

theorem r6_eq : r17_6 = .region 6 #[{ dst := some 25, op := .load 73 (.tmp 5), type := 73, pos := "vm.go:59", after := #[], guard := none },
   { dst := some 26, op := .call { callee := .value (.func 29), args := #[.tmp 25], argTypes := #[73] }, type := 0, pos := "vm.go:59", after := #[{ on := 0, ground := .data }], guard := none }] false := by kernel_rfl
theorem r7_eq : r17_7 = .region 7 #[{ dst := some 27, op := .load 73 (.tmp 5), type := 73, pos := "vm.go:60", after := #[], guard := none },
   { dst := some 28, op := .call { callee := .value (.func 30), args := #[.tmp 27], argTypes := #[73] }, type := 0, pos := "vm.go:60", after := #[{ on := 0, ground := .data }], guard := none }] false := by kernel_rfl
theorem ld73 : ldP Tryz.prog 73 = some .one := by kernel_rfl
theorem call29 (args : Array Value) (w : World) : (callFunc 29 args).run Tryz.prog w = .ok (.enter 29 args) w := hent 29 (by kernel_rfl) args w
theorem call30 (args : Array Value) (w : World) : (callFunc 30 args).run Tryz.prog w = .ok (.enter 30 args) w := hent 30 (by kernel_rfl) args w

theorem wp_ld73 {w : World} {vb mb : Nat} (h : w.cell? ⟨vb, 0, none⟩ = some (vPtr mb)) : (Instr.loadAt 73 (vPtr vb)).run Tryz.prog w = .ok (vPtr mb) w := by
  refine loadV_sound ?_
  rw [ld73]; exact h

/-- Run -/
theorem c17 {cs : List Value} {im : ImageS} {vin vcol : Value} {input : List Nat} {collect : List Bool} {fu hh st : Int} {gc : Hp → List Nat → Option (Hp × List Nat)}
    (hI : ImgV w cs im) (hin : Sl 1 (ByteAt w) vin input) (hcol : Sl 1 (BoolAt w) vcol collect) (sw : ∀ c : Ctx, c.gc = gc → SweepOk c)
    (hne : ∀ s0, startP { im := im, input := input, fuel := clampI fu 16777216, heap := clampI hh 65536, stack := clampI st 65536, collect := collect, gc := gc } = .ok () s0 → ∀ n, runP { im := im, input := input, fuel := clampI fu 16777216, heap := clampI hh 65536, stack := clampI st 65536, collect := collect, gc := gc } n s0 ≠ .bad)
    (hK : ∀ k s ov w', EndP { im := im, input := input, fuel := clampI fu 16777216, heap := clampI hh 65536, stack := clampI st 65536, collect := collect, gc := gc } k s → Ext w w' → Sl 1 (ByteAt w') ov s.output → K (.agg (outC k ov s).toArray) w') :
    CAL Tryz.prog 17 #[.agg cs.toArray, .agg #[vin, vInt fu, vInt hh, vInt st, vcol]] w K X := by
  generalize hcx : ({ im := im, input := input, fuel := clampI fu 16777216, heap := clampI hh 65536, stack := clampI st 65536, collect := collect, gc := gc } : Cx) = cx at *
  unfold CAL
  refine calls_of_wp_defers Tryz.func17 body17 ?_
  rw [b17_eq]
  have hn30 : Tryz.f17.ntmps = 30 := by kernel_rfl
  rw [hn30]
  generalize ha0 : ({ tmps := #[Value.agg cs.toArray, .agg #[vin, vInt fu, vInt hh, vInt st, vcol]] ++ Array.replicate (30 - #[Value.agg cs.toArray, .agg #[vin, vInt fu, vInt hh, vInt st, vcol]].size) undef, defers := [] } : Act) = a0
  have hI0 : Inv [] 30 a0 := by rw [← ha0]; exact ⟨rfl, by simp⟩
  have hA0 : Agrees [(0, Value.agg cs.toArray), (1, .agg #[vin, vInt fu, vInt hh, vInt st, vcol])] a0 := by
    intro t v h
    simp only [lk] at h
    cases e0 : Nat.beq 0 t with
    | true => have := Nat.eq_of_beq_eq_true e0; subst this; rw [e0] at h; cases h; rw [← ha0]; simp
    | false =>
      rw [e0] at h
      cases e1 : Nat.beq 1 t with
      | true => have := Nat.eq_of_beq_eq_true e1; subst this; rw [e1] at h; cases h; rw [← ha0]; simp
      | false => rw [e1] at h; cases h
  have nop : ∀ (Q : Exit → Act → World → Prop) ch (a' : Act) w', Inv [] 30 a' → (fun (_ : List PanicEntry) (_ : World) => False) ch w' → Q (.panic ch) a' w' := fun _ _ _ _ _ h => h.elim
  obtain ⟨z44, hz44, hl44⟩ := zlen_get zero44
  obtain ⟨z73, hz73, hl73⟩ := zlen_get zero73
  -- 0: the image and the script in boxes, the result
  refine wp_first (G := fun E w' => ∃ t0 t1, E = [(4, vPtr (w.heap.size + 2)), (3, vPtr (w.heap.size + 1)), (2, vPtr w.heap.size), (0, t0), (1, t1)] ∧ Ext w w' ∧ w'.heap.size = w.heap.size + 3 ∧ Blk w' w.heap.size 27 cs ∧ Blk w' (w.heap.size + 1) 37 [vin, vInt fu, vInt hh, vInt st, vcol] ∧ Blk w' (w.heap.size + 2) 44 z44) hent mixed ck17_0 ?_ hI0 hA0 ?_ (nop _)
  · rw [reg0]
    refine BOX_new fun w1 e1 b1 s1 => ?_
    refine BOX_new (vs := [vin, vInt fu, vInt hh, vInt st, vcol]) fun w2 e2 b2 s2 => ?_
    refine AL_new hz44 fun w3 e3 b3 s3 => ?_
    refine ⟨_, _, by rw [s2, s1], (e1.trans e2).trans e3, by omega, b1.ext (e2.trans e3), ?_, ?_⟩
    · have := b2.ext e3; rw [s1] at this; exact this
    · rw [s2, s1] at b3; exact b3
  rintro E a1 w1 hI1 hA1 io1 ⟨t0, t1, rfl, e1, s1, b27, b37, b44⟩
  -- 1, 2, 3: the clamps
  refine wp_first (G := fun E w' => (∃ u6 u7 u8 u9 u10, E = [(10, u10), (9, u9), (8, u8), (7, u7), (6, u6), (4, vPtr (w.heap.size + 2)), (3, vPtr (w.heap.size + 1)), (2, vPtr w.heap.size), (0, t0), (1, t1)]) ∧ w' = w1.setCell ⟨w.heap.size + 1, 1, none⟩ (vInt (clampI fu 16777216))) hent mixed ck17_1 ?_ hI1 hA1 ?_ (nop _)
  · rw [reg1, FA_at]
    refine LD_blk b37 (v := vInt fu) rfl ?_
    rw [MIN_two, MAX_two, FA_at, clamp_eq _ _ (by omega)]
    exact ST_one b37 (by simp) rfl rfl ⟨⟨_, _, _, _, _, rfl⟩, rfl⟩
  rintro E a2 w2 hI2 hA2 io2 ⟨⟨u6, u7, u8, u9, u10, rfl⟩, rfl⟩
  have b37b := b37.set (o := 1) (vInt (clampI fu 16777216))
  refine wp_first (G := fun E w' => (∃ u11 u12 u13 u14 u15, E = [(15, u15), (14, u14), (13, u13), (12, u12), (11, u11), (10, u10), (9, u9), (8, u8), (7, u7), (6, u6), (4, vPtr (w.heap.size + 2)), (3, vPtr (w.heap.size + 1)), (2, vPtr w.heap.size), (0, t0), (1, t1)]) ∧ w' = (w1.setCell ⟨w.heap.size + 1, 1, none⟩ (vInt (clampI fu 16777216))).setCell ⟨w.heap.size + 1, 2, none⟩ (vInt (clampI hh 65536))) hent mixed ck17_2 ?_ hI2 hA2 ?_ (nop _)
  · rw [reg2, FA_at]
    refine LD_blk b37b (v := vInt hh) rfl ?_
    rw [MIN_two, MAX_two, FA_at, clamp_eq _ _ (by omega)]
    exact ST_one b37b (by simp) rfl rfl ⟨⟨_, _, _, _, _, rfl⟩, rfl⟩
  rintro E a3 w3 hI3 hA3 io3 ⟨⟨u11, u12, u13, u14, u15, rfl⟩, rfl⟩
  have b37c := b37b.set (o := 2) (vInt (clampI hh 65536))
  refine wp_first (G := fun E w' => (∃ u16 u17 u18 u19 u20, E = [(20, u20), (19, u19), (18, u18), (17, u17), (16, u16), (15, u15), (14, u14), (13, u13), (12, u12), (11, u11), (10, u10), (9, u9), (8, u8), (7, u7), (6, u6), (4, vPtr (w.heap.size + 2)), (3, vPtr (w.heap.size + 1)), (2, vPtr w.heap.size), (0, t0), (1, t1)]) ∧ w' = ((w1.setCell ⟨w.heap.size + 1, 1, none⟩ (vInt (clampI fu 16777216))).setCell ⟨w.heap.size + 1, 2, none⟩ (vInt (clampI hh 65536))).setCell ⟨w.heap.size + 1, 3, none⟩ (vInt (clampI st 65536))) hent mixed ck17_3 ?_ hI3 hA3 ?_ (nop _)
  · rw [reg3, FA_at]
    refine LD_blk b37c (v := vInt st) rfl ?_
    rw [MIN_two, MAX_two, FA_at, clamp_eq _ _ (by omega)]
    exact ST_one b37c (by simp) rfl rfl ⟨⟨_, _, _, _, _, rfl⟩, rfl⟩
  rintro E a4 w4 hI4 hA4 io4 ⟨⟨u16, u17, u18, u19, u20, rfl⟩, hw4⟩
  have b37d := b37c.set (o := 3) (vInt (clampI st 65536))
  have hs4 : w4.heap.size = w.heap.size + 3 := by rw [hw4]; simp [World.setCell, s1]
  have ho4 : ∀ i, i ≠ w.heap.size + 1 → w4.heap[i]? = w1.heap[i]? := fun i hi => by
    rw [hw4, setCell_other (fun e => hi e.symm), setCell_other (fun e => hi e.symm), setCell_other (fun e => hi e.symm)]
  rw [← hw4] at b37d
  have b37d : Blk w4 (w.heap.size + 1) 37 [vin, vInt (clampI fu 16777216), vInt (clampI hh 65536), vInt (clampI st 65536), vcol] := b37d
  have b27d : Blk w4 w.heap.size 27 cs := b27.same (ho4 _ (by omega))
  have b44d : Blk w4 (w.heap.size + 2) 44 z44 := b44.same (ho4 _ (by omega))
  have e4 : Ext w w4 := ⟨by omega, fun i hi => by rw [ho4 i (by omega)]; exact e1.same i hi⟩
  -- 4: the machine
  refine wp_first (G := fun E w' => (∃ r, E = (5, vPtr (w.heap.size + 4)) :: r ∧ lk r 4 = some (vPtr (w.heap.size + 2))) ∧ Ext w4 w' ∧ w'.heap.size = w.heap.size + 5 ∧ Blk w' (w.heap.size + 4) 73 [vPtr (w.heap.size + 3)] ∧
      Blk w' (w.heap.size + 3) 78 [vPtr w.heap.size, vin, vInt (clampI fu 16777216), vInt (clampI hh 65536), vInt (clampI st 65536), vcol, .pointer none, .slice none 0 0, vInt 0, vInt 0, vInt 0, vInt 0, .slice none 0 0, .string ByteArray.empty, vInt 0, vInt 0]) hent mixed ck17_4 ?_ hI4 hA4 ?_ (nop _)
  · rw [reg4]
    refine LDN_at (vs := [vin, vInt (clampI fu 16777216), vInt (clampI hh 65536), vInt (clampI st 65536), vcol]) rfl (fun j v hj => by rw [b37d.cell, Nat.zero_add]; exact hj) ?_
    rw [bld78 _ _ _ _ _ _ rfl]
    refine BOX_new (vs := [vPtr w.heap.size, vin, vInt (clampI fu 16777216), vInt (clampI hh 65536), vInt (clampI st 65536), vcol, .pointer none, .slice none 0 0, vInt 0, vInt 0, vInt 0, vInt 0, .slice none 0 0, .string ByteArray.empty, vInt 0, vInt 0]) fun w5 e5 b5 s5 => ?_
    refine AL_new hz73 fun w6 e6 b6 s6 => ?_
    have hb6 : Blk w6 (w.heap.size + 4) 73 z73 := by rw [s5, hs4] at b6; exact b6
    rw [s5, hs4]
    refine ST_one hb6 (by omega) rfl rfl ?_
    have h7 := hb6.set (o := 0) (vPtr (w.heap.size + 3))
    rw [hs4] at b5
    refine ⟨⟨_, rfl, rfl⟩, (e5.trans e6).setCell (by show w4.heap.size ≤ w.heap.size + 4; omega) _, by simp [World.setCell]; omega, ?_, (b5.ext e6).other (by simp) _⟩
    have : z73.set 0 (vPtr (w.heap.size + 3)) = [vPtr (w.heap.size + 3)] := by
      match z73, hl73 with
      | [x], _ => rfl
    rw [this] at h7; exact h7
  rintro E a5 w5 hI5 hA5 io5 ⟨⟨r, rfl, hr4⟩, e5, s5, b73, b78⟩
  have t5 : a5.tmps[5]? = some (vPtr (w.heap.size + 4)) := hA5 5 _ rfl
  have t4 : a5.tmps[4]? = some (vPtr (w.heap.size + 2)) := hA5 4 _ hr4
  have io5w : Io w w5 := (((io1.trans io2).trans io3).trans io4).trans io5
  -- 5: the deferred call
  refine wp_seq ?_
  rw [r5_eq]
  refine wp_region ?_
  have hz : a5.tmps.size = 30 := hI5.2.symm
  simp [wpOps, go_sem, Region.wanted, Oper.wp, Oper.upon, execOp, mk_func, hz, t4, t5]
  refine .inl (.inl ?_)
  rw [hI5.1, (Array.getElem?_eq_some_iff.1 t5).2, (Array.getElem?_eq_some_iff.1 t4).2]
  generalize hT : ({ tmps := a5.tmps.setIfInBounds 24 (Value.func (Fn.func 28) #[] #[vPtr (w.heap.size + 4), vPtr (w.heap.size + 2)]), defers := [{ target := Target.fn (Fn.func 28) #[vPtr (w.heap.size + 4), vPtr (w.heap.size + 2)], args := #[] }] } : Act) = a6
  have hI6 : Inv [{ target := Target.fn (Fn.func 28) #[vPtr (w.heap.size + 4), vPtr (w.heap.size + 2)], args := #[] }] 30 a6 := by rw [← hT]; exact ⟨rfl, by simp [hz]⟩
  have hA6 : Agrees [(5, vPtr (w.heap.size + 4)), (4, vPtr (w.heap.size + 2))] a6 := by
    intro t v h
    simp only [lk] at h
    cases e0 : Nat.beq 5 t with
    | true => have := Nat.eq_of_beq_eq_true e0; subst this; rw [e0] at h; cases h; rw [← hT]; simp [t5]
    | false =>
      rw [e0] at h
      cases e1 : Nat.beq 4 t with
      | true => have := Nat.eq_of_beq_eq_true e1; subst this; rw [e1] at h; cases h; rw [← hT]; simp [t4]
      | false => rw [e1] at h; cases h
  clear hT hA0 hA1 hA2 hA3 hA4 hA5 hI0 hI1 hI2 hI3 hI4 hI5 nop ha0 t5 t4 hz
  -- where things are
  let c : Ctx := { toCx := cx, w0 := w4, ia := w.heap.size, vin := vin, vcol := vcol, vb := w.heap.size + 4, vo := w5.heap[w.heap.size + 4]? }
  have hcfu : cx.fuel = clampI fu 16777216 := by rw [← hcx]
  have hchh : cx.heap = clampI hh 65536 := by rw [← hcx]
  have hcst : cx.stack = clampI st 65536 := by rw [← hcx]
  have hcim : cx.im = im := by rw [← hcx]
  have hcin : cx.input = input := by rw [← hcx]
  have hccol : cx.collect = collect := by rw [← hcx]
  have hcgc : cx.gc = gc := by rw [← hcx]
  have hfin : ∀ k s (a' : Act) w', EndP cx k s → XE c w' → OutW w' (w.heap.size + 3) w4.heap.size s → Inv [{ target := Target.fn (Fn.func 28) #[vPtr (w.heap.size + 4), vPtr (w.heap.size + 2)], args := #[] }] 30 a' → Agrees [(4, vPtr (w.heap.size + 2))] a' → Io w w' →
      bodyPostD Tryz.prog Tryz.f17 (fun e w' => Io w w' ∧ post K X e w') (.panic (over k)) a' w' := by
    intro k s a' w' hend hx ho hI' hA' io
    have hd := hI'.1
    show Leaves Tryz.prog Tryz.f17 a'.tmps (fun e w' => Io w w' ∧ post K X e w') a'.defers (.panicking (over k)) w'
    rw [hd]
    have hvar : w'.cell? ⟨w.heap.size + 4, 0, none⟩ = some (vPtr (w.heap.size + 3)) := by
      rw [cell_same (show w'.heap[w.heap.size + 4]? = w5.heap[w.heap.size + 4]? from hx.var), b73.cell]; rfl
    have hx44 : Blk w' (w.heap.size + 2) 44 z44 := b44d.ext hx.toExt
    refine leaves_cons (f := 28) (args := #[vPtr (w.heap.size + 4), vPtr (w.heap.size + 2)]) (by simp) (by simp [go_sem]) ?_
    refine c28 hvar ho hx44 hl44 (by omega) (by omega) (by omega) fun w6 told hoth hsz io6 => ?_
    obtain ⟨ov, hb6, hov⟩ := told.ex
    refine ⟨.agg (outC k ov s).toArray, ?_, io.trans io6, hK k s ov w6 hend ?_ hov.sl⟩
    · have ht4 := hA' 4 _ rfl
      have hres : Tryz.f17.results = #[.cell 4 44] := by kernel_rfl
      have := load44 hb6
      have q0 := hb6.cell 0; have q1 := hb6.cell 1; have q2 := hb6.cell 2; have q3 := hb6.cell 3; have q4 := hb6.cell 4
      simp only [List.getElem?_cons_zero, List.getElem?_cons_succ] at q0 q1 q2 q3 q4
      simp [results, hres, go_sem, ht4, q0, q1, q2, q3, q4, outC]
    · have hsx : w4.heap.size ≤ w'.heap.size := hx.toExt.size
      refine ⟨by omega, fun i hi => ?_⟩
      rw [hoth i (by omega) (by omega)]
      exact (e4.trans hx.toExt).same i hi
  have hOk : ImgAt w4 ⟨w.heap.size, 0, none⟩ im := by
    have h1 := hI.ext e4
    obtain ⟨t, s, sr, nm, f, rfl, i1, i2, i3, i4, i5⟩ := h1.cells
    exact ⟨⟨t, b27d.cell 0, i1⟩, ⟨s, b27d.cell 1, i2⟩, ⟨sr, b27d.cell 2, i3⟩, ⟨nm, b27d.cell 3, i4⟩, ⟨f, b27d.cell 4, i5⟩, ⟨b27d.cell 5, h1.main⟩, ⟨b27d.cell 6, h1.exn⟩⟩
  have hInp : Sl 1 (ByteAt w4) vin input := Sl.mono (fun a x h => ByteAt.ext e4 h) hin
  have hCol : Sl 1 (BoolAt w4) vcol collect := Sl.mono (fun a x h => BoolAt.ext e4 h) hcol
  -- 6: begin
  have hz6 : a6.tmps.size = 30 := hI6.2.symm
  have q5 : a6.tmps[5]? = some (vPtr (w.heap.size + 4)) := hA6 5 _ rfl
  have q4 : a6.tmps[4]? = some (vPtr (w.heap.size + 2)) := hA6 4 _ rfl
  have hl6 : w5.cell? ⟨w.heap.size + 4, 0, none⟩ = some (vPtr (w.heap.size + 3)) := by rw [b73.cell]; rfl
  refine wp_seq ?_
  rw [r6_eq]
  refine wp_region ?_
  have g5 := (Array.getElem?_eq_some_iff.1 q5).2
  simp [wpOps, go_sem, Region.wanted, Oper.wp, Oper.upon, execOp, hz6, g5, hl6, call29]
  refine .inl (.inl ?_)
  refine Calls.mono (c29 (K := fun _ w' => ∃ s L, startP cx = .ok () s ∧ L.m = w.heap.size + 3 ∧ MS c L s w') (X := fun ch w' => ∃ k s, ch = over k ∧ EndP cx k s ∧ XE c w' ∧ OutW w' (w.heap.size + 3) w4.heap.size s)
      c (w.heap.size + 3) e5 (by simp only [c]; rw [hcim]; exact hOk) (by simp only [c]; rw [hcin]; exact hInp) (by simp only [c]; rw [hccol]; exact hCol) (by simp only [c]; rw [hcfu]; exact clampI_fit (by omega)) (by simp only [c]; rw [hchh]; exact clampI_fit (by omega)) (by simp only [c]; rw [hcst]; exact clampI_fit (by omega))
      (by simp only [c, initC]; rw [hcfu, hchh, hcst]; exact b78) (by simp only [c]; omega) (by simp only [c]; omega) (by simp only [c]; omega) rfl (fun s L w' h1 h2 h3 _ => ⟨s, L, h1, h2, h3⟩) (fun k s w' h1 h2 h3 => ⟨k, s, rfl, .inl h1, h2, h3⟩)) ?_
  intro en w7 hp7
  obtain ⟨io7, hp7⟩ := hp7
  have io57 := io5w.trans io7
  cases en with
  | outgrown => exact hp7.elim
  | panicked ch =>
    obtain ⟨k, s, rfl, h1, h2, h3⟩ := hp7
    refine hfin k s _ w7 h1 h2 h3 ⟨hI6.1, by simp [hz6]⟩ ?_ io57
    intro t v h
    simp only [lk] at h
    cases e1 : Nat.beq 4 t with
    | true => have := Nat.eq_of_beq_eq_true e1; subst this; rw [e1] at h; cases h; simp [q4]
    | false => rw [e1] at h; cases h
  | returned v7 =>
    obtain ⟨s, L, hst, hLm, hms⟩ := hp7
    have hv : w7.cell? ⟨w.heap.size + 4, 0, none⟩ = some (vPtr (w.heap.size + 3)) := by
      rw [cell_same (show w7.heap[w.heap.size + 4]? = w5.heap[w.heap.size + 4]? from hms.xe.var), b73.cell]; rfl
    -- 7: run
    show Code.wp Tryz.prog (r17_7.seq (r17_8.seq Code.ret)) (bodyPostD Tryz.prog Tryz.f17 (fun e w' => Io w w' ∧ post K X e w')) _ w7
    refine wp_seq ?_
    rw [r7_eq]
    refine wp_region ?_
    simp [wpOps, go_sem, Region.wanted, Oper.wp, Oper.upon, execOp, hz6, g5, hv, call30]
    refine .inl (.inl ?_)
    have h30 := c30 (K := fun _ _ => False) (X := fun ch w' => ∃ k s, ch = over k ∧ EndP cx k s ∧ XE c w' ∧ OutW w' (w.heap.size + 3) w4.heap.size s) (sw c hcgc) hms (hne s hst) fun n k s' hr L' w' hm' h' => ⟨k, s', rfl, .inr ⟨s, n, hst, hr⟩, h'.xe, by
      have := h'.outW
      rw [hm', hLm] at this
      exact this⟩
    rw [hLm] at h30
    refine Calls.mono h30 ?_
    intro en w8 hp8
    obtain ⟨io8, hp8⟩ := hp8
    cases en with
    | outgrown => exact hp8.elim
    | returned v8 => exact hp8.elim
    | panicked ch =>
      obtain ⟨k, s', rfl, h1, h2, h3⟩ := hp8
      refine hfin k s' _ w8 h1 h2 h3 ⟨hI6.1, by simp [hz6]⟩ ?_ (io57.trans io8)
      intro t v h
      simp only [lk] at h
      cases e1 : Nat.beq 4 t with
      | true => have := Nat.eq_of_beq_eq_true e1; subst this; rw [e1] at h; cases h; simp [q4]
      | false => rw [e1] at h; cases h
end
end Go.Proofs.YtgnfodphfgmdlaaGreat
