/- VmDeep answers true at every input and leaves its arguments as they were; no condition: text 7 of 12. -/
import Derived.Test.YtgnfodphfgmdlaaGreatDeep06
set_option linter.all false
/- The contract of fields. -/
namespace Go.GX
open Go

theorem storeP_same {h h' : Hp} {x i : Int} {v : Nat} (hs : storeP h x i v = some h') : h'.objs = h.objs ∧ h'.top = h.top ∧ h'.lays = h.lays := by
  unfold storeP at hs; split at hs
  · cases hs; exact ⟨rfl, rfl, rfl⟩
  · cases hs

theorem setsP_drop {h : Hp} (x : Int) (t : List Nat) (j : Nat) (hj : j < t.length) : setsP h x (t.drop j) j = setsP ((storeP h x j t[j]).getD h) x (t.drop (j + 1)) ((j + 1 : Nat) : Int) := by
  rw [← List.getElem_cons_drop hj]
  simp [setsP]

theorem MS.put {c : Ctx} {L : Lay} {s : Vm} {w w' : World} (h : MS c L s w) {x i : Int} {v : Nat} {h' : Hp} (hv : W64 v) (hs : storeP s.hp x i v = some h') (hp : HpAt w' L h') (o : Only [L.wb] w w') : MS c L { s with hp := h' } w' := by
  have hok := storeP_ok h.inv.heap hv hs
  have hsm := storeP_same hs
  exact h.heap hp hok.1 hsm.2.2 (fun z hz => by rw [fitsP_same hsm.1 hsm.2.1]; exact hz) ⟨o.size, fun b hb hn => o.same b hb (fun hm => hn (by simp at hm; subst hm; simp [Lay.hpB]))⟩

theorem Only.wb {L : Lay} {w w' : World} (o : Only [L.wb] w w') : Only L.hpB w w' := ⟨o.size, fun b hb hn => o.same b hb (fun hm => hn (by simp at hm; subst hm; simp [Lay.hpB]))⟩
end Go.GX
namespace Go.Proofs.YtgnfodphfgmdlaaGreat
open Go Go.GX
section
variable {c : Ctx} {L : Lay} {s : Vm} {w : World} {K : Value → World → Prop} {X : List PanicEntry → World → Prop}

/-- Set, in a machine -/
theorem c171' (h : MS c L s w) (x i : Int) (v : Nat) (hv : W64 v)
    (hK : match storeP s.hp x i v with
      | some h' => ∀ w', MS c L { s with hp := h' } w' → Only L.hpB w w' → K (vInt 0) w'
      | none => ∀ w', MS c L s w' → Ext w w' → K (vInt 1) w') : CAL Tryz.prog 171 #[vPtr L.h, vInt x, vInt i, vU v] w K X := by
  refine c171 h.hp h.inv.heap h.hpOk x i v hv ?_
  cases hs : storeP s.hp x i v with
  | none => rw [hs] at hK; exact fun w' _ e => hK w' (h.grow e) e
  | some h' => rw [hs] at hK; exact fun w' hp o => hK w' (h.put hv hs hp o) o.wb

theorem loadP_fit {h : Hp} (ok : HpOk h) {x i : Int} {v : Nat} (hl : loadP h x i = some v) : W64 v ∧ fitsP h v = true := by
  unfold loadP at hl
  split at hl
  · rename_i hc
    cases hl
    obtain ⟨y, j, sh, n, k, rfl, rfl, hm, ob, hj, hkd, h1, _⟩ := hasP_spec ok hc
    refine ⟨word64 ok _, ?_⟩
    have := ok.fit y hm (by rw [ob.shape]; simpa using hkd) j (by rw [ob.len]; exact hj)
    have e : ((y : Int) + 1 + j) = ((y + 1 + j : Nat) : Int) := by omega
    rw [e]; exact this
  · cases hl

set_option maxRecDepth 20000 in
/-- fields: all but those that make objects -/
theorem c105a (h : MS c L s w) {a : Addr} (ha : a.spot = none) {x : InstrS} (hi : InstrAt c.w0 a x) (g1 : x.op ≠ 5) (g2 : x.op ≠ 8)
    (hK : DO c L w (fieldsM c.toCx x s) vUnit K X) : CAL Tryz.prog 105 #[vPtr L.m, .pointer (some a)] w K X := n105 <| by
  obtain ⟨ab, ao, asp⟩ := a
  have : asp = none := ha
  subst this
  unfold N105
  have ld : ∀ {L' s' w'}, MS c L' s' w' → InstrAt w' ⟨ab, ao, none⟩ x := fun h' => hi.ext h'.ext
  rw [NC_ptr, FA_at]
  refine LD_int (ld h).op ?_
  unfold fieldsM at hK
  rw [if_neg g1, if_neg g2] at hK
  rw [JOIN_eq, BIN_eql, CND_bool, if_neg (by simpa using g1), BIN_eql, CND_bool, if_neg (by simpa using g2), BIN_eql, CND_bool]
  by_cases g3 : x.op = 6
  · rw [if_pos g3] at hK
    rw [if_pos (by simpa using g3), NC_ptr, FA_at]
    refine LD_int (ld h).a' ?_
    refine c166' h x.a 1 1 hK fun p _ _ hD w1 h1 e1 => ?_
    have h1d := h1.drew
    rw [EX_0, EX_1, NC_ptr, FA_at]
    refine LD_hp h1d ?_
    rw [NC_ptr, FA_at]
    refine LD_int (ld h1d).b ?_
    refine c172 h1d.hp h1d.inv.heap p.1 x.b ?_
    have h2 := h1d.drew
    have e2 := e1.drew.drew
    cases hl : loadP s.hp p.1 x.b with
    | none =>
      simp only [hl] at hD
      show EX _ 0 _
      rw [EX_0, EX_1, BIN_eql]
      exact c56 _ _ (fun ht => by simp at ht) (fun _ => hD L _ rfl h2)
    | some v =>
      simp only [hl] at hD
      show EX _ 0 _
      rw [EX_0, EX_1, BIN_eql]
      refine c56 _ _ (fun _ => ?_) (fun hf => by simp at hf)
      rw [NC_ptr, FA_at]
      refine LD_int (ld h2).d ?_
      exact c96 h2 x.d v (loadP_fit h2.inv.heap hl) (hD.on rfl (Step.ext e2))
  rw [if_neg g3] at hK
  rw [if_neg (by simpa using g3), BIN_eql, CND_bool]
  by_cases g4 : x.op = 7
  · rw [if_pos g4] at hK
    rw [if_pos (by simpa using g4), NC_ptr, FA_at]
    refine LD_int (ld h).a' ?_
    refine c166' h x.a 1 1 hK fun p _ _ hD w1 h1 e1 => ?_
    have h1d := h1.drew
    rw [EX_0, EX_1, NC_ptr, FA_at]
    refine LD_hp h1d ?_
    rw [NC_ptr, FA_at]
    refine LD_int (ld h1d).b ?_
    rw [NC_ptr, FA_at]
    refine LD_int (ld h1d).c ?_
    refine getD_on h1d (hD.on rfl (Step.ext e1.drew)) fun v _ hv hD w2 h2 e2 b o hl => ⟨e2.keeps, ?_⟩
    rw [NC_ptr, hl]
    refine c171' h2 p.1 x.b v hv.1 ?_
    cases hs : storeP s.hp p.1 x.b v with
    | none =>
      simp only [hs] at hD
      intro w3 h3 e3
      rw [BIN_eql]
      exact c56 _ _ (fun ht => by simp at ht) (fun _ => hD L _ rfl h3)
    | some h' =>
      simp only [hs] at hD
      intro w3 h3 o3
      rw [BIN_eql]
      refine c56 _ _ (fun _ => ?_) (fun hf => by simp at hf)
      exact hD L w3 rfl ((Step.ext e2).trans (o3.step (hpB_all L))) h3
  rw [if_neg g4] at hK
  rw [if_neg (by simpa using g4), BIN_eql, CND_bool]
  by_cases g5 : x.op = 9
  · rw [if_pos g5] at hK
    rw [if_pos (by simpa using g5), NC_ptr, FA_at]
    refine LD_int (ld h).a' ?_
    refine c166' h x.a 2 2 hK fun p _ _ hD w1 h1 e1 => ?_
    have h1d := h1.drew
    rw [EX_0, EX_1, NC_ptr, FA_at]
    refine LD_hp h1d ?_
    rw [NC_ptr, FA_at]
    refine LD_int (ld h1d).b ?_
    refine c91' h1d x.b (hD.on rfl (Step.ext e1.drew)) fun n _ _ hD w2 h2 e2 => ⟨e2.keeps, ?_⟩
    refine c168 n ⟨fun _ _ h => h, ?_⟩
    refine c172 h2.hp h2.inv.heap p.1 (indexP n) ?_
    have h3 := h2.drew
    cases hl : loadP s.hp p.1 (indexP n) with
    | none =>
      simp only [hl] at hD
      show EX _ 0 _
      rw [EX_0, EX_1, BIN_neq, CND_bool, if_pos (by simp)]
      refine c89 2 ?_
      exact c98 h3 (wImm 2) (wImm_ok 2 _) (hD.on rfl (Step.ext e2.drew))
    | some v =>
      simp only [hl] at hD
      show EX _ 0 _
      rw [EX_0, EX_1, BIN_neq, CND_bool, if_neg (by simp), NC_ptr, FA_at]
      refine LD_int (ld h3).d ?_
      exact c96 h3 x.d v (loadP_fit h3.inv.heap hl) (hD.on rfl (Step.ext e2.drew))
  rw [if_neg g5] at hK
  rw [if_neg (by simpa using g5), BIN_eql, CND_bool]
  by_cases g6 : x.op = 10
  · rw [if_pos g6] at hK
    rw [if_pos (by simpa using g6), NC_ptr, FA_at]
    refine LD_int (ld h).a' ?_
    refine c166' h x.a 2 2 hK fun p _ _ hD w1 h1 e1 => ?_
    have h1d := h1.drew
    rw [EX_0, EX_1, NC_ptr, FA_at]
    refine LD_hp h1d ?_
    rw [NC_ptr, FA_at]
    refine LD_int (ld h1d).b ?_
    rw [NC_ptr, FA_at]
    refine LD_int (ld h1d).c ?_
    refine c91' h1d x.b (hD.on rfl (Step.ext e1.drew)) fun n _ _ hD w2 h2 e2 => ⟨e2.keeps, ?_⟩
    refine c168 n ⟨fun _ _ h => h, ?_⟩
    refine getD_on h2 (hD.on rfl (Step.ext e2)) fun v _ hv hD w3 h3 e3 b o hl => ⟨e3.keeps, ?_⟩
    rw [NC_ptr, hl]
    refine c171' h3 p.1 (indexP n) v hv.1 ?_
    cases hs : storeP s.hp p.1 (indexP n) v with
    | none =>
      simp only [hs] at hD
      intro w4 h4 e4
      rw [BIN_neq, CND_bool, if_pos (by simp)]
      refine c89 2 ?_
      exact c98 h4 (wImm 2) (wImm_ok 2 _) (hD.on rfl (Step.ext (e3.trans e4)))
    | some h' =>
      simp only [hs] at hD
      intro w4 h4 o4
      rw [BIN_neq, CND_bool, if_neg (by simp)]
      exact hD L w4 rfl ((Step.ext e3).trans (o4.step (hpB_all L))) h4
  rw [if_neg g6] at hK
  rw [if_neg (by simpa using g6)]
  exact c60 _ _ (hK L w rfl h)
end
end Go.Proofs.YtgnfodphfgmdlaaGreat
/- The contract of fields: arrays that are made. -/
namespace Go.Proofs.YtgnfodphfgmdlaaGreat
open Go Go.GX
section
variable {c : Ctx} {L : Lay} {s : Vm} {w : World} {K : Value → World → Prop} {X : List PanicEntry → World → Prop}

theorem setsP_rep {h : Hp} (x : Int) (v n j : Nat) (hj : j < n) : setsP h x (List.replicate (n - j) v) j = setsP ((storeP h x j v).getD h) x (List.replicate (n - (j + 1)) v) ((j + 1 : Nat) : Int) := by
  have e : n - j = (n - (j + 1)) + 1 := by omega
  rw [e, List.replicate_succ]
  simp [setsP]

/-- Set, whatever comes of it -/
theorem c171i (h : MS c L s w) (x i : Int) (v : Nat) (hv : W64 v) (hK : ∀ e w', MS c L { s with hp := (storeP s.hp x i v).getD s.hp } w' → Only L.hpB w w' → K (vInt e) w') : CAL Tryz.prog 171 #[vPtr L.h, vInt x, vInt i, vU v] w K X := by
  refine c171' h x i v hv ?_
  cases hs : storeP s.hp x i v with
  | none => rw [hs] at hK; exact fun w' h' e => hK 1 w' h' (Only.ext e)
  | some h' => rw [hs] at hK; exact fun w' hp o => hK 0 w' hp o

theorem getD_same {h : Hp} {x i : Int} {v : Nat} : ((storeP h x i v).getD h).objs = h.objs ∧ ((storeP h x i v).getD h).top = h.top := by
  cases hs : storeP h x i v with
  | none => exact ⟨rfl, rfl⟩
  | some h' => have := storeP_same hs; exact ⟨this.1, this.2.1⟩

set_option maxRecDepth 20000 in
/-- fields: an array -/
theorem c105b (sw : SweepOk c) (h : MS c L s w) {a : Addr} (ha : a.spot = none) {x : InstrS} (hi : InstrAt c.w0 a x) (hsh : Short x) (hmade : s.made < s.steps) (g2 : x.op = 8)
    (hK : DO c L w (fieldsM c.toCx x s) vUnit K X) : CAL Tryz.prog 105 #[vPtr L.m, .pointer (some a)] w K X := n105 <| by
  obtain ⟨ab, ao, asp⟩ := a
  have : asp = none := ha
  subst this
  unfold N105
  have ld : ∀ {L' s' w'}, MS c L' s' w' → InstrAt w' ⟨ab, ao, none⟩ x := fun h' => hi.ext h'.ext
  rw [NC_ptr, FA_at]
  refine LD_int (ld h).op ?_
  unfold fieldsM at hK
  rw [if_neg (by omega), if_pos g2] at hK
  rw [JOIN_eq, BIN_eql, CND_bool, if_neg (by simp; omega), BIN_eql, CND_bool, if_pos (by simpa using g2), NC_ptr, FA_at]
  refine LD_int (ld h).b ?_
  refine c91' h x.b hK fun n _ hn hD w1 h1 e1 => ?_
  unfold I63 at hn
  rw [NC_ptr, FA_at]
  refine LD_int (ld h1).c ?_
  refine getD_on h1 (hD.on rfl (Step.ext e1)) fun v _ hv hD w2 h2 e2 b o hl => ?_
  rw [NC_ptr, hl]
  show NC _ _
  have h2d := h2.drew
  have e2d := e2.drew
  rw [NC_ptr, FA_at]
  refine LD_hp h2d ?_
  rw [NC_ptr, FA_at]
  refine LD_int (ld h2d).a' ?_
  refine c101 h2d.hp x.a ?_
  rw [BIN_eql]
  by_cases g3 : kindP s.hp x.a = 2
  · rw [if_pos g3] at hD
    refine c56 _ _ (fun _ => ?_) (fun hf => by simp at hf; exact absurd g3 hf)
    rw [BIN_lss]
    refine GRP_or_to (u := decide (65536 < n)) (fun _ hk => by rw [BIN_gtr]; exact hk) ?_
    rw [CND_bool]
    by_cases g4 : n < 0 ∨ n > 65536
    · rw [if_pos g4] at hD
      rw [if_pos (by simpa using g4)]
      refine c89 3 ?_
      exact c98 h2d (wImm 3) (wImm_ok 3 _) (hD.on rfl (Step.ext e2d))
    · rw [if_neg g4] at hD
      have h3 := h2d.drew
      have e3 := e2d.drew
      rw [if_neg (by simpa using g4), NC_ptr, FA_at]
      refine LD_int (ld h3).a' ?_
      rw [NC_ptr, FA_at]
      refine LD_sl0 h3.ext hi.live fun lv hlv => ?_
      rw [BSLC_one bsl130 (vU v) rfl]
      generalize hw4 : w2.drew.drew.alloc (.cells [vU v].toArray 166) = w4
      have e4 : Ext w2.drew.drew w4 := by rw [← hw4]; exact (Ext.refl _).alloc _
      have hb4 : Blk w4 w2.drew.drew.heap.size 166 [vU v] := by rw [← hw4]; exact Blk.new _ _ _
      have h4 := h3.grow e4
      refine ⟨e4.keeps, ?_⟩
      have hnl : w2.drew.drew.heap.size ∉ L.all := fun hm => by have := h3.lt _ hm; omega
      have hws : WS L w4 (.slice (some ⟨w2.drew.drew.heap.size, 0, none⟩) 1 1) [v] := ⟨by simp, .inr ⟨_, 0, 1, rfl, hnl, hb4.lt, fun i y hy => by
        rw [hb4.cell, Nat.zero_add]
        cases i with
        | zero => simp at hy; subst hy; rfl
        | succ i => simp at hy⟩⟩
      refine c163 sw h4 x.a n hlv hsh.live hws (fun y hy => by simp at hy; subst hy; exact hv) hmade ?_
      have hD4 := hD.on (L1 := L) (w1 := w4) rfl (Step.ext (e3.trans e4))
      cases hmk : makeP c.toCx x.a n x.live [v] s with
      | bad => rw [hmk] at hD4; exact hD4
      | stop k s1 => rw [hmk] at hD4; exact hD4
      | ok p s1 =>
        rw [hmk] at hD4
        simp only [Res.bind_ok] at hD4
        intro L1 w5 hv5 hm1 st1 h5 hws5 hf5 hq
        have hws5 : WS L1 w5 hv5 p.2 := hws5
        have hf5 : Fit s1 p.2 := hf5
        obtain ⟨y, hy, his⟩ := hq
        rw [EX_0, EX_1]
        cases hp2 : p.2 with
        | nil => rw [hp2] at hD4; exact absurd hD4 id
        | cons v' rest =>
          simp only [hp2] at hD4
          rw [hp2] at hws5 hf5
          obtain ⟨m, rfl⟩ : ∃ m : Nat, n = m := ⟨n.toNat, by omega⟩
          rw [Int.toNat_natCast] at hD4
          have hv' := hf5 v' (by simp)
          refine ⟨fun t w6 => ∃ (j : Nat) (hj : Hp), t = vInt j ∧ j ≤ m ∧ MS c L1 { s1 with hp := hj } w6 ∧ Only L1.hpB w5 w6 ∧ setsP hj y (List.replicate (m - j) v') j = setsP s1.hp y (List.replicate m v') 0 ∧ hj.objs = s1.hp.objs ∧ hj.top = s1.hp.top,
            fun t _ => m - (match t with | .int _ i => i.toNat | _ => 0), ⟨0, s1.hp, rfl, by omega, h5, Only.ext (Ext.refl _), rfl, rfl, rfl⟩, ?_⟩
          rintro t w6 ⟨j, hj, rfl, hjm, h6, o6, hbp, ho, ht⟩
          rw [BIN_lss, CND_bool, ← hm1]
          have h6d := h6.drew
          have st6 : Step L1 L1 w5 w6.drew := (o6.step (hpB_all L1)).trans (Step.ext (Ext.refl w6).drew)
          by_cases hjn : j < m
          · rw [if_pos (by simpa using hjn), NC_ptr, FA_at]
            refine LD_hp h6d ?_
            have hws6 := hws5.step st6
            rcases hws6.2 with ⟨_, h0⟩ | ⟨b6, o6', c6, rfl, _, _, hc6⟩
            · cases h0
            · rw [IA_slice]
              refine ⟨⟨Int.le_refl _, by rw [List.length_cons]; omega⟩, ?_⟩
              have hz : ((0 : Int).toNat * 1) = 0 := rfl
              rw [add_lit, hz, LD_some (hc6 0 v' rfl), hy]
              refine c171i h6d y j v' hv'.1 fun e w7 h7 o7 => ?_
              rw [BIN_add, wrap64 _ (by omega)]
              refine ⟨⟨j + 1, _, by simp, hjn, h7, o6.trans ((Only.ext (Ext.refl w6).drew).trans o7), ?_, getD_same.1.trans ho, getD_same.2.trans ht⟩, by simp; omega⟩
              rw [← hbp, setsP_rep _ _ _ _ hjn]
          · rw [if_neg (by simpa using hjn), NC_ptr, FA_at]
            have hjj : j = m := by omega
            subst hjj
            rw [Nat.sub_self] at hbp
            have hbp : hj = setsP s1.hp y (List.replicate j v') 0 := hbp
            refine LD_int (ld h6d).d ?_
            rw [hy]
            have hisj : isP hj (y : Int) = true := by rw [isP_same ho ht]; exact his
            have hylt : y < 65537 := by
              obtain ⟨z, he, hlt, _⟩ := isP_nat hisj
              have : hj.top ≤ hj.words.length := h6.inv.heap.top
              have : hj.words.length ≤ 65536 := h6.inv.heap.len
              omega
            refine c165 y (by omega) ⟨fun _ _ h => h, ?_⟩
            refine c96 h6d x.d (2 * y) (fits_ptr h6.inv.heap hisj) ?_
            rw [hy, Int.toNat_natCast, ← hbp] at hD4
            exact hD4.on hm1 (st1.trans st6)
  · rw [if_neg g3] at hD
    exact c56 _ _ (fun ht => by simp at ht; exact absurd ht g3) (fun _ => hD L _ rfl h2d)
end
end Go.Proofs.YtgnfodphfgmdlaaGreat
/- The contract of fields: records that are made; all of it. -/
namespace Go.Proofs.YtgnfodphfgmdlaaGreat
open Go Go.GX
section
variable {c : Ctx} {L : Lay} {s : Vm} {w : World} {K : Value → World → Prop} {X : List PanicEntry → World → Prop}

theorem LEN_ws {L : Lay} {w : World} {v : Value} {xs : List Nat} (h : WS L w v xs) {n : Nat} {K : Value → Prop} (hK : K (vInt xs.length)) : LEN (.sl n) v K := by
  rcases h.2 with ⟨rfl, rfl⟩ | ⟨b, o, c, rfl, _⟩
  · exact hK
  · exact hK

set_option maxRecDepth 20000 in
/-- fields: a record -/
theorem c105c (sw : SweepOk c) (h : MS c L s w) {a : Addr} (ha : a.spot = none) {x : InstrS} (hi : InstrAt c.w0 a x) (hsh : Short x) (hmade : s.made < s.steps) (g1 : x.op = 5)
    (hK : DO c L w (fieldsM c.toCx x s) vUnit K X) : CAL Tryz.prog 105 #[vPtr L.m, .pointer (some a)] w K X := n105 <| by
  obtain ⟨ab, ao, asp⟩ := a
  have : asp = none := ha
  subst this
  unfold N105
  have ld : ∀ {L' s' w'}, MS c L' s' w' → InstrAt w' ⟨ab, ao, none⟩ x := fun h' => hi.ext h'.ext
  rw [NC_ptr, FA_at]
  refine LD_int (ld h).op ?_
  unfold fieldsM at hK
  rw [if_pos g1] at hK
  have h1 := h.drew
  have e1 : Ext w w.drew := (Ext.refl w).drew
  rw [JOIN_eq, BIN_eql, CND_bool, if_pos (by simpa using g1), NC_ptr, FA_at]
  refine LD_hp h1 ?_
  rw [NC_ptr, FA_at]
  refine LD_int (ld h1).a' ?_
  refine c101 h1.hp x.a ?_
  rw [BIN_eql]
  refine GRP_and_to (u := decide ((nth c.im.shapes (max 0 x.a)).map (·.fields.length) = some x.l.length)) (fun ht hk => ?_) ?_
  · simp only [decide_eq_true_eq] at ht
    rw [NC_ptr, FA_at]
    refine LD_sl0 h1.ext hi.l fun lv hlv => LEN_sl hlv ?_
    rw [NC_ptr, FA_at]
    refine LD_m h1 (o := 0) rfl ?_
    rw [NC_ptr, FA_at]
    refine LD_sl0 h1.ext h.ok.im.shapes fun sv hsv => ?_
    rw [NC_ptr, FA_at]
    refine LD_int (ld h1).a' ?_
    rw [MAX_two]
    have hlen : s.hp.lays.length = c.im.shapes.length := by rw [h.inv.hlays]; simp
    have hin : 0 ≤ x.a ∧ x.a < c.im.shapes.length := by
      unfold kindP at ht
      cases hn : nth s.hp.lays x.a with
      | none => rw [hn] at ht; cases ht
      | some l => have := nth_lt hn; omega
    have hmax : (if x.a > 0 then x.a else 0) = max 0 x.a := by split <;> omega
    rw [hmax]
    obtain ⟨g, hg⟩ := nth_of (l := c.im.shapes) (i := max 0 x.a) (by omega)
    refine IA_sl hsv (by omega) (nth_some hg).2 fun b o hsg => ?_
    rw [FA_at]
    refine LD_sl0 h1.ext hsg.fields fun fv hfv => LEN_sl hfv ?_
    rw [BIN_eql]
    rw [hg] at hk
    have : decide ((x.l.length : Int) = g.fields.length) = decide ((some g).map (·.fields.length) = some x.l.length) := by
      congr 1; apply propext; simp only [Option.map_some, Option.some.injEq]; omega
    rw [this]; exact hk
  · by_cases hc : kindP s.hp x.a = 1 ∧ (nth c.im.shapes (max 0 x.a)).map (·.fields.length) = some x.l.length
    · rw [if_pos hc] at hK
      refine c56 _ _ (fun _ => ?_) (fun hf => by simp [hc.1, hc.2] at hf)
      have h2 := h1.drew
      have e2 := e1.drew
      rw [NC_ptr, FA_at]
      refine LD_int (ld h2).a' ?_
      rw [NC_ptr, FA_at]
      refine LD_sl0 h2.ext hi.l fun lv hlv => LEN_sl hlv ?_
      rw [NC_ptr, FA_at]
      refine LD_sl0 h2.ext hi.live fun vv hvv => ?_
      rw [NC_ptr, FA_at]
      refine LD_sl0 h2.ext hi.l fun lv2 hlv2 => ?_
      refine c93' h2 hlv2 hsh.l (hK.on rfl (Step.ext e2)) fun xs oo hr hx hD w3 h3 e3 hg ho => ⟨e3.keeps, ?_⟩
      refine c163 sw h3 x.a x.l.length hvv hsh.live (WS.of_gr hg ho (by have := readP_len hr; have := hsh.l; omega)) hx hmade ?_
      have hD4 := hD.on (L1 := L) (w1 := w3) rfl (Step.ext e3)
      cases hmk : makeP c.toCx x.a x.l.length x.live xs s with
      | bad => rw [hmk] at hD4; exact hD4
      | stop k s1 => rw [hmk] at hD4; exact hD4
      | ok p s1 =>
        rw [hmk] at hD4
        simp only [Res.bind_ok] at hD4
        intro L1 w5 hv5 hm1 st1 h5 hws5 hf5 hq
        have hws5 : WS L1 w5 hv5 p.2 := hws5
        have hf5 : Fit s1 p.2 := hf5
        obtain ⟨y, hy, his⟩ := hq
        rw [EX_0, EX_1]
        refine LEN_ws hws5 ?_
        refine ⟨fun t w6 => ∃ (j : Nat) (hj : Hp), t = vInt j ∧ j ≤ p.2.length ∧ MS c L1 { s1 with hp := hj } w6 ∧ Only L1.hpB w5 w6 ∧ setsP hj y (p.2.drop j) j = setsP s1.hp y p.2 0 ∧ hj.objs = s1.hp.objs ∧ hj.top = s1.hp.top,
          fun t _ => p.2.length - (match t with | .int _ i => i.toNat | _ => 0), ⟨0, s1.hp, rfl, by omega, h5, Only.ext (Ext.refl _), rfl, rfl, rfl⟩, ?_⟩
        rintro t w6 ⟨j, hj, rfl, hjm, h6, o6, hbp, ho', ht⟩
        rw [BIN_lss, CND_bool, ← hm1]
        have st6 : Step L1 L1 w5 w6 := o6.step (hpB_all L1)
        by_cases hjn : j < p.2.length
        · rw [if_pos (by simpa using hjn)]
          have hws6 := hws5.step st6
          rcases hws6.2 with ⟨_, h0⟩ | ⟨b6, o6', c6, rfl, _, _, hc6⟩
          · rw [h0] at hjn; simp at hjn
          · rw [IA_slice]
            refine ⟨by omega, ?_⟩
            have hv' := hf5 p.2[j] (List.getElem_mem hjn)
            have hw : wImm 0 < 2 := by unfold wImm; omega
            rw [add_lit, Int.toNat_natCast, Nat.mul_one, LD_some (hc6 j _ (List.getElem?_eq_getElem hjn)), NC_ptr, FA_at]
            refine LD_hp h6 ?_
            rw [hy]
            refine c171i h6 y j p.2[j] hv'.1 fun e w7 h7 o7 => ?_
            have hbig := hws5.1
            rw [BIN_add, wrap64 _ (by omega)]
            refine ⟨⟨j + 1, _, by simp, hjn, h7, o6.trans o7, ?_, getD_same.1.trans ho', getD_same.2.trans ht⟩, by simp; omega⟩
            rw [← hbp, setsP_drop _ _ _ hjn]
        · rw [if_neg (by simpa using hjn), NC_ptr, FA_at]
          have h6d := h6.drew
          have hdrop : p.2.drop j = [] := List.drop_eq_nil_of_le (by omega)
          rw [hdrop] at hbp
          have hbp : hj = setsP s1.hp y p.2 0 := hbp
          refine LD_int (ld h6d).d ?_
          rw [hy]
          have hisj : isP hj (y : Int) = true := by rw [isP_same ho' ht]; exact his
          have hylt : y < 65537 := by
            obtain ⟨z, he, hlt, _⟩ := isP_nat hisj
            have : hj.top ≤ hj.words.length := h6.inv.heap.top
            have : hj.words.length ≤ 65536 := h6.inv.heap.len
            omega
          refine c165 y (by omega) ⟨fun _ _ h => h, ?_⟩
          refine c96 h6d x.d (2 * y) (fits_ptr h6.inv.heap hisj) ?_
          rw [hy, Int.toNat_natCast, ← hbp] at hD4
          exact hD4.on hm1 (st1.trans (st6.trans (Step.ext (Ext.refl w6).drew)))
    · rw [if_neg hc] at hK
      exact c56 _ _ (fun ht => by rw [Bool.and_eq_true, decide_eq_true_eq, decide_eq_true_eq] at ht; exact absurd ht hc) (fun _ => hK L _ rfl h1)
end
end Go.Proofs.YtgnfodphfgmdlaaGreat
/- What is put out. -/
namespace Go.GX
open Go
section
variable {c : Ctx} {L : Lay} {s : Vm} {w w' : World}

/-- The output is another one. -/
theorem MS.setOut (h : MS c L s w) {o' : Option (Nat × List Value)} {out' : List Nat} (e0 : XE c w') (hs : ∀ b ∈ L.all, b ≠ L.m → b ∉ L.obB → w'.heap[b]? = w.heap[b]?)
    (hm : Blk w' L.m 78 (machC c { L with ob := o' } { s with output := out' })) (hb : OutAt w' { L with ob := o' } out')
    (ho : o'.map (·.1) = L.ob.map (·.1) ∨ ∃ b, o'.map (·.1) = some b ∧ b ∉ L.all ∧ c.w0.heap.size ≤ b ∧ b ≠ c.vb) (inv : MOk c.toCx { s with output := out' }) : MS c { L with ob := o' } { s with output := out' } w' := by
  have hnd := h.nodup
  have hnd' := hnd
  simp only [Lay.all, List.nodup_cons, List.nodup_append, List.mem_append, not_or] at hnd'
  have hH : ∀ b ∈ L.hpB, b ∈ L.all := fun b hb => by simp [Lay.all, hb]
  have hF : ∀ b ∈ L.frB, b ∈ L.all := fun b hb => by simp [Lay.all, hb]
  have d1 : ∀ b ∈ L.hpB, b ≠ L.m ∧ b ∉ L.obB := fun b hb => ⟨fun e => hnd'.1.1 (e ▸ hb), fun hm => hnd'.2.2.2 b hb b (.inr hm) rfl⟩
  have d2 : ∀ b ∈ L.frB, b ≠ L.m ∧ b ∉ L.obB := fun b hb => ⟨fun e => hnd'.1.2.1 (e ▸ hb), fun hm => hnd'.2.2.1.2.2 b hb b hm rfl⟩
  refine ⟨h.ok, inv, e0, hm, ?_, ?_, hb, ?_, ?_⟩
  · exact HpAt.same (w := w) ⟨h.hp.blk, h.hp.words, h.hp.heads, h.hp.lays⟩ fun b hb => hs b (hH b hb) (d1 b hb).1 (d1 b hb).2
  · exact FrsAt.same (w := w) ⟨h.frs.len, h.frs.each, h.frs.back, h.frs.nil⟩ fun b hb => hs b (hF b hb) (d2 b hb).1 (d2 b hb).2
  · rcases ho with ho | ⟨b, ho, hb1, _⟩
    · have : ({ L with ob := o' } : Lay).all = L.all := by simp [Lay.all, Lay.hpB, Lay.frB, Lay.obB, ho]
      rw [this]; exact hnd
    · have e : ({ L with ob := o' } : Lay).all = (L.m :: (L.hpB ++ L.frB)) ++ [b] := by simp [Lay.all, Lay.hpB, Lay.frB, Lay.obB, ho]
      have hsub : (L.m :: (L.hpB ++ L.frB)).Sublist L.all := by
        rw [Lay.all, ← List.append_assoc]
        exact List.Sublist.cons_cons _ (List.sublist_append_left _ _)
      rw [e]
      refine nodup_of_count (l' := b :: (L.m :: (L.hpB ++ L.frB))) (fun x => ?_) (List.nodup_cons.2 ⟨fun hm => hb1 (hsub.subset hm), hsub.nodup hnd⟩)
      simp only [List.count_append, List.count_cons, List.count_nil]; omega
  · intro x hx
    have hx' : x ∈ L.m :: (L.hpB ++ L.frB) ∨ x ∈ (o'.map (·.1)).toList := by
      simp only [Lay.all, Lay.hpB, Lay.frB, Lay.obB, List.mem_cons, List.mem_append] at hx ⊢
      rcases hx with hx | hx | hx | hx
      · exact .inl (.inl hx)
      · exact .inl (.inr (.inl hx))
      · exact .inl (.inr (.inr hx))
      · exact .inr hx
    rcases hx' with hx' | hx'
    · refine h.new x ?_
      rw [Lay.all, ← List.append_assoc]
      rcases List.mem_cons.1 hx' with rfl | hx'
      · simp
      · exact List.mem_cons_of_mem _ (List.mem_append_left _ hx')
    · rcases ho with ho | ⟨b, ho, hb1, hb2⟩
      · rw [ho] at hx'
        refine h.new x ?_
        simp only [Lay.all, Lay.obB, List.mem_cons, List.mem_append]
        exact .inr (.inr (.inr hx'))
      · rw [ho] at hx'; simp at hx'; subst hx'; exact hb2
end
end Go.GX
/- The contract of instr. -/
namespace Go.Proofs.YtgnfodphfgmdlaaGreat
open Go Go.GX
section
variable {c : Ctx} {L : Lay} {s : Vm} {w : World} {K : Value → World → Prop} {X : List PanicEntry → World → Prop}

theorem c100' (h : MS c L s w) {a : Addr} (ha : a.spot = none) {x : InstrS} (hi : InstrAt c.w0 a x) {β : Type} {g : Int × Bool → Vm → Res β} {V : β → Value} {K' : Value → World → Prop} (hD : DO c L w ((primP x s).bind g) V K' X)
    (hK : ∀ p, DO c L w (g p s) V K' X → ∀ w', MS c L s w' → Ext w w' → K (.tuple #[vInt p.1, .bool p.2]) w') : CAL Tryz.prog 100 #[vPtr L.m, .pointer (some a)] w K X := by
  refine c100 h ha hi (fun p hp => hK p ?_) (fun hp w' h' _ => ?_) (fun hb => ?_)
  · rw [hp] at hD; exact hD
  · rw [hp] at hD; exact hD L w' rfl h'
  · rw [hb] at hD; exact hD

set_option maxRecDepth 20000 in
/-- instr -/
theorem c62 (sw : SweepOk c) (h : MS c L s w) {a : Addr} (ha : a.spot = none) {x : InstrS} (hi : InstrAt c.w0 a x) (hsh : Short x) (hmade : s.made < s.steps) (hout : (s.output.length : Int) < s.steps)
    (hK : DO c L w (instrP c.toCx x s) vUnit K X) : CAL Tryz.prog 62 #[vPtr L.m, .pointer (some a)] w K X := n62 <| by
  obtain ⟨ab, ao, asp⟩ := a
  have : asp = none := ha
  subst this
  unfold N62
  have ld : ∀ {L' s' w'}, MS c L' s' w' → InstrAt w' ⟨ab, ao, none⟩ x := fun h' => hi.ext h'.ext
  have hd := h.drew
  have ed : Ext w w.drew := (Ext.refl w).drew
  rw [NC_ptr, FA_at]
  refine LD_int (ld h).op ?_
  unfold instrP at hK
  rw [JOIN_eq, BIN_eql, CND_bool]
  by_cases g1 : x.op = 1
  · rw [if_pos g1] at hK
    rw [if_pos (by simpa using g1), NC_ptr, FA_at]
    refine LD_int (ld hd).d ?_
    rw [NC_ptr, FA_at]
    refine LD_int (ld hd).n ?_
    exact c99 hd x.d x.n (hK.on rfl (Step.ext ed))
  rw [if_neg g1] at hK
  rw [if_neg (by simpa using g1), BIN_eql, CND_bool]
  by_cases g2 : x.op = 3
  · rw [if_pos g2] at hK
    rw [if_pos (by simpa using g2), NC_ptr, FA_at]
    refine LD_int (ld hd).d ?_
    rw [NC_ptr, FA_at]
    refine LD_int (ld hd).a' ?_
    refine getD_on hd (hK.on rfl (Step.ext ed)) fun v _ hv hD w1 h1 e1 b o hl => ⟨e1.keeps, ?_⟩
    rw [NC_ptr, hl]
    exact c96 h1 x.d v hv (hD.on rfl (Step.ext e1))
  rw [if_neg g2] at hK
  rw [if_neg (by simpa using g2), BIN_eql, CND_bool]
  by_cases g3 : x.op = 4
  · rw [if_pos g3] at hK
    rw [if_pos (by simpa using g3)]
    refine c100' h rfl hi hK fun p hD w1 h1 e1 => ?_
    rw [EX_0, EX_1, UN_not, CND_bool]
    cases hp : p.2 with
    | true =>
      rw [hp, if_pos rfl] at hD
      rw [if_neg (by simp), NC_ptr, FA_at]
      refine LD_int (ld h1).d ?_
      exact c99 h1 x.d p.1 (hD.on rfl (Step.ext e1))
    | false =>
      rw [hp, if_neg (by simp)] at hD
      rw [if_pos (by simp)]
      refine c89 1 ?_
      exact c98 h1 (wImm 1) (wImm_ok 1 _) (hD.on rfl (Step.ext e1))
  rw [if_neg g3] at hK
  rw [if_neg (by simpa using g3), BIN_eql, CND_bool]
  by_cases g4 : x.op = 15
  · rw [if_pos g4] at hK
    have hin := h.inv.inp
    have hil := h.ok.input.len
    rw [if_pos (by simpa using g4), JOIN_eq, NC_ptr, FA_at]
    refine LD_m hd (o := 9) rfl ?_
    rw [NC_ptr, FA_at, FA_at]
    refine LD_m hd (o := 1) rfl ?_
    refine LEN_sl h.ok.input ?_
    rw [BIN_lss, CND_bool]
    cases hb : nth c.input s.inp with
    | none =>
      have := nth_none hb
      simp only [hb] at hK
      rw [if_neg (by simp; omega)]
      show NC _ _
      rw [NC_ptr, FA_at]
      refine LD_int (ld hd).d ?_
      exact c99 hd x.d (-1) (hK.on rfl (Step.ext ed))
    | some b =>
      have := nth_lt hb
      simp only [hb] at hK
      have h2 := hd.drew
      rw [if_pos (by simp; omega), NC_ptr, FA_at, FA_at]
      refine LD_m h2 (o := 1) rfl ?_
      rw [NC_ptr, FA_at]
      refine LD_m h2 (o := 9) rfl ?_
      refine IA_sl h.ok.input hin.1 (nth_some hb).2 fun bb bo hby => ?_
      have hbb := hby.2
      refine LD_byte (hby.ext h2.ext) ?_
      rw [CNV_int, wrap64 _ (by omega), NC_ptr, FA_at]
      refine LD_m h2 (o := 9) rfl ?_
      rw [BIN_add, wrap64 _ (by omega), NC_ptr, FA_at]
      refine ST_one h2.mach (by simp [machC]) rfl rfl ?_
      have hv := h.inv
      have h3 := h2.setM 9 (vInt (s.inp + 1)) { s with inp := s.inp + 1 } rfl ⟨hv.heap, hv.hlays, hv.words, hv.stack, hv.room, hv.fns, hv.slots, hv.block, hv.pos, hv.steps, hv.made, hv.swept, ⟨by show 0 ≤ s.inp + 1; omega, by show s.inp + 1 ≤ (c.input.length : Int); omega⟩, hv.output, hv.kind⟩ rfl rfl rfl
      show NC _ _
      rw [NC_ptr, FA_at]
      refine LD_int (ld h3).d ?_
      exact c99 h3 x.d b (hK.on rfl ((Step.ext ed.drew).trans (Step.cell (x := ⟨L.m, 9, none⟩) (by simp [Lay.all]) (fun _ h => h) _)))
  rw [if_neg g4] at hK
  rw [if_neg (by simpa using g4), BIN_eql, CND_bool]
  by_cases g5 : x.op = 16
  · rw [if_pos g5] at hK
    rw [if_pos (by simpa using g5), NC_ptr, FA_at, FA_at]
    refine LD_m hd (o := 12) rfl ?_
    rw [NC_ptr, FA_at]
    refine LD_int (ld hd).a' ?_
    refine c91' hd x.a (hK.on rfl (Step.ext ed)) fun n _ _ hD w1 h1 e1 => ⟨e1.keeps, ?_⟩
    have hst := h.inv.steps; have hfu := h.ok.ok.fuel
    have hv8 : (Value.int .u8 (n % 256)) = vB (n % 256).toNat := by
      show Value.int .u8 (n % 256) = .int .u8 (((n % 256).toNat : Nat) : Int)
      congr 1; omega
    rw [CNV_int, wrap8, hv8, BSLC_one bsl34 (vB (n % 256).toNat) rfl]
    generalize hw2 : w1.alloc (.cells [vB (n % 256).toNat].toArray 5) = w2
    have e2 : Ext w1 w2 := by rw [← hw2]; exact (Ext.refl _).alloc _
    have hb2 : Blk w2 w1.heap.size 5 [vB (n % 256).toNat] := by rw [← hw2]; exact Blk.new _ _ _
    have h2 := h1.grow e2
    refine ⟨e2.keeps, ?_⟩
    have hobm : ∀ b ∈ L.obB, b ∈ L.all ∧ b ≠ L.m := fun b hb => by
      have hnd := h.nodup
      simp only [Lay.all, List.nodup_cons, List.mem_append, not_or] at hnd
      exact ⟨by simp [Lay.all, hb], fun e => hnd.1.2.2 (e ▸ hb)⟩
    have happ := RUN_app1 (ty := 34) elem34 (K := fun v w14 => NC (vPtr L.m) fun t119 => FA 11 t119 fun t120 => FA 1 t120 fun t121 => GX.ST 1 w14 t121 v fun w15 => K (.tuple #[]) w15) h2.out.back (hb2.src 1)
      (fun v hv => by rw [List.mem_singleton] at hv; subst hv; rfl) (by rw [List.length_map]; show (_ + 1) * 1 ≤ _; omega) (by rw [List.length_map]; show _ + 1 ≤ _; omega) ?_
    · rw [List.length_map] at happ; exact happ
    · intro w3 o' hg3 ha3
      have hlm : L.m ∈ L.all := by simp [Lay.all]
      have hmm : L.m ∉ L.obB := fun hm => (hobm _ hm).2 rfl
      have hsame : ∀ b, b < w2.heap.size → b ∉ L.obB → w3.heap[b]? = w2.heap[b]? := fun b hb hnb => by
        rcases ha3 with ⟨b', q1, q2, q3, q4⟩ | ⟨q1, q2⟩
        · exact q4 b (fun e => hnb (by unfold Lay.obB; rw [q2, e]; simp))
        · exact q2.same b hb
      have hz3 : w2.heap.size ≤ w3.heap.size := by
        rcases ha3 with ⟨b', q1, q2, q3, q4⟩ | ⟨q1, q2⟩
        · omega
        · exact q2.size
      have hm3 : Blk w3 L.m 78 (machC c L s) := h2.mach.same (hsame _ h2.mach.lt hmm)
      rw [NC_ptr, FA_at, FA_at]
      refine ST_one hm3 (by simp [machC]) (by cases o' <;> rfl) (by cases o' <;> rfl) ?_
      show K (.tuple #[]) (w3.setCell ⟨L.m, 12, none⟩ (grown o' ((s.output.map vB).length + 1)))
      have hlt2 := h2.lt
      have hext := h2.ext.size
      have hvl := h2.xe.lt
      have e3 : XE c w3 := ⟨⟨by omega, fun i hi => by
        rw [hsame i (by omega) (fun hm => by have := h.new i (hobm i hm).1; omega), h2.ext.same i hi]⟩,
        by rw [hsame _ hvl (fun hm => (h.new _ (hobm _ hm).1).2 rfl)]; exact h2.xe.var, by omega⟩
      have hv := h.inv
      have hob : ∀ b', o'.map (·.1) = some b' → L.ob.map (·.1) = some b' ∨ w2.heap.size ≤ b' := fun b' hb' => by
        rcases ha3 with ⟨b1, q1, q2, q3, q4⟩ | ⟨q1, q2⟩
        · rw [hb'] at q1; rw [q2, ← q1]; exact .inl rfl
        · exact .inr (q1 b' (by rw [hb']; simp))
      have hon : ∃ b', o'.map (·.1) = some b' := by
        cases o' with
        | none =>
          have : s.output.map vB ++ [vB (n % 256).toNat] = [] := hg3
          simp at this
        | some q => exact ⟨_, rfl⟩
      obtain ⟨bo, hbo⟩ := hon
      have hset : ∀ b v, b ≠ L.m → (w3.setCell ⟨L.m, 12, none⟩ v).heap[b]? = w3.heap[b]? := fun b v hb => setCell_other (fun e => hb e.symm) _
      have hbm : bo ≠ L.m := fun e => by
        rcases hob bo hbo with hh | hh
        · exact (hobm bo (by unfold Lay.obB; rw [hh]; simp)).2 e
        · have := hlt2 _ hlm; omega
      refine hD { L with ob := o' } _ rfl ?_ (MS.setOut (w := w2) h2 (e3.setCell (h.new _ hlm) _) ?_ ?_ ⟨?_, fun hn => ?_, ?_⟩ ?_ ⟨hv.heap, hv.hlays, hv.words, hv.stack, hv.room, hv.fns, hv.slots, hv.block, hv.pos, hv.steps, hv.made, hv.swept, hv.inp, ?_, hv.kind⟩)
      · refine ⟨by have := e1.size; have := e2.size; simp [World.setCell] at *; omega, fun b hb hnb => ⟨?_, fun hm => ?_⟩⟩
        · have q1 := e1.size; have q2 := e2.size
          have hb : b < w.heap.size := hb
          have hd' : w.drew.heap.size = w.heap.size := rfl
          rw [hset b _ (fun e => hnb (e ▸ hlm)), hsame b (by omega) (fun hm => hnb (hobm b hm).1), e2.same b (by omega), e1.same b (by omega)]
        · simp only [Lay.all, Lay.hpB, Lay.frB, Lay.obB, List.mem_cons, List.mem_append] at hm hnb
          simp only [not_or] at hnb
          rcases hm with hm | hm | hm | hm
          · exact hnb.1 hm
          · rcases hm with hm | hm | hm | hm
            · exact hnb.2.1.1 hm
            · exact hnb.2.1.2.1 hm
            · exact hnb.2.1.2.2.1 hm
            · exact hnb.2.1.2.2.2 hm
          · rcases hm with hm | hm
            · rcases hm with hm | hm
              · exact hnb.2.2.1.1.1 hm
              · exact hnb.2.2.1.1.2 hm
            · exact hnb.2.2.1.2 hm
          · rw [hbo] at hm; simp at hm; subst hm
            rcases hob b hbo with hh | hh
            · exact hnb.2.2.2 (by rw [hh]; simp)
            · have q1 := e1.size; have q2 := e2.size
              have hb : b < w.heap.size := hb
              have hd' : w.drew.heap.size = w.heap.size := rfl
              omega
      · intro b hb hne hnb
        rw [hset b _ hne, hsame b (hlt2 b hb) hnb]
      · have := hm3.set (o := 12) (grown o' ((s.output.map vB).length + 1))
        have hl : (s.output ++ [(n % 256).toNat]).length = (s.output.map vB).length + 1 := by simp
        show Blk _ L.m 78 _
        rw [← hl] at this ⊢
        exact this
      · show GrAt _ o' 5 _
        rw [List.map_append]
        exact hg3.same fun b hb => hset b _ (fun e => by rw [hbo] at hb; simp at hb; subst hb; exact hbm e)
      · have hn : o' = none := hn
        rw [hn] at hbo; cases hbo
      · intro y hy
        rcases List.mem_append.1 hy with hy | hy
        · exact h.out.u8 y hy
        · simp at hy; omega
      · rcases hob bo hbo with hh | hh
        · left; rw [hbo, hh]
        · right; exact ⟨bo, hbo, fun hm => by have := hlt2 _ hm; omega, by omega⟩
      · show (((s.output ++ [(n % 256).toNat]).length : Nat) : Int) ≤ s.steps
        simp; omega
  rw [if_neg g5] at hK
  rw [if_neg (by simpa using g5), BIN_eql, CND_bool]
  by_cases g6 : x.op = 2
  · rw [if_pos g6] at hK
    rw [if_pos (by simpa using g6), NC_ptr, FA_at]
    refine LD_int (ld hd).a' ?_
    rw [BIN_geq]
    refine GRP_and_to (u := decide (x.a < c.im.strings.length)) (fun _ hk => ?_) ?_
    · rw [NC_ptr, FA_at]
      refine LD_int (ld hd).a' ?_
      rw [NC_ptr, FA_at]
      refine LD_m hd (o := 0) rfl ?_
      rw [NC_ptr, FA_at]
      refine LD_sl0 hd.ext h.ok.im.strings fun v hv => LEN_sl hv ?_
      rw [BIN_lss]; exact hk
    refine GRP_and_to (u := decide (kindP s.hp 0 = 3)) (fun _ hk => ?_) ?_
    · rw [NC_ptr, FA_at]
      refine LD_hp hd ?_
      refine c101 hd.hp 0 ?_
      rw [BIN_eql]; exact hk
    cases ht : nth c.im.strings x.a with
    | none =>
      have := nth_none ht
      simp only [ht] at hK
      exact c56 _ _ (fun hh => by simp at hh; omega) (fun _ => hK L _ rfl hd)
    | some t =>
      have hlt := nth_lt ht
      simp only [ht] at hK
      by_cases g7 : kindP s.hp 0 = 3
      · rw [if_pos g7] at hK
        refine c56 _ _ (fun _ => ?_) (fun hh => by simp [g7, hlt.1, hlt.2] at hh)
        have h2 := hd.drew
        rw [NC_ptr, FA_at]
        refine LD_m h2 (o := 0) rfl ?_
        rw [NC_ptr, FA_at]
        refine LD_sl0 h2.ext h.ok.im.strings fun v hv => ?_
        rw [NC_ptr, FA_at]
        refine LD_int (ld h2).a' ?_
        refine IA_sl hv hlt.1 (nth_some ht).2 fun bb bo hs => ?_
        refine LD_str (hs.ext h2.ext) ?_
        have hts := h.ok.ok.strings t (nth_mem ht)
        exact c102 sw h2 rfl hi hsh.live t (by omega) hmade (hK.on rfl (Step.ext ed.drew))
      · rw [if_neg g7] at hK
        exact c56 _ _ (fun hh => by simp [g7] at hh) (fun _ => hK L _ rfl hd)
  rw [if_neg g6] at hK
  rw [if_neg (by simpa using g6)]
  refine JOIN_to2 (fun v w' => v = .bool (decide (x.op = 13 ∨ x.op = 14 ∨ x.op = 11 ∨ x.op = 12)) ∧ w' = w) (fun J hJ => ?_) ?_
  · rw [BIN_eql, CND_bool]
    by_cases q1 : x.op = 13
    · rw [if_pos (by simpa using q1)]; exact hJ _ _ ⟨by simp [q1], rfl⟩
    rw [if_neg (by simpa using q1), BIN_eql, CND_bool]
    by_cases q2 : x.op = 14
    · rw [if_pos (by simpa using q2)]; exact hJ _ _ ⟨by simp [q2], rfl⟩
    rw [if_neg (by simpa using q2), BIN_eql, CND_bool]
    by_cases q3 : x.op = 11
    · rw [if_pos (by simpa using q3)]; exact hJ _ _ ⟨by simp [q3], rfl⟩
    rw [if_neg (by simpa using q3), BIN_eql]
    exact hJ _ _ ⟨by simp [q1, q2, q3], rfl⟩
  rintro v w' ⟨rfl, rfl⟩
  rw [CND_bool]
  by_cases g8 : x.op = 13 ∨ x.op = 14 ∨ x.op = 11 ∨ x.op = 12
  · rw [if_pos g8] at hK
    rw [if_pos (by simpa using g8)]
    exact c103 sw h rfl hi hsh.live hmade hK
  rw [if_neg g8] at hK
  rw [if_neg (by simpa using g8), BIN_eql, CND_bool]
  by_cases g9 : x.op = 17
  · rw [if_pos g9] at hK
    rw [if_pos (by simpa using g9), NC_ptr, FA_at]
    refine LD_sl0 h.ext hi.l fun lv hlv => ?_
    refine c93' h hlv hsh.l hK fun xs o hr hx hD w1 h1 e1 hg ho => ?_
    rw [NC_ptr, FA_at]
    refine LD_sl0 h1.ext hi.live fun vv hvv => ?_
    refine c104 h1 hvv hsh.live ?_
    have hD := hD.on (L1 := L) (w1 := w1) rfl (Step.ext e1)
    cases hk : keepP x.live s with
    | bad => rw [hk] at hD; exact hD
    | stop k s1 => rw [hk] at hD; exact hD
    | ok u s1 =>
      rw [hk] at hD
      simp only [Res.bind_ok] at hD
      intro L2 w2 hm2 st2 h2
      have hg2 := GrAt.step hg ho st2
      rw [NC_ptr, FA_at]
      refine LD_int (ld h2).a' ?_
      rw [← hm2]
      refine c58 h2 x.a hg2.1 hg2.2 (fun y hy => ?_) (by have := readP_len hr; have := hsh.l; omega) (hD.on hm2 st2)
      rw [(keepP_ok hk).1]; exact hx y hy
  rw [if_neg g9] at hK
  rw [if_neg (by simpa using g9)]
  by_cases r1 : x.op = 5
  · exact c105c sw h rfl hi hsh hmade r1 hK
  by_cases r2 : x.op = 8
  · exact c105b sw h rfl hi hsh hmade r2 hK
  exact c105a h rfl hi r1 r2 hK
end
end Go.Proofs.YtgnfodphfgmdlaaGreat
/- A step counts itself, and nothing else counts steps. -/
namespace Go.GX
open Go

/-- A part of a step that leaves the number of steps alone. -/
def Still {α : Type} (s : Vm) (r : Res α) : Prop :=
  match r with
  | .ok _ s' => s'.steps = s.steps
  | .stop _ s' => s'.steps = s.steps
  | .bad => True

theorem Still.bind {α β : Type} {s : Vm} {r : Res α} {f : α → Vm → Res β} (h : Still s r) (hf : ∀ a s', s'.steps = s.steps → Still s' (f a s')) : Still s (r.bind f) := by
  cases r with
  | bad => trivial
  | stop k s' => exact h
  | ok a s' =>
    have h : s'.steps = s.steps := h
    have := hf a s' h
    simp only [Res.bind_ok]
    cases hr : f a s' with
    | bad => trivial
    | stop k s2 => rw [hr] at this; exact (show s2.steps = s'.steps from this).trans h
    | ok b s2 => rw [hr] at this; exact (show s2.steps = s'.steps from this).trans h

theorem still_get (i : Int) (s : Vm) : Still s (getP i s) := by
  unfold getP; split
  · trivial
  · split <;> rfl
theorem still_set (i : Int) (x : Nat) (s : Vm) : Still s (setP i x s) := by
  unfold setP; split
  · trivial
  · split <;> rfl
theorem still_num (i : Int) (s : Vm) : Still s (numP i s) := by
  unfold numP
  refine (still_get i s).bind fun x s' _ => ?_
  split <;> rfl
theorem still_object (i k o : Int) (s : Vm) : Still s (objectP i k o s) := by
  unfold objectP
  refine (still_get i s).bind fun x s' _ => ?_
  split
  · rfl
  · split <;> rfl
theorem still_read : ∀ (l : List Int) (s : Vm), Still s (readP l s)
  | [], _ => rfl
  | i :: l, s => (still_get i s).bind fun _ s' _ => (still_read l s').bind fun _ _ _ => rfl
theorem still_keep (l : List Int) (s : Vm) : Still s (keepP l s) := by
  unfold keepP; split
  · trivial
  · split <;> rfl
theorem still_call (c : Cx) (f : Int) (a : List Nat) (s : Vm) : Still s (callP c f a s) := by
  unfold callP; split
  · rfl
  · split
    · split <;> rfl
    · rfl
theorem still_pop (s : Vm) : Still s (popP s) := by
  unfold popP; split
  · trivial
  · rfl
theorem still_jump (b : Int) (s : Vm) : Still s (jumpP b s) := by
  unfold jumpP; split
  · trivial
  · rfl
theorem still_unwind (c : Cx) (x : Nat) (s : Vm) : ∀ (fs : List Fr) (n : Int), Still s (unwindP c x s fs n)
  | [], _ => rfl
  | f :: fs, n => by
    unfold unwindP; split
    · trivial
    · split
      · exact still_unwind c x s fs _
      · exact Still.bind (s := s) (still_set _ _ _) fun _ _ _ => still_jump _ _
theorem still_throw (c : Cx) (x : Nat) (s : Vm) : Still s (throwP c x s) :=
  (still_pop s).bind fun _ s' _ => still_unwind c x s' _ _

theorem still_sweep (c : Cx) (held : List Nat) (s : Vm) : Still s (sweepP c held s) := by
  unfold sweepP; split
  · split
    · trivial
    · rfl
  · rfl
theorem still_make (c : Cx) (sh n : Int) (live : List Int) (held : List Nat) (s : Vm) : Still s (makeP c sh n live held s) := by
  unfold makeP; split
  · rfl
  · refine (still_keep live s).bind fun _ s1 _ => ?_
    refine Still.bind (s := s1) ?_ fun held s2 _ => Still.bind (s := s2) ?_ fun _ _ _ => rfl
    · split
      · exact still_sweep c held { s1 with made := s1.made + 1 }
      · rfl
    · split
      · refine Still.bind (s := s2) ?_ fun _ s3 _ => ?_
        · split
          · rfl
          · exact still_sweep c held s2
        · split <;> rfl
      · rfl
theorem still_text (c : Cx) (x : InstrS) (t : List Nat) (s : Vm) : Still s (textM c x t s) :=
  (still_make c 0 t.length x.live [] s).bind fun _ _ _ => still_set _ _ _
theorem still_prim (x : InstrS) (s : Vm) : Still s (primP x s) := by
  unfold primP
  refine (still_num _ s).bind fun a s1 _ => (still_num _ s1).bind fun b s2 _ => ?_
  repeat' split
  all_goals rfl
theorem still_bytes (c : Cx) (x : InstrS) (s : Vm) : Still s (bytesM c x s) := by
  unfold bytesM; split
  · exact (still_object _ _ _ s).bind fun _ s1 _ => still_set _ _ s1
  · refine (still_object _ _ _ s).bind fun p s1 _ => ?_
    split
    · refine (still_num _ s1).bind fun n s2 _ => ?_
      split
      · exact still_throw _ _ _
      · exact still_set _ _ _
    · refine (still_object _ _ _ s1).bind fun q s2 _ => ?_
      split
      · exact still_set _ _ _
      · split
        · split
          · exact still_throw _ _ _
          · exact still_text _ _ _ _
        · rfl
theorem still_fields (c : Cx) (x : InstrS) (s : Vm) : Still s (fieldsM c x s) := by
  unfold fieldsM; split
  · split
    · exact (still_read _ s).bind fun _ s1 _ => (still_make _ _ _ _ _ s1).bind fun _ s2 _ => still_set _ _ _
    · rfl
  · split
    · refine (still_num _ s).bind fun n s1 _ => (still_get _ s1).bind fun v s2 _ => ?_
      split
      · split
        · exact still_throw _ _ _
        · refine (still_make _ _ _ _ _ s2).bind fun p s3 _ => ?_
          split
          · exact still_set _ _ _
          · trivial
      · rfl
    · split
      · refine (still_object _ _ _ s).bind fun p s1 _ => ?_
        split
        · exact still_set _ _ _
        · rfl
      · split
        · refine (still_object _ _ _ s).bind fun p s1 _ => (still_get _ s1).bind fun v s2 _ => ?_
          split <;> rfl
        · split
          · refine (still_object _ _ _ s).bind fun p s1 _ => (still_num _ s1).bind fun v s2 _ => ?_
            split
            · exact still_set _ _ _
            · exact still_throw _ _ _
          · split
            · refine (still_object _ _ _ s).bind fun p s1 _ => (still_num _ s1).bind fun v s2 _ => (still_get _ s2).bind fun v s3 _ => ?_
              split
              · rfl
              · exact still_throw _ _ _
            · rfl
theorem still_instr (c : Cx) (x : InstrS) (s : Vm) : Still s (instrP c x s) := by
  unfold instrP; split
  · exact still_set _ _ _
  · split
    · exact (still_get _ s).bind fun _ s1 _ => still_set _ _ s1
    · split
      · refine (still_prim x s).bind fun p s1 _ => ?_
        split
        · exact still_set _ _ _
        · exact still_throw _ _ _
      · split
        · split
          · exact still_set _ _ { s with inp := s.inp + 1 }
          · exact still_set _ _ _
        · split
          · exact (still_num _ s).bind fun _ _ _ => rfl
          · split
            · split
              · split
                · exact still_text _ _ _ _
                · rfl
              · rfl
            · split
              · exact still_bytes _ _ _
              · split
                · exact (still_read _ s).bind fun _ s1 _ => (still_keep _ s1).bind fun _ s2 _ => still_call _ _ _ s2
                · exact still_fields _ _ _
theorem still_choose (x : InstrS) (s : Vm) : Still s (chooseP x s) := by
  unfold chooseP
  refine (still_get _ s).bind fun v s1 _ => ?_
  split
  · split
    · exact still_jump _ _
    · split
      · rfl
      · exact still_jump _ _
  · split
    · exact still_jump _ _
    · rfl
theorem still_last (c : Cx) (x : InstrS) (s : Vm) : Still s (lastP c x s) := by
  unfold lastP; split
  · exact still_jump _ _
  · split
    · refine (still_num _ s).bind fun n s1 _ => ?_
      split <;> exact still_jump _ _
    · split
      · exact still_choose _ _
      · split
        · exact (still_read _ s).bind fun _ s1 _ => (still_pop s1).bind fun _ s2 _ => still_call _ _ _ s2
        · split
          · refine (still_get _ s).bind fun v s1 _ => (still_pop s1).bind fun _ s2 _ => ?_
            split
            · rfl
            · split
              · trivial
              · exact still_set _ _ _
          · split
            · exact (still_get _ s).bind fun v s1 _ => still_throw _ _ s1
            · rfl

/-- A step that goes on is one step more. -/
theorem stepP_steps {c : Cx} {s s' : Vm} {u : Unit} (h : stepP c s = .ok u s') : s'.steps = s.steps + 1 := by
  unfold stepP at h
  split at h
  · cases h
  · rename_i f fs hf
    split at h
    · cases h
    · split at h
      · cases h
      · rename_i x hx
        split at h
        · cases h
        · simp only at h
          split at h
          · have := still_last c x { s with steps := s.steps + 1, frs := { f with pos := f.pos + 1 } :: fs }
            rw [h] at this; exact this
          · have := still_instr c x { s with steps := s.steps + 1, frs := { f with pos := f.pos + 1 } :: fs }
            rw [h] at this; exact this
end Go.GX
/- The contract of run. -/
namespace Go.GX
open Go

theorem runP_succ (c : Cx) : ∀ (n : Nat) (s : Vm), runP c (n + 1) s = (runP c n s).bind fun _ s => stepP c s
  | 0, s => by
    show (stepP c s).bind (fun _ s => runP c 0 s) = _
    simp only [runP, Res.bind_ok]
    cases stepP c s <;> rfl
  | n + 1, s => by
    show (stepP c s).bind (fun _ s => runP c (n + 1) s) = ((stepP c s).bind fun _ s => runP c n s).bind _
    cases stepP c s with
    | bad => rfl
    | stop => rfl
    | ok u s1 => simp only [Res.bind_ok]; exact runP_succ c n s1
end Go.GX
namespace Go.Proofs.YtgnfodphfgmdlaaGreat
open Go Go.GX
section
variable {c : Ctx} {L : Lay} {s : Vm} {w : World} {K : Value → World → Prop} {X : List PanicEntry → World → Prop}

/-- how many steps there were, as the machine's cell says -/
def stN (m : Nat) (w : World) : Nat := match w.cell? ⟨m, 14, none⟩ with | some (.int _ n) => n.toNat | _ => 0

theorem stN_eq (h : MS c L s w) : stN L.m w = s.steps.toNat := by
  unfold stN
  rw [h.mach.cell]
  rfl

set_option maxRecDepth 20000 in
/-- run -/
theorem c30 (sw : SweepOk c) (h : MS c L s w) (hne : ∀ n, runP c.toCx n s ≠ .bad) (hX : ∀ n k s', runP c.toCx n s = .stop k s' → ∀ L' w', L'.m = L.m → MS c L' s' w' → X (over k) w') : CAL Tryz.prog 30 #[vPtr L.m] w K X := n30 <| by
  unfold N30
  refine ⟨fun w1 => ∃ L1 s1 j, L1.m = L.m ∧ MS c L1 s1 w1 ∧ runP c.toCx j s = .ok () s1, fun w1 => c.fuel.toNat - stN L.m w1, ⟨L, s, 0, rfl, h, rfl⟩, ?_⟩
  rintro w1 ⟨L1, s1, j, hm1, h1, hr⟩
  have hrs := runP_succ c.toCx j s
  rw [hr] at hrs
  simp only [Res.bind_ok] at hrs
  have hD : DO c L1 w1 (stepP c.toCx s1) vUnit (fun _ w2 => (∃ L1 s1 j, L1.m = L.m ∧ MS c L1 s1 w2 ∧ runP c.toCx j s = .ok () s1) ∧ c.fuel.toNat - stN L.m w2 < c.fuel.toNat - stN L.m w1) X := by
    cases hst : stepP c.toCx s1 with
    | bad => exact hne (j + 1) (hrs.trans hst)
    | stop k s2 => exact fun L' w' hm' h' => hX (j + 1) k s2 (hrs.trans hst) L' w' (hm'.trans hm1) h'
    | ok u s2 =>
      intro L' w' hm' _ h'
      have e1 := stepP_steps hst
      have e2 := stN_eq h'; have e3 := stN_eq h1
      rw [hm', hm1] at e2; rw [hm1] at e3
      have b1 := h1.inv.steps; have b2 := h'.inv.steps
      exact ⟨⟨L', s2, j + 1, hm'.trans hm1, h', hrs.trans hst⟩, by omega⟩
  have hfr : s1.frs ≠ [] := fun e => hne (j + 1) (hrs.trans (by unfold stepP; rw [e]))
  cases hf : s1.frs with
  | nil => exact absurd hf hfr
  | cons f fs =>
    obtain ⟨p, ps, fa, t⟩ := h1.top hf
    unfold stepP at hD
    simp only [hf] at hD
    rw [← hm1]
    rw [← hm1] at hD
    obtain ⟨fab, fao, fasp⟩ := fa
    have hsp : fasp = none := t.spot
    subst hsp
    have hfn := t.fn
    have hpos := h1.inv.pos f (by rw [hf]; simp)
    have hok := h1.ok.ok
    have hfmem := h1.inv.fns f (by rw [hf]; simp)
    rw [JOIN_eq]
    refine c59 t fun w2 h2 e2 => ?_
    have h3 := h2.drew
    have e3 := e2.drew
    have t3 := t.same h3 e3
    rw [NC_ptr, FA_at, FA_at]
    refine LD_blk t3.blk (v := vInt f.block) rfl ?_
    rw [BIN_geq]
    refine GRP_and_to (u := decide (f.block < f.fn.blocks.length)) (fun _ hk => ?_) ?_
    · rw [NC_ptr, FA_at, FA_at]
      refine LD_blk t3.blk (v := vInt f.block) rfl ?_
      rw [NC_ptr, FA_at, FA_at]
      refine LD_blk t3.blk (v := .pointer (some ⟨fab, fao, none⟩)) rfl ?_
      rw [NC_ptr, FA_at]
      refine LD_sl0 h3.ext hfn.blocks fun bv hbs => LEN_sl hbs ?_
      rw [BIN_lss]; exact hk
    cases hbl : nth f.fn.blocks f.block with
    | none =>
      have := nth_none hbl
      simp only [hbl] at hD
      refine GRP_and_to (u := true) (fun hh => by simp at hh; omega) ?_
      exact c56 _ _ (fun hh => by simp at hh; omega) (fun _ => hD L1 _ rfl h3)
    | some bl =>
      have hlt := nth_lt hbl
      simp only [hbl] at hD
      have hshort := hok.short f.fn hfmem bl (nth_mem hbl)
      refine GRP_and_to (u := decide (f.pos < bl.code.length)) (fun _ hk => ?_) ?_
      · rw [NC_ptr, FA_at, FA_at]
        refine LD_blk t3.blk (v := vInt f.pos) rfl ?_
        rw [NC_ptr, FA_at, FA_at]
        refine LD_blk t3.blk (v := .pointer (some ⟨fab, fao, none⟩)) rfl ?_
        rw [NC_ptr, FA_at]
        refine LD_sl0 h3.ext hfn.blocks fun bv hbs => ?_
        rw [NC_ptr, FA_at, FA_at]
        refine LD_blk t3.blk (v := vInt f.block) rfl ?_
        refine IA_sl hbs hlt.1 (nth_some hbl).2 fun b1 o1 hb1 => ?_
        rw [FA_at]
        refine LD_sl0 h3.ext hb1.code fun cv hcs => LEN_sl hcs ?_
        rw [BIN_lss]; exact hk
      cases hx : bl.code[f.pos.toNat]? with
      | none =>
        rw [List.getElem?_eq_none_iff] at hx
        simp only [List.getElem?_eq_none hx] at hD
        exact c56 _ _ (fun hh => by simp at hh; omega) (fun _ => hD L1 _ rfl h3)
      | some x =>
        have hxl := (List.getElem?_eq_some_iff.1 hx).1
        simp only [hx] at hD
        refine c56 _ _ (fun _ => ?_) (fun hh => by simp [hlt.1, hlt.2] at hh; omega)
        have h4 := h3.drew
        have e4 := e3.drew
        have hst := h1.inv.steps
        rw [JOIN_eq, NC_ptr, FA_at, FA_at]
        refine LD_m h4 (o := 14) rfl ?_
        rw [NC_ptr, FA_at, FA_at]
        refine LD_m h4 (o := 2) rfl ?_
        rw [BIN_eql, CND_bool]
        by_cases hfu : s1.steps = c.fuel
        · rw [if_pos hfu] at hD
          rw [if_pos (by simpa using hfu)]
          exact c60 _ _ (hD L1 _ rfl h4)
        · rw [if_neg hfu] at hD
          have hfb := hok.fuel
          rw [if_neg (by simpa using hfu)]
          show NC _ _
          rw [NC_ptr, FA_at, FA_at]
          refine LD_m h4 (o := 14) rfl ?_
          rw [BIN_add, wrap64 _ (by omega), NC_ptr, FA_at, FA_at]
          refine ST_one h4.mach (by simp [machC]) rfl rfl ?_
          have hv := h1.inv
          have h5 := h4.setM 14 (vInt (s1.steps + 1)) { s1 with steps := s1.steps + 1 } rfl ⟨hv.heap, hv.hlays, hv.words, hv.stack, hv.room, hv.fns, hv.slots, hv.block, hv.pos, ⟨by show 0 ≤ s1.steps + 1; omega, by show s1.steps + 1 ≤ c.fuel; omega⟩, ⟨hv.made.1, by show s1.made ≤ s1.steps + 1; have := hv.made.2; omega⟩, hv.swept, hv.inp, by show (s1.output.length : Int) ≤ s1.steps + 1; have := hv.output; omega, hv.kind⟩ rfl rfl rfl
          have st5 := (Step.ext (L := L1) e4).trans (Step.cell (L := L1) (L' := L1) (x := ⟨L1.m, 14, none⟩) (by simp [Lay.all]) (fun _ h => h) (vInt (s1.steps + 1)))
          show NC _ _
          generalize hw5 : w2.drew.drew.setCell ⟨L1.m, 14, none⟩ (vInt (s1.steps + 1)) = w5 at h5 st5
          have h6 := h5.drew
          have hpm := t.pm
          have t6 : Top c L1 { s1 with steps := s1.steps + 1 } w5.drew f fs p ps ⟨fab, fao, none⟩ := by
            have tt := t.same h4 e4
            refine ⟨h6, hf, t.fr, rfl, t.fn, ?_, ?_⟩
            · show Blk w5 p.1 132 _
              rw [← hw5]; exact tt.blk.other (x := ⟨L1.m, 14, none⟩) (fun e => hpm.2.2.1 e.symm) _
            · show Blk w5 p.2 166 _
              rw [← hw5]; exact tt.slots.other (x := ⟨L1.m, 14, none⟩) (fun e => hpm.2.2.2.1 e.symm) _
          rw [NC_ptr, FA_at, FA_at]
          refine LD_blk t6.blk (v := .pointer (some ⟨fab, fao, none⟩)) rfl ?_
          rw [NC_ptr, FA_at]
          refine LD_sl0 h6.ext hfn.blocks fun bv hbs => ?_
          rw [NC_ptr, FA_at, FA_at]
          refine LD_blk t6.blk (v := vInt f.block) rfl ?_
          refine IA_sl hbs hlt.1 (nth_some hbl).2 fun b1 o1 hb1 => ?_
          rw [FA_at]
          refine LD_sl0 h6.ext hb1.code fun cv hcs => ?_
          rw [NC_ptr, FA_at, FA_at]
          refine LD_blk t6.blk (v := vInt f.pos) rfl ?_
          refine IA_sl hcs hpos.1 hx fun b2 o2 hin => ?_
          rw [NC_ptr, FA_at, FA_at]
          refine LD_blk t6.blk (v := vInt f.pos) rfl ?_
          have hc20 := hshort.1
          rw [BIN_add, wrap64 _ (by omega), NC_ptr, FA_at, FA_at]
          refine ST_one t6.blk (by simp [frC]) rfl rfl ?_
          have h7 := t6.at (q := f.pos + 1) (by omega)
          have st7 := st5.trans ((Step.ext (L := L1) (Ext.refl w5).drew).trans (Step.cell (L' := { L1 with fr := (p.1, p.2) :: ps }) (x := ⟨p.1, 2, none⟩) hpm.1 (fun b hb => by rwa [t.all_same] at hb) (vInt (f.pos + 1))))
          have hD7 := DO.on (L1 := { L1 with fr := (p.1, p.2) :: ps }) hD rfl st7
          have hsx := hshort.2 x (List.mem_of_getElem? hx)
          show NC _ _
          rw [NC_ptr, FA_at]
          refine LD_int (hin.ext h7.ext).op ?_
          rw [BIN_geq, CND_bool]
          by_cases hge : x.op ≥ 18
          · rw [if_pos hge] at hD7
            rw [if_pos (by simpa using hge)]
            exact c61 h7 rfl hin hsx hD7
          · rw [if_neg hge] at hD7
            rw [if_neg (by simpa using hge)]
            exact c62 sw h7 rfl hin hsx (by show s1.made < s1.steps + 1; have := hv.made.2; omega) (by show (s1.output.length : Int) < s1.steps + 1; have := hv.output; omega) hD7
end
end Go.Proofs.YtgnfodphfgmdlaaGreat
/- code.Check, as plain law: what is asked of an image ahead of its run. -/
namespace Go.GX
open Go

/-- The fields that an instruction uses: their letters. -/
def usesP (op : Int) : List Nat :=
  if op = 1 then [68, 78] else if op = 2 then [68, 65, 108] else if op = 3 ∨ op = 11 then [68, 65] else if op = 4 then [68, 65, 66, 78]
  else if op = 5 then [68, 65, 76, 108] else if op = 6 ∨ op = 9 ∨ op = 12 ∨ op = 14 then [68, 65, 66] else if op = 7 ∨ op = 10 ∨ op = 19 then [65, 66, 67]
  else if op = 8 then [68, 65, 66, 67, 108] else if op = 13 then [68, 65, 66, 108] else if op = 15 then [68] else if op = 16 ∨ op = 18 ∨ op = 22 ∨ op = 23 then [65]
  else if op = 17 then [68, 65, 66, 67, 76, 108] else if op = 20 then [65, 76, 77, 66] else if op = 21 then [65, 76] else []

/-- An instruction without one of its fields. -/
def clearP (x : InstrS) (c : Nat) : InstrS :=
  if c = 78 then { x with n := 0 } else if c = 68 then { x with d := 0 } else if c = 65 then { x with a := 0 } else if c = 66 then { x with b := 0 } else if c = 67 then { x with c := 0 }
  else if c = 76 then { x with l := [] } else if c = 77 then { x with m := [] } else { x with live := [] }

def bareP (y : InstrS) : Bool :=
  decide (y.d = 0) && (decide (y.a = 0) && (decide (y.b = 0) && (decide (y.c = 0) && (decide (y.n = 0) && (decide (y.l.length = 0) && (decide (y.m.length = 0) && decide (y.live.length = 0)))))))

def plainP (x : InstrS) : Bool := !(usesP x.op).isEmpty && bareP ((usesP x.op).foldl clearP x)

def bigI (x : InstrS) : Bool := (decide (1024 < x.l.length) || decide (1024 < x.m.length)) || decide (200 < x.live.length)

/-- What is left of the instructions that there may be; none: too much. -/
def bigB : Int → List BlockS → Option Int
  | left, [] => some left
  | left, b :: bs => if left - b.code.length < 0 ∨ 200 < b.inn.length ∨ b.code.any bigI = true then none else bigB (left - b.code.length) bs

def bigF : Int → List FuncS → Bool
  | _, [] => false
  | left, f :: fs => if 200 < f.slots ∨ 200 < f.params.length ∨ 2000 < f.blocks.length then true else
    match bigB left f.blocks with
    | none => true
    | some left' => bigF left' fs

def bigT (t : TypeS) : Bool := decide (512 < t.shapes.length)
def bigS (s : ShapeS) : Bool := decide (200 < s.fields.length) || decide (16384 < s.name.size)
def wideP (l : List ByteArray) : Bool := l.any fun s => decide (16384 < s.size)

def bigHd (m : ImageS) : Bool :=
  ((((decide (1024 < m.types.length) || decide (512 < m.shapes.length)) || (decide (256 < m.strings.length) || decide (256 < m.names.length))) || decide (1024 < m.funcs.length)) || wideP m.strings) || wideP m.names

def bigP (m : ImageS) : Bool := bigHd m || (m.types.any bigT || (m.shapes.any bigS || bigF 20000 m.funcs))

/-- Is an instruction not plain? -/
def oddIn (fs : List FuncS) : Bool := fs.any fun f => f.blocks.any fun b => b.code.any fun x => !plainP x

def checkP (m : ImageS) : Int := if bigP m = true then 2 else if oddIn m.funcs = true then 1 else 0

theorem bigB_some : ∀ {l : List BlockS} {left r : Int}, bigB left l = some r → r ≤ left ∧ ∀ b ∈ l, (b.code.length : Int) ≤ left ∧ b.inn.length ≤ 200 ∧ ∀ x ∈ b.code, bigI x = false
  | [], left, r, h => by simp [bigB] at h; simp [h]
  | b :: bs, left, r, h => by
    unfold bigB at h
    split at h
    · cases h
    · rename_i hc
      have ih := bigB_some h
      simp only [not_or, Bool.not_eq_true] at hc
      obtain ⟨h1, h2, h3⟩ := hc
      refine ⟨by omega, fun y hy => ?_⟩
      rcases List.mem_cons.1 hy with rfl | hy
      · exact ⟨by omega, by omega, fun x hx => by
          cases hb : bigI x with
          | false => rfl
          | true => rw [List.any_eq_false] at h3; exact absurd hb (h3 x hx)⟩
      · have := ih.2 y hy; exact ⟨by omega, this.2⟩

theorem bigF_false : ∀ {l : List FuncS} {left : Int}, bigF left l = false → left ≤ 20000 → ∀ f ∈ l, f.slots ≤ 200 ∧ f.params.length ≤ 200 ∧ f.blocks.length ≤ 2000 ∧ ∀ b ∈ f.blocks, b.code.length ≤ 20000 ∧ b.inn.length ≤ 200 ∧ ∀ x ∈ b.code, bigI x = false
  | [], _, _, _ => by simp
  | f :: fs, left, h, hl => by
    unfold bigF at h
    split at h
    · cases h
    · rename_i hc
      simp only [not_or] at hc
      split at h
      · cases h
      · rename_i r hr
        have h1 := bigB_some hr
        have ih := bigF_false h (by omega)
        intro g hg
        rcases List.mem_cons.1 hg with rfl | hg
        · exact ⟨by omega, by omega, by omega, fun b hb => by have := h1.2 b hb; exact ⟨by omega, this.2⟩⟩
        · exact ih g hg

/-- An image that is let by is not great. -/
theorem check_ok {m : ImageS} (h : checkP m = 0) : bigP m = false ∧ oddIn m.funcs = false := by
  unfold checkP at h
  split at h
  · omega
  · split at h
    · omega
    · rename_i h1 h2
      exact ⟨by simpa using h1, by simpa using h2⟩

structure Small (m : ImageS) : Prop where
  shapes : m.shapes.length ≤ 512
  strs : ∀ s ∈ m.strings, s.size ≤ 16384
  fields : ∀ s ∈ m.shapes, s.fields.length ≤ 200
  funcs : ∀ f ∈ m.funcs, f.slots ≤ 200 ∧ f.params.length ≤ 200 ∧ f.blocks.length ≤ 2000 ∧ ∀ b ∈ f.blocks, b.code.length ≤ 20000 ∧ b.inn.length ≤ 200 ∧ ∀ x ∈ b.code, bigI x = false

theorem small_of {m : ImageS} (h : bigP m = false) : Small m := by
  unfold bigP bigHd at h
  simp only [Bool.or_eq_false_iff, decide_eq_false_iff_not, List.any_eq_false, wideP] at h
  obtain ⟨⟨⟨⟨⟨⟨h1, h2⟩, h3, h4⟩, h5⟩, h6⟩, h7⟩, h8, h9, h10⟩ := h
  refine ⟨by omega, fun s hs => by have := h6 s hs; simp at this; omega, fun s hs => ?_, bigF_false h10 (by omega)⟩
  have := h9 s hs
  simp [bigS] at this; omega

end Go.GX
/- Values that are built: structs and slices of them, laid anew; local copies. -/
namespace Go.GX
open Go

/-! ### Local copies -/

theorem wrCells_all {b : Nat} {t : TypeId} : ∀ (vs xs ys : List Value) (w : World), Blk w b t (xs ++ ys) → vs.length = ys.length → (∀ v ∈ vs, v.oneCell' = true) →
    ∃ w', wrCells w ⟨b, 0, none⟩ vs xs.length = some w' ∧ Blk w' b t (xs ++ vs) ∧ w'.heap.size = w.heap.size ∧ ∀ i, i ≠ b → w'.heap[i]? = w.heap[i]?
  | [], xs, ys, w, h, hl, _ => by
    have : ys = [] := List.length_eq_zero_iff.1 hl.symm
    subst this
    exact ⟨w, rfl, h, rfl, fun _ _ => rfl⟩
  | v :: vs, xs, [], w, h, hl, _ => by simp at hl
  | v :: vs, xs, y :: ys, w, h, hl, hv => by
    have h1 := h.set (o := xs.length) v
    have e1 : (xs ++ y :: ys).set xs.length v = (xs ++ [v]) ++ ys := by simp
    rw [e1] at h1
    obtain ⟨w', q1, q2, q3, q4⟩ := wrCells_all vs (xs ++ [v]) ys _ h1 (by simpa using hl) (fun u hu => hv u (List.mem_cons_of_mem _ hu))
    have hc : w.cell? ((⟨b, 0, none⟩ : Addr).add xs.length) = some y := by rw [add_lit, Nat.zero_add, h.cell]; simp
    have hf : w.frozen? ((⟨b, 0, none⟩ : Addr).add xs.length) = false := by rw [add_lit]; exact h.frozen _
    have ho := hv v (List.mem_cons_self)
    refine ⟨w', ?_, by simpa using q2, ?_, fun i hi => ?_⟩
    · simp only [wrCells, hc, hf, ho, cond_true, cond_false]
      rw [add_lit, Nat.zero_add]
      simpa using q1
    · rw [q3]; simp [World.setCell]
    · rw [q4 i hi]
      simp only [World.setCell, Array.getElem?_modify]
      rw [if_neg (fun e => hi e.symm)]

/-- A struct is written whole. -/
theorem ST_all {w : World} {b n : Nat} {t : TypeId} {cs vs : List Value} (h : Blk w b t cs) (hn : vs.length = n) (hl : vs.length = cs.length) (hv : ∀ v ∈ vs, v.oneCell' = true) {K : World → Prop}
    (hK : ∀ w', Blk w' b t vs → w'.heap.size = w.heap.size → (∀ i, i ≠ b → w'.heap[i]? = w.heap[i]?) → K w') : GX.ST n w (.pointer (some ⟨b, 0, none⟩)) (.agg vs.toArray) K := by
  unfold GX.ST STO
  have e : (Value.agg vs.toArray).cells.toList = vs := by simp [Value.cells]
  rw [e]
  refine ⟨hn, ?_⟩
  obtain ⟨w', q1, q2, q3, q4⟩ := wrCells_all vs [] cs w h hl hv
  rw [show wrCells w ⟨b, 0, none⟩ vs 0 = some w' from q1]
  exact hK w' q2 q3 q4

/-- A local variable that is laid, and written at once. -/
theorem LOCAL {P : Program} {t : TypeId} {n : Nat} {z : List Value} (hz : zeroB P t = some z) {w : World} {vs : List Value} (hn : vs.length = n) (hl : vs.length = z.length) (hv : ∀ v ∈ vs, v.oneCell' = true) {K : Value → World → Prop}
    (hK : ∀ w', Ext w w' → Blk w' w.heap.size t vs → w'.heap.size = w.heap.size + 1 → K (.pointer (some ⟨w.heap.size, 0, none⟩)) w') : AL P t w fun p w1 => GX.ST n w1 p (.agg vs.toArray) fun w2 => K p w2 := by
  unfold AL ALC
  rw [hz]
  have hb := Blk.new w t z
  have e1 : Ext w (w.alloc (.cells z.toArray t)) := (Ext.refl w).alloc _
  refine ST_all hb hn hl hv fun w' q1 q2 q3 => hK w' ⟨?_, fun i hi => ?_⟩ q1 ?_
  · rw [q2]; exact e1.size
  · rw [q3 i (by omega)]; exact e1.same i hi
  · rw [q2]; simp

theorem AL_new {P : Program} {t : TypeId} {z : List Value} (hz : zeroB P t = some z) {w : World} {K : Value → World → Prop}
    (hK : ∀ w', Ext w w' → Blk w' w.heap.size t z → w'.heap.size = w.heap.size + 1 → K (.pointer (some ⟨w.heap.size, 0, none⟩)) w') : AL P t w K := by
  unfold AL ALC
  rw [hz]
  exact hK _ ((Ext.refl w).alloc _) (Blk.new w t z) (by simp)

theorem BOX_new {t : TypeId} {w : World} {vs : List Value} {K : Value → World → Prop} (hK : ∀ w', Ext w w' → Blk w' w.heap.size t vs → w'.heap.size = w.heap.size + 1 → K (.pointer (some ⟨w.heap.size, 0, none⟩)) w') :
    BOX (.agg vs.toArray) t w K := by
  unfold BOX
  exact hK _ ((Ext.refl w).alloc _) (Blk.new w t vs) (by simp)
theorem BOX_one {t : TypeId} {w : World} {v : Value} (hv : v.cells = #[v]) {K : Value → World → Prop} (hK : ∀ w', Ext w w' → Blk w' w.heap.size t [v] → w'.heap.size = w.heap.size + 1 → K (.pointer (some ⟨w.heap.size, 0, none⟩)) w') :
    BOX v t w K := by
  unfold BOX
  rw [hv]
  exact hK _ ((Ext.refl w).alloc _) (Blk.new w t [v]) (by simp)

/-- Cells that are read one behind the other. -/
theorem rdCells_at {w : World} {b o : Nat} : ∀ (vs : List Value) (i : Nat), (∀ (j : Nat) v, vs[j]? = some v → w.cell? ⟨b, o + i + j, none⟩ = some v) → rdCells w ⟨b, o, none⟩ vs.length i = some vs
  | [], _, _ => rfl
  | v :: vs, i, h => by
    have h0 := h 0 v rfl
    have ih := rdCells_at (w := w) (b := b) (o := o) vs (i + 1) (fun j u hu => by have := h (j + 1) u (by simpa using hu); rw [show o + (i + 1) + j = o + i + (j + 1) by omega]; exact this)
    simp only [List.length_cons, rdCells]
    rw [add_lit, ih, show o + i = o + i + 0 by omega, h0]

theorem rdCells_blk {w : World} {b : Nat} {t : TypeId} {vs : List Value} (h : Blk w b t vs) : rdCells w ⟨b, 0, none⟩ vs.length 0 = some vs :=
  rdCells_at vs 0 (fun j v hj => by rw [h.cell]; simpa using hj)

theorem LDN_at {w : World} {b o n : Nat} {vs : List Value} (hn : vs.length = n) (h : ∀ (j : Nat) v, vs[j]? = some v → w.cell? ⟨b, o + j, none⟩ = some v) {K : Value → Prop} (hK : K (.agg vs.toArray)) : LDN n w (.pointer (some ⟨b, o, none⟩)) K := by
  subst hn
  rw [LDN_some (rdCells_at vs 0 (fun j v hj => by simpa using h j v hj))]
  exact hK

/-! ### Slices that are laid -/

theorem setRange_app : ∀ (vs xs ys zs : List Value), ys.length = vs.length → setRange (xs ++ ys ++ zs) xs.length vs = xs ++ vs ++ zs
  | [], xs, ys, zs, h => by
    have : ys = [] := List.length_eq_zero_iff.1 h
    subst this; rfl
  | v :: vs, xs, [], zs, h => by simp at h
  | v :: vs, xs, y :: ys, zs, h => by
    simp only [setRange]
    have e : (xs ++ (y :: ys) ++ zs).set xs.length v = (xs ++ [v]) ++ ys ++ zs := by simp
    rw [e]
    have := setRange_app vs (xs ++ [v]) ys zs (by simpa using h)
    simp only [List.length_append, List.length_cons, List.length_nil] at this
    rw [Nat.zero_add] at this
    rw [this]; simp

/-- The parts of a literal, one behind the other. -/
def partsFrom : Nat → List Value → List (Nat × Value)
  | _, [] => []
  | i, v :: r => (i, v) :: partsFrom (i + 1) r

theorem fillL_from (sz : Nat) : ∀ (vs : List Value) (i : Nat) (xs ys : List Value), xs.length = i * sz → ys.length = vs.length * sz → (∀ v ∈ vs, v.cells.toList.length = sz) →
    fillL (fun i => some (i * sz, sz)) (xs ++ ys) (partsFrom i vs) = some (xs ++ vs.flatMap fun v => v.cells.toList)
  | [], i, xs, ys, _, hy, _ => by
    have : ys = [] := by simpa using hy
    subst this; simp [partsFrom, fillL]
  | v :: vs, i, xs, ys, hx, hy, hv => by
    have h0 := hv v (List.mem_cons_self)
    have hy' : ys.length = sz + vs.length * sz := by rw [hy, List.length_cons, Nat.add_mul]; omega
    simp only [partsFrom, fillL]
    rw [if_pos ⟨h0, by rw [List.length_append, hx]; omega⟩]
    have e : setRange (xs ++ ys) (i * sz) v.cells.toList = (xs ++ v.cells.toList) ++ ys.drop sz := by
      have := setRange_app v.cells.toList xs (ys.take sz) (ys.drop sz) (by rw [h0, List.length_take]; omega)
      rw [List.append_assoc, List.take_append_drop, hx] at this
      exact this
    rw [e, fillL_from sz vs (i + 1) (xs ++ v.cells.toList) (ys.drop sz) (by rw [List.length_append, hx, h0, Nat.add_mul]; omega) (by rw [List.length_drop, hy']; omega) (fun u hu => hv u (List.mem_cons_of_mem _ hu))]
    simp

/-- A slice literal: where its elements lie. -/
theorem BSLC_all {P : Program} {t e : TypeId} {sz : Nat} {z : List Value} (h : bslP P t = some (.mk e sz z)) (vs : List Value) (hv : ∀ v ∈ vs, v.cells.toList.length = sz) (hn : vs.length * sz ≤ 16777216) {w : World} {K : Value → World → Prop}
    (hK : ∀ w', Ext w w' → Blk w' w.heap.size e (vs.flatMap fun v => v.cells.toList) → w'.heap.size = w.heap.size + 1 → K (.slice (some ⟨w.heap.size, 0, none⟩) vs.length vs.length) w') : BSLC P t vs.length (partsFrom 0 vs) w K := by
  unfold BSLC BSL
  rw [h]
  refine ⟨hn, ?_⟩
  have := fillL_from sz vs 0 [] (zeroRow z (vs.length * sz)) (by simp) (by simp [zeroRow]) hv
  rw [List.nil_append, List.nil_append] at this
  rw [this]
  exact hK _ ((Ext.refl w).alloc _) (Blk.new w e _) (by simp)

theorem flat_get (sz : Nat) : ∀ (vs : List Value) (i : Nat) (v : Value), (∀ v ∈ vs, v.cells.toList.length = sz) → vs[i]? = some v → ∀ (j : Nat), j < sz → (vs.flatMap fun v => v.cells.toList)[i * sz + j]? = v.cells.toList[j]?
  | [], i, v, _, h, _, _ => by simp at h
  | u :: vs, 0, v, hv, h, j, hj => by
    have : u = v := by simpa using h
    subst this
    have h0 := hv u (List.mem_cons_self)
    rw [List.flatMap_cons, Nat.zero_mul, Nat.zero_add, List.getElem?_append_left (by omega)]
  | u :: vs, i + 1, v, hv, h, j, hj => by
    have h0 := hv u (List.mem_cons_self)
    rw [List.flatMap_cons, List.getElem?_append_right (by rw [h0, Nat.add_mul]; omega), h0, show (i + 1) * sz + j - sz = i * sz + j by rw [Nat.add_mul]; omega]
    exact flat_get sz vs i v (fun x hx => hv x (List.mem_cons_of_mem _ hx)) (by simpa using h) j hj

/-- A slice of structs that is laid: its elements are related to those of a list, where each one's cells are. -/
theorem BSLC_sl {P : Program} {t e : TypeId} {sz : Nat} {z : List Value} (h : bslP P t = some (.mk e sz z)) {α : Type} {R : World → Addr → α → Prop} (hsz : 0 < sz) (vs : List Value) (l : List α) (hlen : vs.length = l.length)
    (hv : ∀ v ∈ vs, v.cells.toList.length = sz) (hn : vs.length * sz ≤ 16777216) {w : World} {K : Value → World → Prop}
    (hR : ∀ (i : Nat) v x, vs[i]? = some v → l[i]? = some x → ∀ w' b o, Ext w w' → (∀ (j : Nat) u, v.cells.toList[j]? = some u → w'.cell? ⟨b, o + j, none⟩ = some u) → R w' ⟨b, o, none⟩ x)
    (hK : ∀ w' v', Ext w w' → Sl sz (R w') v' l → K v' w') : BSLC P t vs.length (partsFrom 0 vs) w K := by
  refine BSLC_all h vs hv hn fun w' e1 hb _ => hK w' _ e1 ⟨?_, some ⟨w.heap.size, 0, none⟩, vs.length, by rw [hlen], .inr ⟨w.heap.size, 0, rfl, fun i x hx => ?_⟩⟩
  · unfold LenOk
    have : vs.length * 1 ≤ vs.length * sz := Nat.mul_le_mul_left _ hsz
    omega
  · have hi : i < vs.length := by rw [hlen]; exact (List.getElem?_eq_some_iff.1 hx).1
    have hvi := List.getElem?_eq_getElem hi
    refine hR i vs[i] x hvi hx w' _ _ e1 fun j u hu => ?_
    have hsv := hv vs[i] (List.getElem_mem hi)
    have hj : j < sz := by rw [← hsv]; exact (List.getElem?_eq_some_iff.1 hu).1
    rw [hb.cell, Nat.zero_add, flat_get sz vs i vs[i] hv hvi j hj]
    exact hu
end Go.GX
/- Loops by a measure that a relation bears. -/
namespace Go.GX
open Go
open Classical

theorem least_ex {p : Nat → Prop} : ∀ n, p n → ∃ n, p n ∧ ∀ m, p m → n ≤ m := by
  intro n
  induction n using Nat.strongRecOn with
  | ind n ih =>
    intro hn
    by_cases h : ∃ m, m < n ∧ p m
    · obtain ⟨m, hm, hp⟩ := h; exact ih m hm hp
    · exact ⟨n, hn, fun m hm => Nat.le_of_not_lt fun hlt => h ⟨m, hlt, hm⟩⟩

noncomputable def leastOf (p : Nat → Prop) : Nat := if h : ∃ n, p n ∧ ∀ m, p m → n ≤ m then Classical.choose h else 0
theorem leastOf_spec {p : Nat → Prop} (h : ∃ n, p n) : p (leastOf p) := by
  have h' := let ⟨n, hn⟩ := h; least_ex n hn
  unfold leastOf; rw [dif_pos h']; exact (Classical.choose_spec h').1
theorem leastOf_le {p : Nat → Prop} {n : Nat} (h : p n) : leastOf p ≤ n := by
  have h' := least_ex n h
  unfold leastOf; rw [dif_pos h']; exact (Classical.choose_spec h').2 n h

theorem LOOP0_rel {w : World} {step : World → (World → Prop) → Prop} (I : Nat → World → Prop) {n : Nat} (h0 : I n w)
    (hs : ∀ n w' back, I n w' → (∀ w'' m, m < n → I m w'' → back w'') → step w' back) : LOOP0 w step :=
  ⟨fun w => ∃ n, I n w, fun w => leastOf fun n => I n w, ⟨n, h0⟩, fun w' h => hs _ w' _ (leastOf_spec h) fun _ _ hm hI => ⟨⟨_, hI⟩, Nat.lt_of_le_of_lt (leastOf_le hI) hm⟩⟩
theorem LOOP1_rel {a : Value} {w : World} {step : Value → World → (Value → World → Prop) → Prop} (I : Nat → Value → World → Prop) {n : Nat} (h0 : I n a w)
    (hs : ∀ n x w' back, I n x w' → (∀ x' w'' m, m < n → I m x' w'' → back x' w'') → step x w' back) : LOOP1 a w step :=
  ⟨fun x w => ∃ n, I n x w, fun x w => leastOf fun n => I n x w, ⟨n, h0⟩, fun x w' h => hs _ x w' _ (leastOf_spec h) fun _ _ _ hm hI => ⟨⟨_, hI⟩, Nat.lt_of_le_of_lt (leastOf_le hI) hm⟩⟩
theorem LOOP2_rel {a b : Value} {w : World} {step : Value → Value → World → (Value → Value → World → Prop) → Prop} (I : Nat → Value → Value → World → Prop) {n : Nat} (h0 : I n a b w)
    (hs : ∀ n x y w' back, I n x y w' → (∀ x' y' w'' m, m < n → I m x' y' w'' → back x' y' w'') → step x y w' back) : LOOP2 a b w step :=
  ⟨fun x y w => ∃ n, I n x y w, fun x y w => leastOf fun n => I n x y w, ⟨n, h0⟩, fun x y w' h => hs _ x y w' _ (leastOf_spec h) fun _ _ _ _ hm hI => ⟨⟨_, hI⟩, Nat.lt_of_le_of_lt (leastOf_le hI) hm⟩⟩
theorem LOOP3_rel {a b c : Value} {w : World} {step : Value → Value → Value → World → (Value → Value → Value → World → Prop) → Prop} (I : Nat → Value → Value → Value → World → Prop) {n : Nat} (h0 : I n a b c w)
    (hs : ∀ n x y z w' back, I n x y z w' → (∀ x' y' z' w'' m, m < n → I m x' y' z' w'' → back x' y' z' w'') → step x y z w' back) : LOOP3 a b c w step :=
  ⟨fun x y z w => ∃ n, I n x y z w, fun x y z w => leastOf fun n => I n x y z w, ⟨n, h0⟩, fun x y z w' h => hs _ x y z w' _ (leastOf_spec h) fun _ _ _ _ _ hm hI => ⟨⟨_, hI⟩, Nat.lt_of_le_of_lt (leastOf_le hI) hm⟩⟩

end Go.GX
