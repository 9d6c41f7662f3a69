/- VmDeep answers true at every input and leaves its arguments as they were; no condition: text 6 of 12. -/
import Derived.Laws.IdiomStrings
import Derived.Lib.ConvBytes
import Derived.Lib.Bytealg
import Derived.Test.YtgnfodphfgmdlaaGreatDeep05
set_option linter.all false
/- The contracts of package heap: what is read. -/
namespace Go.GX
open Go

section
variable {L : Lay} {h : Hp} {w : World} {K : Value → Prop}

theorem LD_h (hp : HpAt w L h) {o : Nat} {v : Value} (hv : [made L.wb h.words.length, made L.hb (h.words.length / 64 + 1), laysV L.lb h.lays.length, vInt h.top][o]? = some v) (hK : K v) : LD w (.pointer (some ⟨L.h, o, none⟩)) K := LD_blk hp.blk hv hK

theorem LD_word (hp : HpAt w L h) {i : Nat} (hi : i < h.words.length) (hK : K (vU (wordP h i))) : LD w (.pointer (some ⟨L.wb, i, none⟩)) K := by
  refine LD_blk hp.words (v := vU (wordP h i)) ?_ hK
  simp [wordP, hi]

theorem IA_word {i : Int} (h0 : 0 ≤ i) (hi : i < h.words.length) (hK : K (.pointer (some ⟨L.wb, i.toNat, none⟩))) : IA 1 (made L.wb h.words.length) (vInt i) K := by
  show IA 1 (.slice _ _ _) _ _
  rw [IA_slice]
  refine ⟨⟨h0, hi⟩, ?_⟩
  rw [add_lit, Nat.mul_one, Nat.zero_add]; exact hK

theorem laysC_get : ∀ (l : List (Int × Int)) (i : Nat) (x : Int × Int), l[i]? = some x → (laysC l)[i * 2]? = some (vInt x.1) ∧ (laysC l)[i * 2 + 1]? = some (vInt x.2)
  | [], i, x, h => by simp at h
  | y :: l, 0, x, h => by simp at h; subst h; exact ⟨rfl, rfl⟩
  | y :: l, i + 1, x, h => by
    have := laysC_get l i x (by simpa using h)
    have e1 : (i + 1) * 2 = i * 2 + 1 + 1 := by omega
    rw [e1]
    exact this

/-- A layout: its address, and its two cells. -/
theorem IA_lay (hp : HpAt w L h) {i : Int} {x : Int × Int} (hx : nth h.lays i = some x) (hK : ∀ b o, Blk w b 121 (laysC h.lays ++ (L.lb.map (·.2)).getD []) → (laysC h.lays ++ (L.lb.map (·.2)).getD [])[o]? = some (vInt x.1) →
    (laysC h.lays ++ (L.lb.map (·.2)).getD [])[o + 1]? = some (vInt x.2) → K (.pointer (some ⟨b, o, none⟩))) : IA 2 (laysV L.lb h.lays.length) (vInt i) K := by
  have hi := nth_lt hx
  have hl := hp.lays
  have hg := nth_some hx
  cases hlb : L.lb with
  | none =>
    rw [hlb] at hl
    have hl : laysC h.lays = [] := hl
    cases hq : h.lays with
    | nil => rw [hq] at hi; simp at hi; omega
    | cons a b => rw [hq] at hl; simp [laysC] at hl
  | some q =>
    obtain ⟨b, j⟩ := q
    rw [hlb] at hl hK
    have hl : Blk w b 121 (laysC h.lays ++ j) := hl
    show IA 2 (.slice _ _ _) _ _
    rw [IA_slice]
    refine ⟨hi, ?_⟩
    rw [add_lit, Nat.zero_add]
    have := laysC_get h.lays i.toNat x hg.2
    refine hK b _ hl ?_ ?_
    · rw [List.getElem?_append_left (List.getElem?_eq_some_iff.1 this.1).1]; exact this.1
    · rw [List.getElem?_append_left (List.getElem?_eq_some_iff.1 this.2).1]; exact this.2

theorem LEN_lay (hK : K (vInt h.lays.length)) : LEN (.sl 2) (laysV L.lb h.lays.length) K ∨ L.lb = none := by
  cases hlb : L.lb with
  | none => exact .inr rfl
  | some q => exact .inl hK
theorem LEN_lays (hp : HpAt w L h) (hK : K (vInt h.lays.length)) : LEN (.sl 2) (laysV L.lb h.lays.length) K := by
  rcases LEN_lay hK with h1 | h1
  · exact h1
  · have hl := hp.lays
    rw [h1] at hl ⊢
    have hl : laysC h.lays = [] := hl
    cases hq : h.lays with
    | nil => rw [hq] at hK; exact hK
    | cons a b => rw [hq] at hl; simp [laysC] at hl
end

/-- '||' whose second operand changes nothing. -/
theorem GRP_or_to {t u : Bool} {w : World} {KW : Value → World → Prop} {body : (Value → World → Prop) → Prop} (hb : t = false → KW (.bool u) w → body KW) (h : KW (.bool (t || u)) w) : GRP (.bool t) false (.bool true) w body KW := by
  rw [GRP_or]
  cases t with
  | false => rw [if_neg (by simp)]; exact hb rfl h
  | true => exact h

end Go.GX
namespace Go.Proofs.YtgnfodphfgmdlaaGreat
open Go Go.GX
section
variable {L : Lay} {h : Hp} {w : World} {K : Value → World → Prop} {X : List PanicEntry → World → Prop}

/-- Heap.Is -/
theorem c201' (hp : HpAt w L h) (htop : h.top ≤ h.words.length) (hlen : h.words.length ≤ 65536) (x : Int) (hK : K (.bool (isP h x)) w) : CAL Tryz.prog 201 #[vPtr L.h, vInt x] w K X := n201 <| by
  unfold N201
  rw [BIN_ptrneq]
  refine GRP_and_to (u := decide (0 ≤ x)) (fun _ hk => by rw [BIN_geq]; exact hk) ?_
  refine GRP_and_to (u := decide (x < h.top)) (fun _ hk => ?_) ?_
  · rw [NC_ptr, FA_at]
    refine LD_h hp (o := 3) rfl ?_
    rw [BIN_lss]; exact hk
  · refine GRP_and_to (u := decide (x.toNat ∈ h.objs)) (fun ht hk => ?_) hK
    simp only [Option.isNone_some, Bool.not_false, Bool.true_and, Bool.and_eq_true, decide_eq_true_eq] at ht
    obtain ⟨hs, hh⟩ := hp.heads
    rw [NC_ptr, FA_at]
    refine LD_h hp (o := 1) rfl ?_
    rw [BIN_quo]
    refine ⟨by omega, ?_⟩
    obtain ⟨y, rfl⟩ : ∃ y : Nat, x = y := ⟨x.toNat, by omega⟩
    have e1 : (y : Int).tdiv 64 = ((y / 64 : Nat) : Int) := by rw [Int.tdiv_eq_ediv_of_nonneg (by omega)]; omega
    have e2 : (y : Int).tmod 64 = ((y % 64 : Nat) : Int) := by rw [Int.tmod_eq_emod_of_nonneg (by omega)]; omega
    have hlt : y / 64 < hs.length := by rw [hh.len]; omega
    rw [e1, wrap64 _ (by omega)]
    show IA 1 (.slice _ _ _) _ _
    rw [IA_slice]
    refine ⟨by rw [← hh.len]; omega, ?_⟩
    rw [add_lit, Nat.mul_one, Nat.zero_add, Int.toNat_natCast]
    refine LD_blk hh.blk (v := vU ((hs[y / 64]?).getD 0)) (by simp [hlt]) ?_
    rw [BIN_rem]
    refine ⟨by omega, ?_⟩
    have hw : W64 ((hs[y / 64]?).getD 0) := by
      rw [List.getElem?_eq_getElem hlt]; exact hh.w64 _ (List.getElem_mem _)
    unfold W64 at hw
    rw [e2, BIN_shrU _ _ _ (by omega)]
    have hb := hh.bit y (by rw [hh.len]; omega)
    have e3 : (((hs[y / 64]?).getD 0 : Nat) : Int) / 2 ^ (y % 64) = (((hs[y / 64]?).getD 0 / 2 ^ (y % 64) : Nat) : Int) := by
      rw [Int.natCast_ediv, Int.natCast_pow]; rfl
    have hdl : (hs[y / 64]?).getD 0 / 2 ^ (y % 64) ≤ (hs[y / 64]?).getD 0 := Nat.div_le_self _ _
    rw [e3]
    generalize (hs[y / 64]?).getD 0 / 2 ^ (y % 64) = q at hb hdl
    rw [BIN_andU _ _ (by omega) (by omega), BIN_eql]
    have e4 : (((q : Int).toNat &&& (1 : Int).toNat : Nat) : Int) = ((q % 2 : Nat) : Int) := by
      rw [show (1 : Int).toNat = 1 from rfl, Int.toNat_natCast, Nat.and_one_is_mod]
    rw [e4]
    have e5 : decide (((q % 2 : Nat) : Int) = 1) = decide (q % 2 = 1) := by
      congr 1; apply propext; omega
    rw [e5, hb]
    simpa using hk

theorem c201 (hp : HpAt w L h) (ok : HpOk h) (x : Int) (hK : K (.bool (isP h x)) w) : CAL Tryz.prog 201 #[vPtr L.h, vInt x] w K X := c201' hp ok.top ok.len x hK

/-- Heap.Kind -/
theorem c101 (hp : HpAt w L h) (x : Int) (hK : K (vInt (kindP h x)) w) : CAL Tryz.prog 101 #[vPtr L.h, vInt x] w K X := n101 <| by
  unfold N101
  rw [BIN_ptreql]
  refine GRP_or_to (u := decide (x < 0)) (fun _ hk => by rw [BIN_lss]; exact hk) ?_
  refine GRP_or_to (u := decide ((h.lays.length : Int) ≤ x)) (fun _ hk => ?_) ?_
  · rw [NC_ptr, FA_at]
    refine LD_h hp (o := 2) rfl (LEN_lays hp ?_)
    rw [BIN_geq]; exact hk
  · rw [CND_bool]
    unfold kindP at hK
    cases hx : nth h.lays x with
    | none =>
      rw [hx] at hK
      have := nth_none hx
      rw [if_pos (by simp; omega)]; exact hK
    | some l =>
      rw [hx] at hK
      have := nth_lt hx
      rw [if_neg (by simp; omega), NC_ptr, FA_at]
      refine LD_h hp (o := 2) rfl (IA_lay hp hx fun b o hb h1 h2 => ?_)
      rw [FA_at]
      exact LD_blk hb h1 hK

/-- Heap.Size, Heap.Top -/
theorem c205 (hp : HpAt w L h) (hK : K (vInt h.words.length) w) : CAL Tryz.prog 205 #[vPtr L.h] w K X := n205 <| by
  unfold N205
  rw [BIN_ptreql, CND_bool, if_neg (by simp), NC_ptr, FA_at]
  refine LD_h hp (o := 0) rfl ?_
  exact hK
theorem c206 (hp : HpAt w L h) (hK : K (vInt h.top) w) : CAL Tryz.prog 206 #[vPtr L.h] w K X := n206 <| by
  unfold N206
  rw [BIN_ptreql, CND_bool, if_neg (by simp), NC_ptr, FA_at]
  exact LD_h hp (o := 3) rfl hK

/-- Heap.Shape -/
theorem c155 (hp : HpAt w L h) (ok : HpOk h) (x : Int) (hK : K (.tuple #[vInt (shapeP h x), vInt (if isP h x = true then 0 else 1)]) w) : CAL Tryz.prog 155 #[vPtr L.h, vInt x] w K X := n155 <| by
  unfold N155
  refine c201 hp ok x ?_
  rw [UN_not, CND_bool]
  by_cases hi : isP h x = true
  · obtain ⟨y, sh, n, k, rfl, ob⟩ := ok.is hi
    have hpos := ob.pos; have htop := ob.top; have hlen := ok.top
    rw [if_neg (by simp [hi]), NC_ptr, FA_at]
    refine LD_h hp (o := 0) rfl (IA_word (by omega) (by omega) (LD_word hp (by omega) ?_))
    refine c202 _ (word64 ok _) ?_
    simp only [hi, if_true, shapeP] at hK
    simpa using hK
  · rw [if_pos (by simp [hi])]
    simpa [shapeP, hi] using hK

/-- Heap.Len -/
theorem c209 (hp : HpAt w L h) (ok : HpOk h) (x : Int) (hK : K (.tuple #[vInt (lenP h x), vInt (if isP h x = true then 0 else 1)]) w) : CAL Tryz.prog 209 #[vPtr L.h, vInt x] w K X := n209 <| by
  unfold N209
  refine c201 hp ok x ?_
  rw [UN_not, CND_bool]
  by_cases hi : isP h x = true
  · obtain ⟨y, sh, n, k, rfl, ob⟩ := ok.is hi
    have hpos := ob.pos; have htop := ob.top; have hlen := ok.top
    rw [if_neg (by simp [hi]), NC_ptr, FA_at]
    refine LD_h hp (o := 0) rfl (IA_word (by omega) (by omega) (LD_word hp (by omega) ?_))
    refine c210 _ (word64 ok _) ?_
    simp only [hi, if_true, lenP] at hK
    simpa using hK
  · rw [if_pos (by simp [hi])]
    simpa [lenP, hi] using hK

theorem HpAt.drew (hp : HpAt w L h) : HpAt w.drew L h := hp.same fun _ _ => rfl

/-- Heap.has -/
theorem c208 (hp : HpAt w L h) (ok : HpOk h) (x i : Int) (b : Bool) (hK : K (.bool (hasP h x i b)) w.drew) : CAL Tryz.prog 208 #[vPtr L.h, vInt x, vInt i, .bool b] w K X := n208 <| by
  unfold N208
  have hpd := HpAt.drew hp
  refine c201 hpd ok x ?_
  by_cases hi : isP h x = true
  · obtain ⟨y, sh, n, k, rfl, ob⟩ := ok.is hi
    have hpos := ob.pos; have htop := ob.top; have hlen := ok.top; have hnl := ok.nlays
    obtain ⟨l, hl⟩ := nth_of (l := h.lays) (i := (sh : Int)) (by have := ob.lay; omega)
    have hkind : kindP h (wShape (wordP h y) : Nat) = l.1 := by unfold kindP; rw [ob.shape, hl]
    refine GRP_and_to (u := (decide (l.1 = 3) == b)) (fun _ hk => ?_) ?_
    · rw [NC_ptr, FA_at]
      refine LD_h hpd (o := 2) rfl ?_
      rw [NC_ptr, FA_at]
      refine LD_h hpd (o := 0) rfl (IA_word (by omega) (by omega) (LD_word hpd (by omega) ?_))
      refine c202 _ (word64 ok _) ⟨fun _ _ h => h, ?_⟩
      refine IA_lay hpd (x := l) (by simpa [ob.shape] using hl) fun b o hb h1 h2 => ?_
      rw [FA_at]
      refine LD_blk hb h1 ?_
      rw [BIN_eql, BIN_booleql]; exact hk
    refine GRP_and_to (u := decide (0 ≤ i)) (fun _ hk => by rw [BIN_geq]; exact hk) ?_
    refine GRP_and_to (u := decide (i < (wLen (wordP h y) : Nat))) (fun _ hk => ?_) ?_
    · rw [NC_ptr, FA_at]
      refine LD_h hpd (o := 0) rfl (IA_word (by omega) (by omega) (LD_word hpd (by omega) ?_))
      refine c210 _ (word64 ok _) ?_
      rw [BIN_lss]; simpa using hk
    · unfold hasP at hK
      rw [hkind] at hK; exact hK
  · refine GRP_and_to (u := true) (fun h => absurd h hi) ?_
    refine GRP_and_to (u := true) (fun h => absurd h (by simp [hi])) ?_
    refine GRP_and_to (u := true) (fun h => absurd h (by simp [hi])) ?_
    simpa [hasP, hi] using hK

/-- Heap.Fits -/
theorem c212' (hp : HpAt w L h) (htop : h.top ≤ h.words.length) (hlen : h.words.length ≤ 65536) (x : Nat) (hx : W64 x) (hK : K (.bool (fitsP h x)) w) : CAL Tryz.prog 212 #[vPtr L.h, vU x] w K X := n212 <| by
  unfold N212
  rw [BIN_ptrneq]
  refine GRP_and_to (u := fitsP h x) (fun _ hk => ?_) hK
  refine c153 x hx ?_
  refine GRP_or_to (u := isP h (x / 2 : Nat)) (fun _ hk => ?_) hk
  exact c156 x hx (c201' hp htop hlen _ hk)

theorem c212 (hp : HpAt w L h) (ok : HpOk h) (x : Nat) (hx : W64 x) (hK : K (.bool (fitsP h x)) w) : CAL Tryz.prog 212 #[vPtr L.h, vU x] w K X := c212' hp ok.top ok.len x hx hK
end
end Go.Proofs.YtgnfodphfgmdlaaGreat
/- The contracts of package heap: elements, bytes, texts, what an object needs. -/
namespace Go.Proofs.YtgnfodphfgmdlaaGreat
open Go Go.GX
section
variable {L : Lay} {h : Hp} {w : World} {K : Value → World → Prop} {X : List PanicEntry → World → Prop}

/-- Heap.Get -/
theorem c172 (hp : HpAt w L h) (ok : HpOk h) (x i : Int) (hK : match loadP h x i with | some v => K (.tuple #[vU v, vInt 0]) w.drew | none => K (.tuple #[vU 0, vInt 1]) w.drew) : CAL Tryz.prog 172 #[vPtr L.h, vInt x, vInt i] w K X := n172 <| by
  unfold N172
  refine c208 hp ok x i false ?_
  rw [UN_not, CND_bool]
  unfold loadP at hK
  by_cases hh : hasP h x i false = true
  · rw [if_pos hh] at hK
    obtain ⟨y, j, sh, n, k, rfl, rfl, hm, ob, hj, hkd, h1, _⟩ := hasP_spec ok hh
    have htop := ok.top; have hlen := ok.len; have hx := (h1 rfl).2
    have hpd := HpAt.drew hp
    rw [if_neg (by simp [hh]), NC_ptr, FA_at]
    refine LD_h hpd (o := 0) rfl ?_
    rw [BIN_add, wrap64 _ (by omega), BIN_add, wrap64 _ (by omega)]
    refine IA_word (by omega) (by omega) ?_
    have e : ((y : Int) + 1 + j).toNat = y + 1 + j := by omega
    rw [e]
    refine LD_word hpd (by omega) ?_
    simp only at hK
    have e2 : ((y + 1 + j : Nat) : Int) = (y : Int) + 1 + j := by omega
    rw [e2]; exact hK
  · rw [if_neg hh] at hK
    rw [if_pos (by simp [hh])]; exact hK

/-- Heap.Byte -/
theorem c167 (hp : HpAt w L h) (ok : HpOk h) (x i : Int) (hK : match byteP h x i with | some v => K (.tuple #[vB v, vInt 0]) w.drew | none => K (.tuple #[vB 0, vInt 1]) w.drew) : CAL Tryz.prog 167 #[vPtr L.h, vInt x, vInt i] w K X := n167 <| by
  unfold N167
  refine c208 hp ok x i true ?_
  rw [UN_not, CND_bool]
  unfold byteP at hK
  by_cases hh : hasP h x i true = true
  · rw [if_pos hh] at hK
    obtain ⟨y, j, sh, n, k, rfl, rfl, hm, ob, hj, hkd, _, h1⟩ := hasP_spec ok hh
    have htop := ok.top; have hlen := ok.len; have hx := (h1 rfl).2
    have hpd := HpAt.drew hp
    have hn := ob.nle
    rw [if_neg (by simp [hh]), NC_ptr, FA_at]
    refine LD_h hpd (o := 0) rfl ?_
    rw [BIN_add, wrap64 _ (by omega), BIN_quo]
    refine ⟨by omega, ?_⟩
    have e1 : (j : Int).tdiv 8 = ((j / 8 : Nat) : Int) := by rw [Int.tdiv_eq_ediv_of_nonneg (by omega)]; omega
    have e2 : (j : Int).tmod 8 = ((j % 8 : Nat) : Int) := by rw [Int.tmod_eq_emod_of_nonneg (by omega)]; omega
    rw [e1, wrap64 _ (by omega), BIN_add, wrap64 _ (by omega)]
    refine IA_word (by omega) (by omega) ?_
    have e : ((y : Int) + 1 + (j / 8 : Nat)).toNat = y + 1 + j / 8 := by omega
    rw [e]
    refine LD_word hpd (by omega) ?_
    rw [BIN_rem]
    refine ⟨by omega, ?_⟩
    have e3 : (j % 8 : Nat) * (8 : Int) = ((j % 8 * 8 : Nat) : Int) := by omega
    rw [e2, BIN_mul, wrap64 _ (by omega), e3, BIN_shrU _ _ _ (by omega), CNV_int, wrap8]
    have hw := word64 ok ((y + 1 + j / 8 : Nat) : Int)
    have e4 : ((wordP h ((y + 1 + j / 8 : Nat) : Int) : Nat) : Int) / 2 ^ (j % 8 * 8) % 256 = ((bOf (wordP h ((y : Int) + 1 + j / 8)) j : Nat) : Int) := by
      unfold bOf
      have e5 : ((y + 1 + j / 8 : Nat) : Int) = (y : Int) + 1 + j / 8 := by omega
      have e6 : ((j : Int) % 8 * 8).toNat = j % 8 * 8 := by omega
      rw [e5, e6, Int.natCast_emod, Int.natCast_ediv, Int.natCast_pow]; rfl
    rw [e4]; exact hK
  · rw [if_neg hh] at hK
    rw [if_pos (by simp [hh])]; exact hK

theorem al121 (w : World) (K : Value → World → Prop) : AL Tryz.prog 121 w K = K (.pointer (some ⟨w.heap.size, 0, none⟩)) (w.alloc (.cells [vInt 0, vInt 0].toArray 121)) := by
  have : zeroB Tryz.prog 121 = some [vInt 0, vInt 0] := by kernel_rfl
  unfold AL ALC; rw [this]

theorem ST_two {w : World} {b : Nat} {t : TypeId} {x y a b' : Value} (h : Blk w b t [x, y]) (h1 : a.oneCell' = true) (h2 : b'.oneCell' = true) {K : World → Prop}
    (hK : K ((w.setCell ⟨b, 0, none⟩ a).setCell ⟨b, 1, none⟩ b')) : GX.ST 2 w (.pointer (some ⟨b, 0, none⟩)) (.agg #[a, b']) K := by
  unfold GX.ST STO
  refine ⟨rfl, ?_⟩
  have hs := h.set (o := 0) a
  have e1 : w.cell? ⟨b, 0, none⟩ = some x := by rw [h.cell]; rfl
  have e2 : (w.setCell ⟨b, 0, none⟩ a).cell? ⟨b, 1, none⟩ = some y := by rw [hs.cell]; rfl
  have e3 := h.frozen 0
  have e4 := hs.frozen 1
  show (match wrCells w ⟨b, 0, none⟩ [a, b'] 0 with | some w' => K w' | none => False)
  simp only [wrCells, Addr.add_lit0, e1, e3, h1, h2, cond_true, cond_false]
  rw [show ((⟨b, 0, none⟩ : Addr).add (0 + 1)) = ⟨b, 1, none⟩ from rfl, e2, e4]
  exact hK
where
  Addr.add_lit0 {b : Nat} : (⟨b, 0, none⟩ : Addr).add 0 = ⟨b, 0, none⟩ := rfl

/-- Heap.Need -/
theorem c203 (hp : HpAt w L h) (x n : Int) (hK : ∀ w', Ext w w' → match needP h x n with | .inl k => K (.tuple #[vInt k, vInt 0]) w' | .inr e => K (.tuple #[vInt 0, vInt e]) w') : CAL Tryz.prog 203 #[vPtr L.h, vInt x, vInt n] w K X := n203 <| by
  unfold N203
  rw [BIN_ptreql]
  refine GRP_or_to (u := decide (x < 0)) (fun _ hk => by rw [BIN_lss]; exact hk) ?_
  refine GRP_or_to (u := decide ((h.lays.length : Int) ≤ x)) (fun _ hk => ?_) ?_
  · rw [NC_ptr, FA_at]
    refine LD_h hp (o := 2) rfl (LEN_lays hp ?_)
    rw [BIN_geq]; exact hk
  refine GRP_or_to (u := decide (n < 0)) (fun _ hk => by rw [BIN_lss]; exact hk) ?_
  rw [CND_bool]
  unfold needP needL at hK
  by_cases hn : n < 0
  · rw [if_pos hn] at hK
    rw [if_pos (by simp [hn])]; exact hK w (Ext.refl w)
  · rw [if_neg hn] at hK
    cases hx : nth h.lays x with
    | none =>
      rw [hx] at hK
      have := nth_none hx
      rw [if_pos (by simp; omega)]; exact hK w (Ext.refl w)
    | some l =>
      simp only [hx] at hK
      have hlt := nth_lt hx
      rw [if_neg (by simp; omega), NC_ptr, FA_at]
      refine LD_h hp (o := 2) rfl (IA_lay hp hx fun b o hb h1 h2 => ?_)
      have hrd : rdCells w ⟨b, o, none⟩ 2 0 = some [vInt l.1, vInt l.2] := by
        have e1 : w.cell? ((⟨b, o, none⟩ : Addr).add 0) = some (vInt l.1) := by rw [add_lit, hb.cell]; exact h1
        have e2 : w.cell? ((⟨b, o, none⟩ : Addr).add (0 + 1)) = some (vInt l.2) := by rw [add_lit, hb.cell]; exact h2
        simp only [rdCells, e1, e2]
      rw [LDN_some hrd, al121]
      generalize hw1 : w.alloc (.cells [vInt 0, vInt 0].toArray 121) = w1
      have hb1 : Blk w1 w.heap.size 121 [vInt 0, vInt 0] := by rw [← hw1]; exact Blk.new _ _ _
      have e1 : Ext w w1 := by rw [← hw1]; exact (Ext.refl w).alloc _
      show GX.ST 2 w1 _ (.agg #[vInt l.1, vInt l.2]) _
      refine ST_two hb1 rfl rfl ?_
      have hb2 := (hb1.set (o := 0) (vInt l.1)).set (o := 1) (vInt l.2)
      have e2 := (e1.setCell (x := ⟨w.heap.size, 0, none⟩) (Nat.le_refl _) (vInt l.1)).setCell (x := ⟨w.heap.size, 1, none⟩) (Nat.le_refl _) (vInt l.2)
      generalize (w1.setCell ⟨w.heap.size, 0, none⟩ (vInt l.1)).setCell ⟨w.heap.size, 1, none⟩ (vInt l.2) = w2 at hb2 e2
      have hK := hK w2 e2
      rw [FA_at]
      refine LD_blk hb2 (v := vInt l.1) rfl ?_
      rw [BIN_eql]
      refine GRP_and_to (u := !decide (n = l.2)) (fun _ hk => ?_) ?_
      · rw [FA_at]
        refine LD_blk hb2 (v := vInt l.2) rfl ?_
        rw [BIN_neq]; exact hk
      rw [CND_bool]
      by_cases hc : l.1 = 1 ∧ n ≠ l.2
      · rw [if_pos hc] at hK
        rw [if_pos (by simpa using hc)]; exact hK
      · rw [if_neg hc] at hK
        rw [if_neg (by simpa using hc), BIN_gtr, CND_bool]
        by_cases hbig : n > 65536
        · rw [if_pos hbig] at hK
          rw [if_pos (by simpa using hbig)]; exact hK
        · rw [if_neg hbig] at hK
          rw [if_neg (by simpa using hbig), FA_at]
          refine LD_blk hb2 (v := vInt l.1) rfl ?_
          rw [BIN_eql, CND_bool]
          by_cases h3 : l.1 = 3
          · rw [if_pos h3] at hK
            rw [if_pos (by simpa using h3), BIN_add, wrap64 _ (by omega), BIN_quo]
            refine ⟨by omega, ?_⟩
            have e3 : (n + 7).tdiv 8 = (n + 7) / 8 := Int.tdiv_eq_ediv_of_nonneg (by omega)
            rw [e3, wrap64 _ (by omega), BIN_add, wrap64 _ (by omega)]
            exact hK
          · rw [if_neg h3] at hK
            rw [if_neg (by simpa using h3), BIN_add, wrap64 _ (by omega)]
            exact hK
end
end Go.Proofs.YtgnfodphfgmdlaaGreat
/- The contracts of package heap: what is written. -/
namespace Go.GX
open Go

/-- Only some blocks are changed. -/
structure Only (S : List Nat) (w w' : World) : Prop where
  size : w.heap.size ≤ w'.heap.size
  same : ∀ b, b < w.heap.size → b ∉ S → w'.heap[b]? = w.heap[b]?

theorem Only.ext {S : List Nat} {w w' : World} (e : Ext w w') : Only S w w' := ⟨e.size, fun b hb _ => e.same b hb⟩
theorem Only.trans {S : List Nat} {a b c : World} (h : Only S a b) (h' : Only S b c) : Only S a c :=
  ⟨Nat.le_trans h.size h'.size, fun i hi hn => by rw [h'.same i (Nat.lt_of_lt_of_le hi h.size) hn, h.same i hi hn]⟩
theorem Only.cell {S : List Nat} (w : World) {x : Addr} (hx : x.block ∈ S) (v : Value) : Only S w (w.setCell x v) :=
  ⟨by simp [World.setCell], fun b _ hn => setCell_other (fun (e : x.block = b) => hn (by rw [← e]; exact hx)) v⟩

/-- The four parts of a heap lie in blocks of their own. -/
def Lay.hpOk (L : Lay) : Prop := L.hpB.Nodup

theorem HpAt.setWord {w : World} {L : Lay} {h : Hp} (hp : HpAt w L h) (nd : L.hpOk) (p v : Nat) : HpAt (w.setCell ⟨L.wb, p, none⟩ (vU v)) L { h with words := h.words.set p v } := by
  unfold Lay.hpOk Lay.hpB at nd
  simp only [List.nodup_cons, List.mem_cons, not_or] at nd
  obtain ⟨hs, hh⟩ := hp.heads
  refine ⟨?_, ?_, ⟨hs, ?_, ?_, hh.w64, hh.bit⟩, ?_⟩
  · have := hp.blk.other (x := ⟨L.wb, p, none⟩) (fun e => nd.1.1 e.symm) (vU v)
    simpa using this
  · have := hp.words.set (o := p) (vU v)
    simpa [List.map_set] using this
  · exact hh.blk.other (x := ⟨L.wb, p, none⟩) (fun e => nd.2.1.1 e) (vU v)
  · simpa using hh.len
  · refine hp.lays.same fun b hb => setCell_other (fun e => ?_) _
    have e : L.wb = b := e
    exact nd.2.1.2 (e ▸ hb)
end Go.GX
namespace Go.Proofs.YtgnfodphfgmdlaaGreat
open Go Go.GX
section
variable {L : Lay} {h : Hp} {w : World} {K : Value → World → Prop} {X : List PanicEntry → World → Prop}

/-- Heap.Set -/
theorem c171 (hp : HpAt w L h) (ok : HpOk h) (nd : L.hpOk) (x i : Int) (v : Nat) (hv : W64 v)
    (hK : match storeP h x i v with
      | some h' => ∀ w', HpAt w' L h' → Only [L.wb] w w' → K (vInt 0) w'
      | none => ∀ w', HpAt w' L h → Ext w w' → K (vInt 1) w') : CAL Tryz.prog 171 #[vPtr L.h, vInt x, vInt i, vU v] w K X := n171 <| by
  unfold N171
  have hpd := HpAt.drew hp
  have ed : Ext w w.drew := (Ext.refl w).drew
  refine c208 hp ok x i false ?_
  rw [UN_not]
  unfold storeP at hK
  refine GRP_or_to (u := !fitsP h v) (fun _ hk => ?_) ?_
  · refine c212 hpd ok v hv ?_
    rw [UN_not]; exact hk
  rw [CND_bool]
  by_cases hh : (hasP h x i false && fitsP h v) = true
  · rw [if_pos hh] at hK
    rw [Bool.and_eq_true] at hh
    obtain ⟨y, j, sh, n, k, rfl, rfl, hm, ob, hj, hkd, h1, _⟩ := hasP_spec ok hh.1
    have htop := ok.top; have hlen := ok.len; have hx := (h1 rfl).2
    rw [if_neg (by simp [hh.1, hh.2]), NC_ptr, FA_at]
    refine LD_h hpd (o := 0) rfl ?_
    rw [BIN_add, wrap64 _ (by omega), BIN_add, wrap64 _ (by omega)]
    refine IA_word (by omega) (by omega) ?_
    have e : ((y : Int) + 1 + j).toNat = y + 1 + j := by omega
    rw [e] at hK ⊢
    refine ST_one hpd.words (by simp; omega) rfl rfl ?_
    exact hK _ (hpd.setWord nd _ v) ((Only.ext ed).trans (Only.cell _ (by simp) _))
  · rw [if_neg hh] at hK
    rw [if_pos (by cases h1 : hasP h x i false <;> cases h2 : fitsP h v <;> simp_all)]
    exact hK _ hpd ed

theorem bOf_nat (v j : Nat) : bOf v (j : Int) = v / 2 ^ (j % 8 * 8) % 256 := by
  unfold bOf
  have : ((j : Int) % 8 * 8).toNat = j % 8 * 8 := by omega
  rw [this]

theorem withByte_or (v j b : Nat) (hb : b < 256) :
    ((v - (v &&& (255 * 2 ^ (j % 8 * 8)))) ||| (b * 2 ^ (j % 8 * 8))) = withByte v j b := by
  unfold withByte
  rw [bOf_nat]
  have e0 : ((j : Int) % 8 * 8).toNat = j % 8 * 8 := by omega
  rw [e0]
  generalize j % 8 * 8 = s
  have e1 : v &&& (255 * 2 ^ s) = (v / 2 ^ s % 256) * 2 ^ s := by
    have := and_mask_at v 8 s
    simpa using this
  rw [e1]
  have hd := Nat.div_add_mod v (2 ^ s)
  have hd2 := Nat.div_add_mod (v / 2 ^ s) 256
  generalize hq : v / 2 ^ s = q at *
  generalize hr : v % 2 ^ s = r at *
  have hrl : r < 2 ^ s := by rw [← hr]; exact Nat.mod_lt _ (Nat.two_pow_pos _)
  have e2 : v - q % 256 * 2 ^ s = q / 256 * 2 ^ (s + 8) + r := by
    have : v = 2 ^ s * (256 * (q / 256) + q % 256) + r := by rw [hd2]; exact hd.symm
    rw [this, Nat.mul_add, Nat.pow_add, show (2 : Nat) ^ 8 = 256 from rfl]
    rw [Nat.mul_comm (2 ^ s) (q % 256)]
    have : 2 ^ s * (256 * (q / 256)) = q / 256 * (2 ^ s * 256) := by rw [← Nat.mul_assoc, Nat.mul_comm]
    omega
  rw [e2]
  have hbl : b * 2 ^ s + r < 2 ^ (s + 8) := by
    rw [Nat.pow_add, show (2 : Nat) ^ 8 = 256 from rfl]
    have : b * 2 ^ s + 2 ^ s ≤ 256 * 2 ^ s := by
      have := Nat.mul_le_mul_right (2 ^ s) (show b + 1 ≤ 256 by omega)
      rwa [Nat.add_mul, Nat.one_mul] at this
    rw [Nat.mul_comm (2 ^ s) 256]; omega
  rw [← or_eq_add _ r (s + 8) (Nat.lt_of_lt_of_le hrl (Nat.pow_le_pow_right (by omega) (by omega))), Nat.or_assoc, Nat.or_comm r, or_eq_add b r s hrl, or_eq_add _ _ _ hbl, or_eq_add _ _ _ (Nat.lt_of_lt_of_le hrl (Nat.pow_le_pow_right (by omega) (by omega)))]
  omega

/-- Heap.SetByte -/
theorem c164 (hp : HpAt w L h) (ok : HpOk h) (nd : L.hpOk) (x i : Int) (b : Nat) (hb : b < 256)
    (hK : ∀ e w', HpAt w' L (setByteP h x i b) → Only [L.wb] w w' → K (vInt e) w') : CAL Tryz.prog 164 #[vPtr L.h, vInt x, vInt i, vB b] w K X := n164 <| by
  unfold N164
  have hpd := HpAt.drew hp
  have ed : Ext w w.drew := (Ext.refl w).drew
  refine c208 hp ok x i true ?_
  rw [UN_not, CND_bool]
  unfold setByteP at hK
  by_cases hh : hasP h x i true = true
  · rw [if_pos hh] at hK
    obtain ⟨y, j, sh, n, k, rfl, rfl, hm, ob, hj, hkd, _, h1⟩ := hasP_spec ok hh
    have htop := ok.top; have hlen := ok.len; have hx := (h1 rfl).2
    have hn := ob.nle
    rw [if_neg (by simp [hh]), NC_ptr, FA_at]
    refine LD_h hpd (o := 0) rfl ?_
    rw [BIN_add, wrap64 _ (by omega), BIN_quo]
    refine ⟨by omega, ?_⟩
    have e1 : (j : Int).tdiv 8 = ((j / 8 : Nat) : Int) := by rw [Int.tdiv_eq_ediv_of_nonneg (by omega)]; omega
    have e2 : (j : Int).tmod 8 = ((j % 8 : Nat) : Int) := by rw [Int.tmod_eq_emod_of_nonneg (by omega)]; omega
    rw [e1, wrap64 _ (by omega), BIN_add, wrap64 _ (by omega)]
    refine IA_word (by omega) (by omega) ?_
    have e : ((y : Int) + 1 + (j / 8 : Nat)).toNat = y + 1 + j / 8 := by omega
    have e' : ((y : Int) + 1 + j / 8).toNat = y + 1 + j / 8 := by omega
    rw [e, BIN_rem]
    refine ⟨by omega, ?_⟩
    have e3 : (j % 8 : Nat) * (8 : Int) = ((j % 8 * 8 : Nat) : Int) := by omega
    rw [e2, BIN_mul, wrap64 _ (by omega), e3, NC_ptr]
    have hpd2 := HpAt.drew hpd
    have hw := word64 ok ((y + 1 + j / 8 : Nat) : Int)
    unfold W64 at hw
    refine LD_word hpd2 (by omega) ?_
    have e5 : ((y : Int) + 1 + j / 8) = ((y + 1 + j / 8 : Nat) : Int) := by omega
    rw [e', e5] at hK
    have hs8 : j % 8 * 8 ≤ 56 := by omega
    have hpow : 2 ^ (j % 8 * 8) ≤ 2 ^ 56 := Nat.pow_le_pow_right (by omega) hs8
    have m1 : ((255 : Int) * 2 ^ (j % 8 * 8)) % 18446744073709551616 = ((255 * 2 ^ (j % 8 * 8) : Nat) : Int) := by
      have : ((255 : Int) * 2 ^ (j % 8 * 8)) = ((255 * 2 ^ (j % 8 * 8) : Nat) : Int) := by rw [Int.natCast_mul, Int.natCast_pow]; rfl
      rw [this]; omega
    have m2 : ((b : Int) * 2 ^ (j % 8 * 8)) % 18446744073709551616 = ((b * 2 ^ (j % 8 * 8) : Nat) : Int) := by
      have : ((b : Int) * 2 ^ (j % 8 * 8)) = ((b * 2 ^ (j % 8 * 8) : Nat) : Int) := by rw [Int.natCast_mul, Int.natCast_pow]; rfl
      have hm : b * 2 ^ (j % 8 * 8) ≤ 255 * 2 ^ (j % 8 * 8) := Nat.mul_le_mul_right _ (by omega)
      rw [this]; omega
    have hm : b * 2 ^ (j % 8 * 8) ≤ 255 * 2 ^ (j % 8 * 8) := Nat.mul_le_mul_right _ (by omega)
    rw [BIN_shlU _ _ _ (by omega), m1, BIN_andNotU _ _ (by omega) (by omega), CNV_int, wrapU_lt _ (by omega), BIN_shlU _ _ _ (by omega), m2]
    rw [BIN_orU _ _ (by omega) (by omega), NC_ptr]
    simp only [Int.toNat_natCast]
    rw [withByte_or _ _ _ hb]
    refine ST_one hpd2.words (by simp; omega) rfl rfl ?_
    exact hK 0 _ (hpd2.setWord nd _ _) ((Only.ext ed.drew).trans (Only.cell _ (by simp) _))
  · rw [if_neg hh] at hK
    rw [if_pos (by simp [hh])]
    exact hK 1 _ hpd (Only.ext ed)
end
end Go.Proofs.YtgnfodphfgmdlaaGreat
/- A plain heap with an object more is whole. -/
namespace Go.GX
open Go

theorem fitsP_alloc {h : Hp} {shape n need : Int} {v : Nat} (hf : fitsP h v = true) : fitsP (allocP h shape n need) v = true := by
  unfold fitsP isP allocP at *
  simp only [Bool.or_eq_true, Bool.and_eq_true, decide_eq_true_eq] at *
  rcases hf with hf | ⟨⟨h1, h2⟩, h3⟩
  · exact .inl hf
  · refine .inr ⟨⟨h1, ?_⟩, List.mem_append_left _ h3⟩
    show ((v / 2 : Nat) : Int) < ((h.top + need.toNat : Nat) : Int)
    omega

theorem allocP_words {h : Hp} {shape n need : Int} :
    (allocP h shape n need).words = if kindP h shape = 3 then h.words.set h.top (wHead shape.toNat n.toNat) else allocW h.words h.top (wHead shape.toNat n.toNat) n.toNat := rfl

theorem allocP_ok {h : Hp} (ok : HpOk h) {shape n need : Int} (hn : needP h shape n = .inl need) (hroom : need ≤ h.words.length - h.top) :
    HpOk (allocP h shape n need) ∧ (allocP h shape n need).words.length = h.words.length ∧ isP (allocP h shape n need) h.top = true := by
  have hn : needL h.lays shape n = .inl need := hn
  obtain ⟨h0, h1, l, hl, hl1, hk⟩ := needL_inl hn
  have hsl := nth_lt hl
  obtain ⟨sh, rfl⟩ : ∃ sh : Nat, shape = sh := ⟨shape.toNat, by omega⟩
  obtain ⟨m, rfl⟩ : ∃ m : Nat, n = m := ⟨n.toNat, by omega⟩
  have htop := ok.top
  have hkpos : 1 ≤ need := by split at hk <;> omega
  obtain ⟨k, rfl⟩ : ∃ k : Nat, need = k := ⟨need.toNat, by omega⟩
  have hkind : kindP h (sh : Int) = l.1 := by unfold kindP; rw [hl]
  have hW : (allocP h sh m k).words.length = h.words.length ∧ (allocP h sh m k).words[h.top]? = some (wHead sh m) ∧ (∀ i, i < h.top → (allocP h sh m k).words[i]? = h.words[i]?) ∧
      (∀ i, h.top + k ≤ i → (allocP h sh m k).words[i]? = h.words[i]?) ∧ (∀ x ∈ (allocP h sh m k).words, W64 x) ∧ (l.1 ≠ 3 → ∀ i, i < m → (allocP h sh m k).words[h.top + 1 + i]? = some 1) := by
    rw [allocP_words, hkind]
    by_cases h3 : l.1 = 3
    · rw [if_pos h3, Int.toNat_natCast, Int.toNat_natCast]
      refine ⟨by simp, by rw [List.getElem?_set_self (by omega)], fun i hi => List.getElem?_set_ne (by omega), fun i hi => List.getElem?_set_ne (by omega), fun x hx => ?_, fun h => absurd h3 h⟩
      exact (List.mem_or_eq_of_mem_set hx).elim (ok.w64 x) (fun e => e ▸ wHead_64 _ _)
    · rw [if_neg h3, Int.toNat_natCast, Int.toNat_natCast]
      rw [if_neg h3] at hk
      have hle : h.top + 1 + m ≤ h.words.length := by omega
      refine ⟨allocW_length hle, by rw [allocW_get hle, if_pos rfl], fun i hi => by rw [allocW_get hle, if_neg (by omega), if_neg (by omega)],
        fun i hi => by rw [allocW_get hle, if_neg (by omega), if_neg (by omega)], fun x hx => ?_, fun _ i hi => by rw [allocW_get hle, if_neg (by omega), if_pos (by omega)]⟩
      obtain ⟨i, hi⟩ := List.getElem?_of_mem hx
      rw [allocW_get hle] at hi
      split at hi
      · cases hi; exact wHead_64 _ _
      · split at hi
        · cases hi; unfold W64; omega
        · exact ok.w64 x (List.mem_of_getElem? hi)
  obtain ⟨w1, w2, w3, w4, w5, w6⟩ := hW
  have ht : (allocP h sh m k).top = h.top + k := rfl
  have ho : (allocP h sh m k).objs = h.objs ++ [h.top] := rfl
  have hla : (allocP h sh m k).lays = h.lays := rfl
  have hwp : ∀ i : Nat, i < h.top → wordP (allocP h sh m k) i = wordP h i := fun i hi => by unfold wordP; rw [Int.toNat_natCast, w3 i hi]
  have hnl := ok.nlays
  have hnew : wordP (allocP h sh m k) h.top = wHead sh m := by unfold wordP; rw [Int.toNat_natCast, w2]; rfl
  refine ⟨⟨by rw [w1]; exact ok.len, w5, ok.nlays, ok.lays, ?_, by rw [w1, ht]; omega, ?_, ?_, ?_⟩, w1, ?_⟩
  · rw [ho, ht]
    exact (ok.chain.words (by rw [w1]; exact Nat.le_refl _) w3).snoc sh m k w2 (by omega) (by omega) hn (by rw [w1]; omega)
  · intro x hx hkx i hi
    rw [ho] at hx
    rcases List.mem_append.1 hx with hx | hx
    · obtain ⟨sh', n', k', ob⟩ := ok.obj hx
      have hpos := ob.pos; have hot := ob.top
      rw [hwp x (by omega)] at hkx hi
      have hkx' : kindP h (wShape (wordP h x) : Nat) ≠ 3 := hkx
      have hk' : k' = 1 + n' := by
        obtain ⟨_, _, l', hl', _, hk'⟩ := needL_inl ob.need
        have : kindP h (sh' : Int) = l'.1 := by unfold kindP; rw [hl']
        rw [ob.shape] at hkx'
        rw [if_neg (by rw [← this]; exact hkx')] at hk'; omega
      have hi' := hi
      rw [ob.len] at hi'
      rw [hwp _ (by omega)]
      exact fitsP_alloc (ok.fit x hx hkx' i hi)
    · simp at hx; subst hx
      rw [hnew] at hkx hi
      rw [wShape_head _ _ (by omega)] at hkx
      rw [wLen_head _ _ (by omega)] at hi
      have hkx : kindP h (sh : Int) ≠ 3 := hkx
      rw [hkind] at hkx
      have : wordP (allocP h sh m k) (h.top + 1 + i : Nat) = 1 := by unfold wordP; rw [Int.toNat_natCast, w6 hkx i hi]; rfl
      rw [this]; rfl
  · intro i hi
    rw [ht] at hi
    unfold wordP; rw [Int.toNat_natCast, w4 i hi]
    exact ok.zero i (by omega)
  · intro x hx hkx hn8
    rw [ho] at hx
    rcases List.mem_append.1 hx with hx | hx
    · obtain ⟨sh', n', k', ob⟩ := ok.obj hx
      have hpos := ob.pos; have hot := ob.top
      rw [hwp x (by omega)] at hkx hn8 ⊢
      have hkx' : kindP h (wShape (wordP h x) : Nat) = 3 := hkx
      have hk' : k' = 1 + (n' + 7) / 8 := by
        obtain ⟨_, _, l', hl', _, hk'⟩ := needL_inl ob.need
        have : kindP h (sh' : Int) = l'.1 := by unfold kindP; rw [hl']
        rw [ob.shape] at hkx'
        rw [if_pos (by rw [← this]; exact hkx')] at hk'; omega
      have hn8' := hn8
      rw [ob.len] at hn8'
      rw [hwp _ (by rw [ob.len]; omega)]
      exact ok.pad x hx hkx' hn8
    · simp at hx; subst hx
      rw [hnew] at hkx hn8 ⊢
      rw [wShape_head _ _ (by omega)] at hkx
      rw [wLen_head _ _ (by omega)] at hn8 ⊢
      have hkx : kindP h (sh : Int) = 3 := hkx
      rw [hkind] at hkx
      have hz : (allocP h sh m k).words[h.top + 1 + m / 8]? = h.words[h.top + 1 + m / 8]? := by
        rw [allocP_words, hkind, if_pos hkx]; exact List.getElem?_set_ne (by omega)
      have : wordP (allocP h sh m k) (h.top + 1 + m / 8 : Nat) = 0 := by
        unfold wordP; rw [Int.toNat_natCast, hz]
        exact ok.zero (h.top + 1 + m / 8) (by omega)
      rw [this]; exact Nat.two_pow_pos _
  · unfold isP
    rw [ht, ho]
    simp only [Bool.and_eq_true, decide_eq_true_eq, Int.toNat_natCast]
    refine ⟨⟨by omega, by omega⟩, by simp⟩

/-- The bits of the heads with one more. -/
theorem heads_or (hs : List Nat) (top : Nat) (objs : List Nat) (hlen : top < 64 * hs.length) (hb : ∀ x, x < 64 * hs.length → (decide ((hs[x / 64]?).getD 0 / 2 ^ (x % 64) % 2 = 1) = decide (x ∈ objs))) :
    ∀ x, x < 64 * (hs.set (top / 64) ((hs[top / 64]?).getD 0 ||| 2 ^ (top % 64))).length →
      (decide (((hs.set (top / 64) ((hs[top / 64]?).getD 0 ||| 2 ^ (top % 64)))[x / 64]?).getD 0 / 2 ^ (x % 64) % 2 = 1) = decide (x ∈ objs ++ [top])) := by
  intro x hx
  rw [List.length_set] at hx
  have hbx := hb x hx
  rw [← Nat.testBit_eq_decide_div_mod_eq] at hbx ⊢
  have hmem : decide (x ∈ objs ++ [top]) = (decide (x ∈ objs) || decide (x = top)) := by
    rw [Bool.eq_iff_iff]; simp
  rw [hmem, ← hbx]
  by_cases e : top / 64 = x / 64
  · rw [e, List.getElem?_set_self (by omega), Option.getD_some, Nat.testBit_or, Nat.testBit_two_pow]
    congr 1
    rw [Bool.eq_iff_iff, decide_eq_true_eq, decide_eq_true_eq]
    omega
  · rw [List.getElem?_set_ne e]
    have : decide (x = top) = false := by
      rw [decide_eq_false_iff_not]; rintro rfl; exact e rfl
    rw [this, Bool.or_false]
end Go.GX
/- The contracts of package heap: an object more; texts. -/
namespace Go.GX
open Go

theorem allocW_zero {ws : List Nat} {top head : Nat} (h : top < ws.length) : ws.set top head = allocW ws top head 0 := by
  apply List.ext_getElem?
  intro i
  rw [allocW_get (by omega)]
  by_cases e : i = top
  · subst e; rw [if_pos rfl, List.getElem?_set_self h]
  · rw [if_neg e, if_neg (by omega), List.getElem?_set_ne (fun h => e h.symm)]
theorem allocW_succ {ws : List Nat} {top head n : Nat} (h : top + 1 + n < ws.length) : (allocW ws top head n).set (top + 1 + n) 1 = allocW ws top head (n + 1) := by
  apply List.ext_getElem?
  intro i
  rw [allocW_get (by omega)]
  by_cases e : i = top + 1 + n
  · subst e; rw [if_neg (by omega), if_pos (by omega), List.getElem?_set_self (by rw [allocW_length (by omega)]; omega)]
  · rw [List.getElem?_set_ne (fun h => e h.symm), allocW_get (by omega)]
    by_cases e2 : i = top
    · rw [if_pos e2, if_pos e2]
    · rw [if_neg e2, if_neg e2]
      by_cases e3 : top < i ∧ i ≤ top + n
      · rw [if_pos e3, if_pos (by omega)]
      · rw [if_neg e3, if_neg (by omega)]

/-- A bit more, and the top. -/
theorem HpAt.more {w : World} {L : Lay} {h : Hp} (hp : HpAt w L h) (nd : L.hpOk) {hs : List Nat} (hh : HeadsAt w L.hb h hs) {top : Nat} (ht : top < 64 * hs.length) (k : Nat) :
    HpAt ((w.setCell ⟨L.hb, top / 64, none⟩ (vU ((hs[top / 64]?).getD 0 ||| 2 ^ (top % 64)))).setCell ⟨L.h, 3, none⟩ (vInt ((top + k : Nat) : Int))) L { h with objs := h.objs ++ [top], top := top + k } := by
  unfold Lay.hpOk Lay.hpB at nd
  simp only [List.nodup_cons, List.mem_cons, not_or] at nd
  refine ⟨?_, ?_, ⟨hs.set (top / 64) ((hs[top / 64]?).getD 0 ||| 2 ^ (top % 64)), ?_, ?_, ?_, ?_⟩, ?_⟩
  · have := (hp.blk.other (x := ⟨L.hb, top / 64, none⟩) (fun e => nd.1.2.1 e.symm) (vU ((hs[top / 64]?).getD 0 ||| 2 ^ (top % 64)))).set (o := 3) (vInt ((top + k : Nat) : Int))
    exact this
  · exact (hp.words.other (x := ⟨L.hb, top / 64, none⟩) (fun e => nd.2.1.1 e.symm) _).other (x := ⟨L.h, 3, none⟩) (fun e => nd.1.1 e) _
  · have := (hh.blk.set (o := top / 64) (vU ((hs[top / 64]?).getD 0 ||| 2 ^ (top % 64)))).other (x := ⟨L.h, 3, none⟩) (fun e => nd.1.2.1 e) (vInt ((top + k : Nat) : Int))
    rw [List.map_set]; exact this
  · simpa using hh.len
  · intro x hx
    rcases List.mem_or_eq_of_mem_set hx with hx | rfl
    · exact hh.w64 x hx
    · unfold W64
      have h1 : (hs[top / 64]?).getD 0 < 2 ^ 64 := by
        cases hq : hs[top / 64]? with
        | none => exact Nat.two_pow_pos _
        | some y => exact hh.w64 y (List.mem_of_getElem? hq)
      have h2 : 2 ^ (top % 64) < 2 ^ 64 := Nat.pow_lt_pow_right (by omega) (by omega)
      exact Nat.or_lt_two_pow h1 h2
  · exact heads_or hs top h.objs ht hh.bit
  · refine (hp.lays.same (w' := w.setCell ⟨L.hb, top / 64, none⟩ (vU ((hs[top / 64]?).getD 0 ||| 2 ^ (top % 64)))) fun b hb => setCell_other (fun e => ?_) _).same fun b hb => setCell_other (fun e => ?_) _
    · have e : L.hb = b := e
      exact nd.2.2.1 (e ▸ hb)
    · have e : L.h = b := e
      exact nd.1.2.2 (e ▸ hb)
end Go.GX
namespace Go.Proofs.YtgnfodphfgmdlaaGreat
open Go Go.GX
section
variable {L : Lay} {h : Hp} {w : World} {K : Value → World → Prop} {X : List PanicEntry → World → Prop}

set_option maxRecDepth 20000 in
/-- Heap.Alloc -/
theorem c207 (hp : HpAt w L h) (ok : HpOk h) (nd : L.hpOk) (x n k : Int) (hneed : needP h x n = .inl k) (hroom : k ≤ h.words.length - h.top)
    (hK : ∀ w', HpAt w' L (allocP h x n k) → Only L.hpB w w' → K (.tuple #[vInt h.top, vInt 0]) w') : CAL Tryz.prog 207 #[vPtr L.h, vInt x, vInt n] w K X := n207 <| by
  unfold N207
  have hpok := allocP_ok ok hneed hroom
  obtain ⟨h0, h1, l, hl, hl1, hk⟩ := needL_inl (show needL h.lays x n = .inl k from hneed)
  have hsl := nth_lt hl
  have htop := ok.top; have hlen := ok.len; have hnl := ok.nlays
  have hkpos : 1 ≤ k := by split at hk <;> omega
  have hkind : kindP h x = l.1 := by unfold kindP; rw [hl]
  obtain ⟨m, rfl⟩ : ∃ m : Nat, n = m := ⟨n.toNat, by omega⟩
  obtain ⟨sh, rfl⟩ : ∃ sh : Nat, x = sh := ⟨x.toNat, by omega⟩
  obtain ⟨kk, rfl⟩ : ∃ kk : Nat, k = kk := ⟨k.toNat, by omega⟩
  refine c203 hp sh m fun w1 e1 => ?_
  rw [hneed]
  show EX _ 0 _
  rw [EX_0, EX_1, BIN_neq, CND_bool, if_neg (by simp)]
  have hp1 : HpAt w1 L h := hp.same fun b hb => e1.same b (by
    obtain ⟨hs, hh⟩ := hp.heads
    simp only [Lay.hpB, List.mem_cons] at hb
    rcases hb with rfl | rfl | rfl | hb
    · exact hp.blk.lt
    · exact hp.words.lt
    · exact hh.blk.lt
    · exact hp.lays.lt b hb)
  have hp1d := HpAt.drew hp1
  rw [NC_ptr, FA_at]
  refine LD_h hp1d (o := 0) rfl ?_
  show LEN (.sl 1) (.slice _ _ _) _
  rw [LEN_slice, NC_ptr, FA_at]
  refine LD_h hp1d (o := 3) rfl ?_
  rw [BIN_sub, wrap64 _ (by omega), BIN_gtr, CND_bool, if_neg (by simp; omega), NC_ptr, FA_at]
  refine LD_h hp1d (o := 3) rfl ?_
  have hp1dd := HpAt.drew hp1d
  rw [NC_ptr, FA_at]
  refine LD_h hp1dd (o := 0) rfl ?_
  refine c222 sh m (by omega) (by omega) ⟨fun _ _ h => h, ?_⟩
  refine IA_word (by omega) (by omega) ?_
  rw [Int.toNat_natCast]
  refine ST_one hp1dd.words (by simp; omega) rfl rfl ?_
  have hp3 := hp1dd.setWord nd h.top (wHead sh m)
  have o3 : Only L.hpB w (w1.drew.drew.setCell ⟨L.wb, h.top, none⟩ (vU (wHead sh m))) := (Only.ext e1.drew.drew).trans (Only.cell _ (by simp [Lay.hpB]) _)
  generalize w1.drew.drew.setCell ⟨L.wb, h.top, none⟩ (vU (wHead sh m)) = w3 at hp3 o3
  rw [JOIN_eq, NC_ptr, FA_at]
  -- what is done behind the words
  have tail : ∀ w4, HpAt w4 L { h with words := (allocP h sh m kk).words } → Only L.hpB w w4 →
      (NC (vPtr L.h) fun t72 => FA 1 t72 fun t73 => LD w4.drew t73 fun t74 => BIN .int .quo (vInt h.top) (.int .i64 64) fun t76 => IA 1 t74 t76 fun t77 => LD w4.drew t77 fun t78 =>
        BIN .int .rem (vInt h.top) (.int .i64 64) fun t80 => BIN .int .shl (.int .u64 1) t80 fun t81 => BIN .int .or t78 t81 fun t82 => IA 1 t74 t76 fun t83 => GX.ST 1 w4.drew t83 t82 fun w8 =>
        NC (vPtr L.h) fun t85 => FA 3 t85 fun t86 => LD w8 t86 fun t87 => BIN .int .add t87 (vInt kk) fun t89 => NC (vPtr L.h) fun t90 => FA 3 t90 fun t91 => GX.ST 1 w8 t91 t89 fun w9 =>
        K (.tuple #[vInt h.top, .int .i64 0]) w9) := by
    intro w4 hp4 o4
    have hp4d := HpAt.drew hp4
    obtain ⟨hs, hh⟩ := hp4d.heads
    have hwl : (allocP h sh m kk).words.length = h.words.length := hpok.2.1
    have hlen2 : hs.length = h.words.length / 64 + 1 := by have := hh.len; rw [show ({ h with words := (allocP h sh m kk).words } : Hp).words.length = h.words.length from hwl] at this; exact this
    have hlt : h.top / 64 < hs.length := by omega
    rw [NC_ptr, FA_at]
    refine LD_h hp4d (o := 1) rfl ?_
    rw [BIN_quo]
    refine ⟨by omega, ?_⟩
    have e1 : (h.top : Int).tdiv 64 = ((h.top / 64 : Nat) : Int) := by rw [Int.tdiv_eq_ediv_of_nonneg (by omega)]; omega
    have e2 : (h.top : Int).tmod 64 = ((h.top % 64 : Nat) : Int) := by rw [Int.tmod_eq_emod_of_nonneg (by omega)]; omega
    rw [e1, wrap64 _ (by omega)]
    show IA 1 (.slice _ _ _) _ _
    rw [IA_slice]
    refine ⟨by show _ ∧ ((h.top / 64 : Nat) : Int) < (((allocP h sh m kk).words.length / 64 + 1 : Nat) : Int); rw [hwl]; omega, ?_⟩
    rw [add_lit, Nat.mul_one, Nat.zero_add, Int.toNat_natCast]
    refine LD_blk hh.blk (v := vU ((hs[h.top / 64]?).getD 0)) (by simp [hlt]) ?_
    rw [BIN_rem]
    refine ⟨by omega, ?_⟩
    have hw : W64 ((hs[h.top / 64]?).getD 0) := by
      rw [List.getElem?_eq_getElem hlt]; exact hh.w64 _ (List.getElem_mem _)
    unfold W64 at hw
    have hpw : 2 ^ (h.top % 64) ≤ 2 ^ 63 := Nat.pow_le_pow_right (by omega) (by omega)
    have m1 : ((1 : Int) * 2 ^ (h.top % 64)) % 18446744073709551616 = ((2 ^ (h.top % 64) : Nat) : Int) := by
      have : ((1 : Int) * 2 ^ (h.top % 64)) = ((2 ^ (h.top % 64) : Nat) : Int) := by rw [Int.one_mul, Int.natCast_pow]; rfl
      rw [this]
      generalize 2 ^ (h.top % 64) = q at hpw
      omega
    have m2 : (0 : Int) ≤ ((2 ^ (h.top % 64) : Nat) : Int) ∧ ((2 ^ (h.top % 64) : Nat) : Int) < 18446744073709551616 := by
      generalize 2 ^ (h.top % 64) = q at hpw
      omega
    rw [e2, BIN_shlU _ _ _ (by omega), m1, BIN_orU _ _ (by omega) m2]
    simp only [Int.toNat_natCast]
    show IA 1 (.slice _ _ _) _ _
    rw [IA_slice]
    refine ⟨by show _ ∧ ((h.top / 64 : Nat) : Int) < (((allocP h sh m kk).words.length / 64 + 1 : Nat) : Int); rw [hwl]; omega, ?_⟩
    rw [add_lit, Nat.mul_one, Nat.zero_add, Int.toNat_natCast]
    refine ST_one hh.blk (by simpa using hlt) rfl rfl ?_
    have hb8 : Blk (w4.drew.setCell ⟨L.hb, h.top / 64, none⟩ (vU ((hs[h.top / 64]?).getD 0 ||| 2 ^ (h.top % 64)))) L.h 165 _ := hp4d.blk.other (by
      have nd' := nd
      unfold Lay.hpOk Lay.hpB at nd'
      simp only [List.nodup_cons, List.mem_cons, not_or] at nd'
      exact fun e => nd'.1.2.1 e.symm) _
    rw [NC_ptr, FA_at]
    refine LD_blk hb8 (v := vInt h.top) rfl ?_
    rw [BIN_add, wrap64 _ (by omega), NC_ptr, FA_at]
    refine ST_one hb8 (by simp) rfl rfl ?_
    have hfin := hp4d.more nd hh (top := h.top) (by omega) kk
    refine hK _ hfin (o4.trans ((Only.ext (Ext.refl w4).drew).trans ((Only.cell _ (by simp [Lay.hpB]) _).trans (Only.cell _ (by simp [Lay.hpB]) _))))
  refine LD_h hp3 (o := 2) rfl (IA_lay hp3 (x := l) hl fun b o hb g1 g2 => ?_)
  rw [FA_at]
  refine LD_blk hb g1 ?_
  rw [BIN_neq, CND_bool]
  by_cases h3 : l.1 = 3
  · rw [if_neg (by simp [h3])]
    refine tail w3 ?_ o3
    have : (allocP h sh m kk).words = h.words.set h.top (wHead sh m) := by rw [allocP_words, hkind, if_pos h3]; rfl
    rw [this]; exact hp3
  · rw [if_pos (by simp [h3])]
    rw [if_neg h3] at hk
    have hWd : (allocP h sh m kk).words = allocW h.words h.top (wHead sh m) m := by rw [allocP_words, hkind, if_neg h3]; rfl
    refine ⟨fun t57 w5 => ∃ j : Nat, t57 = vInt j ∧ j ≤ m ∧ HpAt w5 L { h with words := allocW h.words h.top (wHead sh m) j } ∧ Only L.hpB w w5,
      fun t57 _ => m - (match t57 with | .int _ i => i.toNat | _ => 0), ⟨0, rfl, by omega, by rw [← allocW_zero (by omega)]; exact hp3, o3⟩, ?_⟩
    rintro t57 w5 ⟨j, rfl, hj, hp5, o5⟩
    rw [BIN_lss, CND_bool]
    by_cases hjm : j < m
    · have hp5d := HpAt.drew hp5
      have hwl : (allocW h.words h.top (wHead sh m) j).length = h.words.length := allocW_length (by omega)
      rw [if_pos (by simpa using hjm), NC_ptr, FA_at]
      refine LD_h hp5d (o := 0) rfl ?_
      rw [BIN_add, wrap64 _ (by omega), BIN_add, wrap64 _ (by omega)]
      refine c89 0 ⟨fun _ _ h => h, ?_⟩
      refine IA_word (h := { h with words := allocW h.words h.top (wHead sh m) j }) (by omega) (by show _ < ((allocW h.words h.top (wHead sh m) j).length : Int); rw [hwl]; omega) ?_
      have e : ((h.top : Int) + 1 + j).toNat = h.top + 1 + j := by omega
      rw [e]
      refine ST_one hp5d.words (by simp [hwl]; omega) rfl rfl ?_
      rw [BIN_add, wrap64 _ (by omega)]
      refine ⟨⟨j + 1, by simp, hjm, ?_, o5.trans ((Only.ext (Ext.refl w5).drew).trans (Only.cell _ (by simp [Lay.hpB]) _))⟩, by simp; omega⟩
      have := hp5d.setWord nd (h.top + 1 + j) (wImm 0)
      rw [show wImm 0 = 1 from rfl] at this
      have e2 := allocW_succ (ws := h.words) (top := h.top) (head := wHead sh m) (n := j) (by omega)
      simp only [e2] at this
      exact this
    · rw [if_neg (by simpa using hjm)]
      have : j = m := by omega
      subst this
      exact tail w5 (by rw [hWd]; exact hp5) o5
end
end Go.Proofs.YtgnfodphfgmdlaaGreat
/- The contracts of package heap: texts. -/
namespace Go.GX
open Go

/-- A string of numbers. -/
def strOf (l : List Nat) : ByteArray := ⟨(l.map UInt8.ofNat).toArray⟩

theorem HpAt.grow {w w' : World} {L : Lay} {h : Hp} (hp : HpAt w L h) (e : Ext w w') : HpAt w' L h := hp.same fun b hb => e.same b (by
  obtain ⟨hs, hh⟩ := hp.heads
  simp only [Lay.hpB, List.mem_cons] at hb
  rcases hb with rfl | rfl | rfl | hb
  · exact hp.blk.lt
  · exact hp.words.lt
  · exact hh.blk.lt
  · exact hp.lays.lt b hb)

theorem bOf_lt (v : Nat) (i : Int) : bOf v i < 256 := Nat.mod_lt _ (by omega)

end Go.GX
namespace Go.Proofs.YtgnfodphfgmdlaaGreat
open Go Go.GX

theorem make34 : ∃ i, Tryz.prog.underlying 34 = some (.slice 5) ∧ Tryz.prog.info? 5 = some i ∧ i.zero = some (.int .u8 0) ∧ i.size = 1 ∧ i.bytes = 1 := by
  obtain ⟨i, z, h1, h2, h3, h4, h5, h6⟩ := elem34.ex
  have : (Tryz.prog.info? 5).map (fun i => i.zero) = some (some (.int .u8 0)) := by kernel_rfl
  rw [h2] at this
  simp only [Option.map_some, Option.some.injEq] at this
  exact ⟨i, h1, h2, this, h4, h5⟩

section
variable {L : Lay} {h : Hp} {w : World} {K : Value → World → Prop} {X : List PanicEntry → World → Prop}

/-- Bytes in a block, as a string. -/
theorem RUN_str {b c : Nat} {l : List Nat} (hl : ∀ x ∈ l, x < 256) {cs : List Value} (hb : Blk w b 5 cs) (hcs : ∀ (i : Nat) x, l[i]? = some x → cs[i]? = some (vB x)) (hK : K (.string (strOf l)) w) :
    RUN Tryz.prog (convert 34 9 (.slice (some ⟨b, 0, none⟩) l.length c)) w K := by
  have hr := run_convert_bytes_back (P := Tryz.prog) w 34 9 5 ⟨b, 0, none⟩ c (l.map UInt8.ofNat) (by kernel_rfl) (by kernel_rfl) (by kernel_rfl) (fun j hj => by
    have hj' : j < l.length := by simpa using hj
    rw [add_lit, hb.cell, Nat.zero_add, hcs j _ (List.getElem?_eq_getElem hj')]
    have := hl _ (List.getElem_mem hj')
    simp only [List.getElem_map, UInt8.toNat_ofNat']
    congr 3; omega)
  rw [List.length_map] at hr
  unfold RUN
  rw [hr]; exact ⟨Io.refl _, hK⟩

set_option maxRecDepth 20000 in
/-- Heap.Text -/
theorem c169 (hp : HpAt w L h) (ok : HpOk h) (x : Int) (hK : ∀ e w', Ext w w' → K (.tuple #[.string (strOf (textP h x)), vInt e]) w') : CAL Tryz.prog 169 #[vPtr L.h, vInt x] w K X := n169 <| by
  unfold N169
  have hpd := HpAt.drew hp
  refine c201 hpd ok x ?_
  rw [UN_not]
  by_cases hi : isP h x = true
  · obtain ⟨y, sh, n, k, rfl, ob⟩ := ok.is hi
    have hpos := ob.pos; have htop := ob.top; have hlen := ok.top; have hnl := ok.nlays; have hl6 := ok.len
    obtain ⟨l, hl⟩ := nth_of (l := h.lays) (i := (sh : Int)) (by have := ob.lay; omega)
    have hkind : kindP h (wShape (wordP h y) : Nat) = l.1 := by unfold kindP; rw [ob.shape, hl]
    refine GRP_or_to (u := !decide (l.1 = 3)) (fun _ hk => ?_) ?_
    · rw [NC_ptr, FA_at]
      refine LD_h hpd (o := 2) rfl ?_
      rw [NC_ptr, FA_at]
      refine LD_h hpd (o := 0) rfl (IA_word (by omega) (by omega) (LD_word hpd (by omega) ?_))
      refine c202 _ (word64 ok _) ⟨fun _ _ h => h, ?_⟩
      refine IA_lay hpd (x := l) (by simpa [ob.shape] using hl) fun b o hb h1 h2 => ?_
      rw [FA_at]
      refine LD_blk hb h1 ?_
      rw [BIN_neq]; exact hk
    rw [CND_bool]
    by_cases h3 : l.1 = 3
    · have htext : textP h y = (List.range n).map fun i => bOf (wordP h (y + 1 + (i / 8 : Nat))) i := by
        unfold textP
        rw [hi, hkind, h3, ob.len]; rfl
      have hkk : k = 1 + (n + 7) / 8 := by
        obtain ⟨_, _, l', hl', _, hk⟩ := needL_inl ob.need
        rw [hl] at hl'; cases hl'
        rw [if_pos h3] at hk; omega
      have hn := ob.nle
      rw [if_neg (by simp [hi, h3]), NC_ptr, FA_at]
      refine LD_h hpd (o := 0) rfl (IA_word (by omega) (by omega) (LD_word hpd (by omega) ?_))
      refine c210 _ (word64 ok _) ?_
      rw [show ((y : Int).toNat : Int) = y by omega, ob.len]
      refine RUN_make make34 rfl (by omega) (by omega) ?_
      generalize hw1 : w.drew.alloc (.cells (List.replicate n (Value.int .u8 0)).toArray 5) = w1
      have hb1 : Blk w1 w.drew.heap.size 5 (List.replicate n (Value.int .u8 0)) := by rw [← hw1]; exact Blk.new _ _ _
      have e1 : Ext w w1 := by rw [← hw1]; exact (Ext.refl w).drew.alloc _
      rw [LEN_slice]
      refine ⟨fun t41 w6 => ∃ j : Nat, t41 = vInt j ∧ j ≤ n ∧ Blk w6 w.heap.size 5 (((textP h y).take j).map vB ++ List.replicate (n - j) (vB 0)) ∧ Ext w w6,
        fun t41 _ => n - (match t41 with | .int _ i => i.toNat | _ => 0), ⟨0, rfl, by omega, hb1, e1⟩, ?_⟩
      rintro t41 w6 ⟨j, rfl, hj, hb6, e6⟩
      have hp6 := HpAt.grow hp e6
      have htl : (textP h y).length = n := by rw [htext]; simp
      rw [BIN_lss, CND_bool]
      by_cases hjn : j < n
      · rw [if_pos (by simpa using hjn), NC_ptr, FA_at]
        refine LD_h hp6 (o := 0) rfl ?_
        rw [BIN_add, wrap64 _ (by omega), BIN_quo]
        refine ⟨by omega, ?_⟩
        have q1 : (j : Int).tdiv 8 = ((j / 8 : Nat) : Int) := by rw [Int.tdiv_eq_ediv_of_nonneg (by omega)]; omega
        have q2 : (j : Int).tmod 8 = ((j % 8 : Nat) : Int) := by rw [Int.tmod_eq_emod_of_nonneg (by omega)]; omega
        rw [q1, wrap64 _ (by omega), BIN_add, wrap64 _ (by omega)]
        refine IA_word (by omega) (by omega) ?_
        have e : ((y : Int) + 1 + (j / 8 : Nat)).toNat = y + 1 + j / 8 := by omega
        rw [e]
        refine LD_word hp6 (by omega) ?_
        rw [BIN_rem]
        refine ⟨by omega, ?_⟩
        have q3 : (j % 8 : Nat) * (8 : Int) = ((j % 8 * 8 : Nat) : Int) := by omega
        rw [q2, BIN_mul, wrap64 _ (by omega), q3, BIN_shrU _ _ _ (by omega), CNV_int, wrap8]
        have q4 : ((wordP h ((y + 1 + j / 8 : Nat) : Int) : Nat) : Int) / 2 ^ (j % 8 * 8) % 256 = ((bOf (wordP h ((y : Int) + 1 + (j / 8 : Nat))) j : Nat) : Int) := by
          rw [bOf_nat]
          have e5 : ((y + 1 + j / 8 : Nat) : Int) = (y : Int) + 1 + (j / 8 : Nat) := by omega
          rw [e5]
          generalize wordP h ((y : Int) + 1 + (j / 8 : Nat)) = W
          rw [Int.natCast_emod, Int.natCast_ediv, Int.natCast_pow]; rfl
        rw [q4, IA_slice]
        refine ⟨by omega, ?_⟩
        rw [add_lit, Int.toNat_natCast, Nat.mul_one, Nat.zero_add]
        refine ST_one hb6 (by simp; omega) rfl rfl ?_
        rw [BIN_add, wrap64 _ (by omega)]
        refine ⟨⟨j + 1, by simp, hjn, ?_, e6.setCell (Nat.le_refl _) _⟩, by simp; omega⟩
        have hset := hb6.set (o := j) (vB (bOf (wordP h ((y : Int) + 1 + (j / 8 : Nat))) j))
        have el : (((textP h y).take j).map vB).length = j := by simp [htl]; omega
        have en : n - j = (n - (j + 1)) + 1 := by omega
        have ex : (textP h y)[j]? = some (bOf (wordP h ((y : Int) + 1 + (j / 8 : Nat))) j) := by rw [htext]; simp [hjn]
        rw [en, List.replicate_succ, List.set_append_right _ _ (by omega), el, Nat.sub_self, List.set_cons_zero] at hset
        rw [List.take_add_one, ex, List.map_append, List.append_assoc]
        exact hset
      · rw [if_neg (by simpa using hjn)]
        have : j = n := by omega
        subst this
        have ht : (textP h y).take j = textP h y := List.take_of_length_le (by omega)
        rw [ht] at hb6
        have := RUN_str (K := fun t w8 => K (.tuple #[t, vInt 0]) w8) (c := j) (l := textP h y) (fun z hz => by
          rw [htext] at hz
          obtain ⟨i, _, rfl⟩ := List.mem_map.1 hz
          exact bOf_lt _ _) hb6 (fun i z hz => by
            rw [List.getElem?_append_left (by simp; exact (List.getElem?_eq_some_iff.1 hz).1)]
            simp [hz]) (hK 0 w6 e6)
        rw [htl] at this
        exact this
    · have htext : textP h y = [] := by
        unfold textP
        rw [hi, hkind]; simp [h3]
      rw [if_pos (by simp [hi, h3])]
      have := hK 1 w.drew (Ext.refl w).drew
      rw [htext] at this
      exact this
  · have htext : textP h x = [] := by
      unfold textP
      have : isP h x = false := by simpa using hi
      rw [this]; rfl
    refine GRP_or_to (u := true) (fun h => absurd h (by simp [hi])) ?_
    rw [CND_bool, if_pos (by simp [hi])]
    have := hK 1 w.drew (Ext.refl w).drew
    rw [htext] at this
    exact this
end
end Go.Proofs.YtgnfodphfgmdlaaGreat
/- The contracts of the machine's functions: objects of slots, reckonings, what is thrown. -/
namespace Go.GX
open Go

section
variable {c : Ctx} {L : Lay} {s : Vm} {w w' : World}

theorem MS.hpOk (h : MS c L s w) : L.hpOk := by
  have := h.nodup
  simp only [Lay.all, List.nodup_cons, List.nodup_append] at this
  exact this.2.1

theorem MS.heap (h : MS c L s w) {h' : Hp} (hp' : HpAt w' L h') (hok : HpOk h') (hlay : h'.lays = s.hp.lays) (hfit : ∀ v, fitsP s.hp v = true → fitsP h' v = true) (o : Only L.hpB w w') : MS c L { s with hp := h' } w' := by
  have hnd := h.nodup
  simp only [Lay.all, List.nodup_cons, List.nodup_append, List.mem_append, not_or] at hnd
  have hin : ∀ b ∈ L.frB ++ L.obB, b ∈ L.all := fun b hb => by
    rw [Lay.all, List.mem_cons, List.mem_append]; exact .inr (.inr hb)
  have hsame : ∀ b ∈ L.frB ++ L.obB, w'.heap[b]? = w.heap[b]? := fun b hb => o.same b (h.lt b (hin b hb)) (fun hm => hnd.2.2.2 b hm b (by simpa using hb) rfl)
  have hm : w'.heap[L.m]? = w.heap[L.m]? := o.same _ (h.lt _ (by simp [Lay.all])) hnd.1.1
  have hv := h.inv
  refine ⟨h.ok, ⟨hok, hlay.trans hv.hlays, hv.words, hv.stack, hv.room, hv.fns, fun f hf x hx => ⟨(hv.slots f hf x hx).1, hfit x (hv.slots f hf x hx).2⟩, hv.block, hv.pos, hv.steps, hv.made, hv.swept, hv.inp, hv.output, hv.kind⟩, ?_, h.mach.same hm, hp', ?_, ?_, h.nodup, h.new⟩
  · exact ⟨⟨Nat.le_trans h.ext.size o.size, fun i hi => by
      rw [o.same i (Nat.lt_of_lt_of_le hi h.ext.size) (fun hm => by have := h.new i (by simp [Lay.all, hm]); omega), h.ext.same i hi]⟩,
      by rw [o.same _ h.xe.lt (fun hm => (h.new c.vb (by simp [Lay.all, hm])).2 rfl)]; exact h.xe.var, Nat.lt_of_lt_of_le h.xe.lt o.size⟩
  · exact h.frs.same fun b hb => hsame b (List.mem_append_left _ hb)
  · exact OutAt.same (w := w) h.out fun b hb => hsame b (List.mem_append_right _ hb)

theorem Only.step {S : List Nat} (hS : ∀ b ∈ S, b ∈ L.all) (o : Only S w w') : Step L L w w' := ⟨o.size, fun b hb hn => ⟨o.same b hb (fun hm => hn (hS b hm)), hn⟩⟩
theorem hpB_all (L : Lay) : ∀ b ∈ L.hpB, b ∈ L.all := fun b hb => by simp [Lay.all, hb]

theorem LD_hp (h : MS c L s w) {K : Value → Prop} (hK : K (vPtr L.h)) : LD w (.pointer (some ⟨L.m, 6, none⟩)) K := LD_m h (o := 6) rfl hK

theorem numP_state {i n : Int} {s s' : Vm} (h : numP i s = .ok n s') : s' = s := by
  unfold numP at h
  cases hg : getP i s with
  | bad => rw [hg] at h; cases h
  | stop => rw [hg] at h; cases h
  | ok x s1 =>
    have := getP_state hg
    subst this
    rw [hg] at h
    simp only [Res.bind_ok] at h
    split at h
    · cases h; rfl
    · cases h
theorem numP_stop {i k : Int} {s s' : Vm} (h : numP i s = .stop k s') : k = 6 ∧ s' = s := by
  unfold numP at h
  cases hg : getP i s with
  | bad => rw [hg] at h; cases h
  | stop =>
    have := getP_stop hg
    rw [hg] at h; cases h; exact this
  | ok x s1 =>
    have := getP_state hg
    subst this
    rw [hg] at h
    simp only [Res.bind_ok] at h
    split at h
    · cases h
    · cases h; exact ⟨rfl, rfl⟩

theorem unwindP_base (c : Cx) (x : Nat) (s : Vm) (a : List Fr) (b : Int) : ∀ (fs : List Fr) (n : Int), unwindP c x { s with frs := a, words := b } fs n = unwindP c x s fs n
  | [], n => rfl
  | f :: fs, n => by
    simp only [unwindP]
    cases pendingP f with
    | none => rfl
    | some i => simp only [unwindP_base c x s a b fs]
end
end Go.GX
namespace Go.Proofs.YtgnfodphfgmdlaaGreat
open Go Go.GX
section
variable {c : Ctx} {L : Lay} {s : Vm} {w : World} {K : Value → World → Prop} {X : List PanicEntry → World → Prop}

/-- index -/
theorem c168 (n : Int) (hK : K (vInt (indexP n)) w) : CAL Tryz.prog 168 #[vInt n] w K X := n168 <| by
  unfold N168
  rw [BIN_lss]
  refine GRP_or_to (u := decide (65536 < n)) (fun _ hk => by rw [BIN_gtr]; exact hk) ?_
  rw [CND_bool]
  unfold indexP at hK
  by_cases hn : n < 0 ∨ n > 65536
  · rw [if_pos hn] at hK
    rw [if_pos (by simpa using hn)]; exact hK
  · rw [if_neg hn] at hK
    rw [if_neg (by simpa using hn)]; exact hK

/-- object -/
theorem c166 (h : MS c L s w) (i kind other : Int) (hK : ∀ p, objectP i kind other s = .ok p s → (∃ y : Nat, p.1 = y ∧ fitsP s.hp (2 * y) = true) → ∀ w', MS c L s w' → Ext w w' → K (.tuple #[vInt p.1, vInt p.2]) w')
    (hX : objectP i kind other s = .stop 6 s → ∀ w', MS c L s w' → Ext w w' → X (over 6) w') (hne : objectP i kind other s ≠ .bad) : CAL Tryz.prog 166 #[vPtr L.m, vInt i, vInt kind, vInt other] w K X := n166 <| by
  unfold N166
  refine c95w h i (fun x hx hw w' h' e' b o hl => ?_) (fun hx w' h' e' => ?_) (fun hb => hne (by unfold objectP; rw [hb]; rfl))
  · rw [NC_ptr, hl]
    refine c153 x hw.1 ?_
    rw [UN_not]
    by_cases hodd : x % 2 = 1
    · refine c56 _ _ (fun hf => by simp [hodd] at hf) (fun _ => ?_)
      exact hX (by unfold objectP; rw [hx]; simp [hodd]) w' h' e'
    · refine c56 _ _ (fun _ => ?_) (fun hf => by simp [hodd] at hf)
      refine c156 x hw.1 ?_
      rw [NC_ptr, FA_at]
      refine LD_hp h' ?_
      refine c155 h'.hp h'.inv.heap _ ?_
      rw [EX_0, EX_1, NC_ptr, FA_at]
      refine LD_hp h' ?_
      refine c101 h'.hp _ ?_
      rw [BIN_eql]
      refine GRP_or_to (u := decide (kindP s.hp (shapeP s.hp (x / 2 : Nat)) = other)) (fun _ hk => by rw [BIN_eql]; exact hk) ?_
      by_cases hk : kindP s.hp (shapeP s.hp (x / 2 : Nat)) = kind ∨ kindP s.hp (shapeP s.hp (x / 2 : Nat)) = other
      · refine c56 _ _ (fun _ => ?_) (fun hf => by simp at hf; rcases hk with hk | hk <;> simp_all)
        rw [NC_ptr, FA_at]
        refine LD_hp h' ?_
        refine c209 h'.hp h'.inv.heap _ ?_
        rw [EX_0, EX_1]
        refine hK ((x / 2 : Nat), lenP s.hp (x / 2 : Nat)) (by unfold objectP; rw [hx]; simp only [Res.bind_ok]; rw [if_neg hodd, if_pos hk]) ⟨x / 2, rfl, ?_⟩ w' h' e'
        have : 2 * (x / 2) = x := by omega
        rw [this]; exact hw.2
      · refine c56 _ _ (fun ht => by simp at ht; exact absurd ht hk) (fun _ => ?_)
        exact hX (by unfold objectP; rw [hx]; simp only [Res.bind_ok]; rw [if_neg hodd, if_neg hk]) w' h' e'
  · exact hX (by unfold objectP; rw [hx]; rfl) w' h' e'

/-- name -/
theorem c157 (h : MS c L s w) (x : Nat) (hx : W64 x ∧ fitsP s.hp x = true) (hK : ∀ w', MS c L s w' → Ext w w' → K (.string (nameP c.toCx x s)) w') : CAL Tryz.prog 157 #[vPtr L.m, vU x] w K X := n157 <| by
  unfold N157
  have him := h.ok.im
  refine c153 x hx.1 ?_
  rw [UN_not, CND_bool]
  by_cases hodd : x % 2 = 1
  · rw [if_neg (by simp [hodd])]
    refine c154 x hx.1 ?_
    rw [BIN_geq]
    refine GRP_and_to (u := decide (wInt x < c.im.names.length)) (fun _ hk => ?_) ?_
    · rw [NC_ptr, FA_at]
      refine LD_m h (o := 0) rfl ?_
      rw [NC_ptr, FA_at]
      refine LD_sl0 h.ext him.names fun v hv => LEN_sl hv ?_
      rw [BIN_lss]; exact hk
    rw [CND_bool]
    have hK := hK w h (Ext.refl w)
    unfold nameP at hK
    rw [if_pos hodd] at hK
    cases hn : nth c.im.names (wInt x) with
    | none =>
      have := nth_none hn
      rw [hn] at hK
      rw [if_neg (by simp; omega)]
      exact hK
    | some t =>
      have := nth_lt hn
      rw [hn] at hK
      rw [if_pos (by simp; omega), NC_ptr, FA_at]
      refine LD_m h (o := 0) rfl ?_
      rw [NC_ptr, FA_at]
      refine LD_sl0 h.ext him.names fun v hv => ?_
      refine IA_sl hv this.1 (nth_some hn).2 fun b o hs => ?_
      exact LD_str (hs.ext h.ext) hK
  · rw [if_pos (by simp [hodd]), NC_ptr, FA_at]
    have hd := h.drew
    refine LD_hp hd ?_
    refine c156 x hx.1 ⟨fun _ _ h => h, ?_⟩
    refine c155 hd.hp hd.inv.heap _ ?_
    rw [EX_0, EX_1]
    have hfit := hx.2
    unfold fitsP at hfit
    have his : isP s.hp (x / 2 : Nat) = true := by simpa [hodd] using hfit
    obtain ⟨y, sh, n, k, he, ob⟩ := hd.inv.heap.is his
    have hsh : shapeP s.hp (x / 2 : Nat) = sh := by
      unfold shapeP; rw [if_pos his, he, ob.shape]
    have hlays := hd.inv.hlays
    have hlen : s.hp.lays.length = c.im.shapes.length := by rw [hlays]; simp
    have hshl := ob.lay
    obtain ⟨g, hg⟩ := nth_of (l := c.im.shapes) (i := (sh : Int)) (by omega)
    have hK := hK w.drew hd (Ext.refl w).drew
    unfold nameP at hK
    rw [if_neg hodd, hsh, hg] at hK
    rw [hsh, NC_ptr, FA_at]
    refine LD_m hd (o := 0) rfl ?_
    rw [NC_ptr, FA_at]
    refine LD_sl0 hd.ext him.shapes fun v hv => ?_
    refine IA_sl hv (by omega) (nth_some hg).2 fun b o hs => ?_
    rw [FA_at]
    exact LD_str (hs.name.ext hd.ext) hK

end
end Go.Proofs.YtgnfodphfgmdlaaGreat
/- The contracts of the machine's functions: reckonings, what is thrown. -/
namespace Go.GX
open Go

section
variable {c : Ctx} {L : Lay} {s : Vm} {w w' : World}

theorem primP_num {x : InstrS} {s : Vm} : primP x s = (numP x.a s).bind fun a s => (numP x.b s).bind fun b s =>
  if x.n = 1 then .ok (wWrap (a + b), true) s
  else if x.n = 2 then .ok (wWrap (a - b), true) s
  else if x.n = 3 then .ok (wWrap (a * b), true) s
  else if x.n = 4 then (if b = 0 then .ok (0, false) s else .ok (wWrap (wQuo a b), true) s)
  else if x.n = 5 then (if b = 0 then .ok (0, false) s else .ok (wWrap (wRem a b), true) s)
  else if x.n = 6 then .ok (if a < b then 1 else 0, true) s
  else if x.n = 7 then .ok (if a ≤ b then 1 else 0, true) s
  else if x.n = 8 then .ok (if a = b then 1 else 0, true) s
  else .stop 6 s := rfl
end
end Go.GX
namespace Go.Proofs.YtgnfodphfgmdlaaGreat
open Go Go.GX
section
variable {c : Ctx} {L : Lay} {s : Vm} {w : World} {K : Value → World → Prop} {X : List PanicEntry → World → Prop}

set_option maxRecDepth 20000 in
/-- prim -/
theorem c100 (h : MS c L s w) {a : Addr} (ha : a.spot = none) {x : InstrS} (hi : InstrAt c.w0 a x)
    (hK : ∀ p, primP x s = .ok p s → ∀ w', MS c L s w' → Ext w w' → K (.tuple #[vInt p.1, .bool p.2]) w') (hX : primP x s = .stop 6 s → ∀ w', MS c L s w' → Ext w w' → X (over 6) w') (hne : primP x s ≠ .bad) :
    CAL Tryz.prog 100 #[vPtr L.m, .pointer (some a)] w K X := n100 <| by
  obtain ⟨ab, ao, asp⟩ := a
  have : asp = none := ha
  subst this
  unfold N100
  have hd := h.drew
  have ed : Ext w w.drew := (Ext.refl w).drew
  have hin := hi.ext hd.ext
  rw [NC_ptr, FA_at]
  refine LD_int hin.a' ?_
  rw [NC_ptr, FA_at]
  refine LD_int hin.b ?_
  have hne' : numP x.a s ≠ .bad := fun hb => hne (by rw [primP_num, hb]; rfl)
  refine c91 hd x.a (fun n1 q1 r1 w1 h1 e1 => ⟨e1.keeps, ?_⟩) (fun q1 w1 h1 e1 => hX (by rw [primP_num, q1]; rfl) w1 h1 (ed.trans e1)) hne'
  have hne2 : numP x.b s ≠ .bad := fun hb => hne (by rw [primP_num, q1]; simp only [Res.bind_ok]; rw [hb]; rfl)
  refine c91 h1 x.b (fun n2 q2 r2 w2 h2 e2 => ?_) (fun q2 w2 h2 e2 => hX (by rw [primP_num, q1]; simp only [Res.bind_ok]; rw [q2]; rfl) w2 h2 (ed.trans (e1.trans e2))) hne2
  have e3 := ed.trans (e1.trans e2)
  have hp : primP x s = _ := primP_num
  rw [q1] at hp
  simp only [Res.bind_ok] at hp
  rw [q2] at hp
  simp only [Res.bind_ok] at hp
  rw [NC_ptr, FA_at]
  refine LD_int (hi.n.ext h2.ext) ?_
  rw [JOIN_eq, BIN_eql, CND_bool]
  by_cases g1 : x.n = 1
  · rw [if_pos (by simpa using g1)]
    rw [if_pos g1] at hp
    exact c158 _ _ (hK _ hp w2 h2 e3)
  rw [if_neg (by simpa using g1), BIN_eql, CND_bool]
  rw [if_neg g1] at hp
  by_cases g2 : x.n = 2
  · rw [if_pos (by simpa using g2)]
    rw [if_pos g2] at hp
    exact c159 _ _ (hK _ hp w2 h2 e3)
  rw [if_neg (by simpa using g2), BIN_eql, CND_bool]
  rw [if_neg g2] at hp
  by_cases g3 : x.n = 3
  · rw [if_pos (by simpa using g3)]
    rw [if_pos g3] at hp
    exact c160 _ _ (hK _ hp w2 h2 e3)
  rw [if_neg (by simpa using g3), BIN_eql, CND_bool]
  rw [if_neg g3] at hp
  by_cases g4 : x.n = 4
  · rw [if_pos (by simpa using g4)]
    rw [if_pos g4] at hp
    refine c161 _ _ r1 ?_
    by_cases g0 : n2 = 0
    · rw [if_pos g0] at hp ⊢
      rw [EX_0, EX_1]; exact hK _ hp w2 h2 e3
    · rw [if_neg g0] at hp ⊢
      rw [EX_0, EX_1]; exact hK _ hp w2 h2 e3
  rw [if_neg (by simpa using g4), BIN_eql, CND_bool]
  rw [if_neg g4] at hp
  by_cases g5 : x.n = 5
  · rw [if_pos (by simpa using g5)]
    rw [if_pos g5] at hp
    refine c162 _ _ r1 r2 ?_
    by_cases g0 : n2 = 0
    · rw [if_pos g0] at hp ⊢
      rw [EX_0, EX_1]; exact hK _ hp w2 h2 e3
    · rw [if_neg g0] at hp ⊢
      rw [EX_0, EX_1]; exact hK _ hp w2 h2 e3
  rw [if_neg (by simpa using g5), BIN_eql, CND_bool]
  rw [if_neg g5] at hp
  by_cases g6 : x.n = 6
  · rw [if_pos (by simpa using g6), BIN_lss]
    rw [if_pos g6] at hp
    show CND (.bool _) _ _
    rw [CND_bool]
    have hK := hK _ hp w2 h2 e3
    by_cases gl : n1 < n2
    · rw [if_pos (by simpa using gl)]; simpa [gl] using hK
    · rw [if_neg (by simpa using gl)]; simpa [gl] using hK
  rw [if_neg (by simpa using g6), BIN_eql, CND_bool]
  rw [if_neg g6] at hp
  by_cases g7 : x.n = 7
  · rw [if_pos (by simpa using g7), BIN_leq]
    rw [if_pos g7] at hp
    show CND (.bool _) _ _
    rw [CND_bool]
    have hK := hK _ hp w2 h2 e3
    by_cases gl : n1 ≤ n2
    · rw [if_pos (by simpa using gl)]; simpa [gl] using hK
    · rw [if_neg (by simpa using gl)]; simpa [gl] using hK
  rw [if_neg (by simpa using g7), BIN_eql, CND_bool]
  rw [if_neg g7] at hp
  by_cases g8 : x.n = 8
  · rw [if_pos (by simpa using g8), BIN_eql]
    rw [if_pos g8] at hp
    show CND (.bool _) _ _
    rw [CND_bool]
    have hK := hK _ hp w2 h2 e3
    by_cases gl : n1 = n2
    · rw [if_pos (by simpa using gl)]; simpa [gl] using hK
    · rw [if_neg (by simpa using gl)]; simpa [gl] using hK
  rw [if_neg (by simpa using g8)]
  rw [if_neg g8] at hp
  exact c60 _ _ (hX hp w2 h2 e3)

/-- how many frames there are, as the machine's cell says -/
def frN (m : Nat) (w : World) : Nat := match w.cell? ⟨m, 7, none⟩ with | some (.slice _ n _) => n | _ => 0

theorem frN_eq (h : MS c L s w) : frN L.m w = s.frs.length := by
  unfold frN
  rw [h.mach.cell]
  show (match some (grown L.fb s.frs.length) with | some (.slice _ n _) => n | _ => 0) = _
  cases hb : L.fb with
  | none => have := h.frs.nil hb; rw [this]; rfl
  | some q => rfl

theorem LEN_frs (h : MS c L s w) {K : Value → Prop} (hK : K (vInt s.frs.length)) : LEN (.sl 1) (grown L.fb s.frs.length) K := by
  cases hb : L.fb with
  | none => have := h.frs.nil hb; rw [this] at hK ⊢; exact hK
  | some q => exact hK

set_option maxRecDepth 20000 in
/-- throw -/
theorem c98 (h : MS c L s w) (x : Nat) (hx : W64 x ∧ fitsP s.hp x = true) (hK : DO c L w (throwP c.toCx x s) vUnit K X) : CAL Tryz.prog 98 #[vPtr L.m, vU x] w K X := n98 <| by
  unfold N98
  refine ⟨fun w1 => ∃ L1 s1, L1.m = L.m ∧ Step L L1 w w1 ∧ MS c L1 s1 w1 ∧ throwP c.toCx x s1 = throwP c.toCx x s ∧ s1.hp = s.hp ∧ s1.frs ≠ [], frN L.m,
    ⟨L, s, rfl, Step.refl _ _, h, rfl, rfl, fun e => by unfold throwP popP at hK; rw [e] at hK; exact hK⟩, ?_⟩
  rintro w1 ⟨L1, s1, hm1, st1, h1, ht1, hh1, hne⟩
  cases hf : s1.frs with
  | nil => exact absurd hf hne
  | cons g gs =>
    have hpop : popP s1 = .ok () { s1 with words := s1.words - (g.fn.slots + 2), frs := gs } := by unfold popP; rw [hf]
    have hthrow : throwP c.toCx x s = unwindP c.toCx x { s1 with words := s1.words - (g.fn.slots + 2), frs := gs } gs (s1.words - (g.fn.slots + 2)) := by
      rw [← ht1]; unfold throwP; rw [hpop]; rfl
    rw [hthrow] at hK
    rw [← hm1]
    refine c94 h1 ?_
    rw [hpop]
    intro L2 w2 hm2 st2 h2
    generalize hs2 : ({ s1 with words := s1.words - (g.fn.slots + 2), frs := gs } : Vm) = s2 at h2 hK
    have hfr2 : s2.frs = gs := by rw [← hs2]
    have hwd2 : s2.words = s1.words - (g.fn.slots + 2) := by rw [← hs2]
    have hhp2 : s2.hp = s.hp := by rw [← hs2]; exact hh1
    have hthrow2 : throwP c.toCx x s = unwindP c.toCx x s2 gs s2.words := by rw [hthrow, hs2, hwd2]
    rw [← hwd2] at hK
    have st12 := st1.trans st2
    rw [JOIN_eq, ← hm2, NC_ptr, FA_at]
    refine LD_m h2 (o := 7) rfl ?_
    refine LEN_frs h2 ?_
    rw [BIN_eql, CND_bool]
    cases hgs : gs with
    | nil =>
      rw [hgs] at hK
      rw [if_pos (by rw [hfr2, hgs]; simp)]
      refine c157 h2 x (by rw [hhp2]; exact hx) fun w3 h3 e3 => ?_
      rw [NC_ptr, FA_at, FA_at]
      refine ST_one h3.mach (by simp [machC]) rfl rfl ?_
      refine c60 _ _ ?_
      have hv := h3.inv
      have hset := h3.setM 13 (.string (nameP c.toCx x s2)) { s2 with exn := nameP c.toCx x s2 } rfl ⟨hv.heap, hv.hlays, hv.words, hv.stack, hv.room, hv.fns, hv.slots, hv.block, hv.pos, hv.steps, hv.made, hv.swept, hv.inp, hv.output, hv.kind⟩ rfl rfl rfl
      unfold unwindP at hK
      refine hK L2 _ (hm2.trans hm1) ?_
      have : ({ s2 with frs := [], words := s2.words, exn := nameP c.toCx x s2 } : Vm) = { s2 with exn := nameP c.toCx x s2 } := by
        rw [hgs] at hfr2; rw [← hfr2]
      rw [this]; exact hset
    | cons f fs =>
      rw [if_neg (by rw [hfr2, hgs]; simp; omega)]
      have hfr2' : s2.frs = f :: fs := hfr2.trans hgs
      obtain ⟨p, ps, fa, t⟩ := h2.top hfr2'
      rw [hgs] at hK
      unfold unwindP at hK
      cases hpe : pendingP f with
      | none => rw [hpe] at hK; exact absurd hK id
      | some i =>
        simp only [hpe] at hK
        refine c59 t fun w3 h3 e3 => ?_
        refine c97 (t.same h3 e3) hpe fun b o hin w4 h4 e4 => ?_
        have e34 := e3.trans e4
        have hin4 := hin.ext h4.ext
        have st4 := st12.trans (Step.ext (L := L2) e34)
        rw [NC_ptr, FA_at]
        refine LD_int hin4.b ?_
        rw [BIN_eql, CND_bool]
        by_cases hb : i.b = -1
        · rw [if_pos (by simpa using hb)]
          simp only [hb, if_true] at hK
          refine ⟨⟨L2, s2, rfl, st4, h4, ?_, hhp2, by rw [hfr2']; simp⟩, ?_⟩
          · rw [hthrow2]
            unfold throwP popP
            rw [hfr2']
            simp only [Res.bind_ok]
            rw [unwindP_base, hgs]
            conv => rhs; unfold unwindP
            rw [hpe]
            simp only [hb, if_true]
          · rw [frN_eq h4, hm2, frN_eq h1, hf, hfr2', hgs]; simp
        · rw [if_neg (by simpa using hb), NC_ptr, FA_at]
          rw [if_neg hb] at hK
          refine LD_int hin4.c ?_
          have hs2f : ({ s2 with frs := f :: fs, words := s2.words } : Vm) = s2 := by rw [← hfr2']
          rw [hs2f] at hK
          refine c96 h4 i.c x (by rw [hhp2]; exact hx) ?_
          cases hset : setP i.c x s2 with
          | bad => rw [hset] at hK; exact hK
          | stop k s3 =>
            rw [hset] at hK
            exact fun L' w' hm' h' => hK L' w' (hm'.trans (hm2.trans hm1)) h'
          | ok u s3 =>
            rw [hset] at hK
            simp only [Res.bind_ok] at hK
            intro L5 w5 hm5 st5 h5
            unfold jumpP at hK
            cases hf5 : s3.frs with
            | nil => rw [hf5] at hK; exact absurd hK id
            | cons f5 fs5 =>
              rw [hf5] at hK
              obtain ⟨p5, ps5, fa5, t5⟩ := h5.top hf5
              rw [← hm5]
              refine c59 t5 fun w6 h6 e6 => ?_
              have t6 := t5.same h6 e6
              rw [NC_ptr, FA_at]
              refine LD_int (hin.b.ext h6.ext) ?_
              rw [NC_ptr, FA_at, FA_at]
              refine ST_one t6.blk (by simp [frC]) rfl rfl ?_
              rw [NC_ptr, FA_at, FA_at]
              refine ST_one (t6.blk.set (o := 1) (vInt i.b)) (by simp [frC]) rfl rfl ?_
              refine hK { L5 with fr := (p5.1, p5.2) :: ps5 } _ (show L5.m = L.m from hm5.trans (hm2.trans hm1)) ?_ (t6.place (q := 0) hin.b.2 (by omega))
              exact (st4.trans st5).trans ((Step.ext e6).trans ((Step.cell t6.pm.1 (fun b hb => hb) _).trans (Step.cell t6.pm.1 (fun b hb => by rwa [t6.all_same] at hb) _)))
end
end Go.Proofs.YtgnfodphfgmdlaaGreat
/- The contract of make: an object more, with what is held beside. -/
namespace Go.GX
open Go

/-- A slice of words outside the machine. -/
def WS (L : Lay) (w : World) (v : Value) (xs : List Nat) : Prop :=
  xs.length ≤ 1048576 ∧ ((v = .slice none 0 0 ∧ xs = []) ∨
  ∃ b o c, v = .slice (some ⟨b, o, none⟩) xs.length c ∧ b ∉ L.all ∧ b < w.heap.size ∧ ∀ (i : Nat) x, xs[i]? = some x → w.cell? ⟨b, o + i, none⟩ = some (vU x))

theorem cell_same {w w' : World} {a : Addr} (h : w'.heap[a.block]? = w.heap[a.block]?) : w'.cell? a = w.cell? a := by
  unfold World.cell?; rw [h]

theorem WS.step {L L' : Lay} {w w' : World} {v : Value} {xs : List Nat} (h : WS L w v xs) (st : Step L L' w w') : WS L' w' v xs := by
  rcases h.2 with h' | ⟨b, o, c, h1, h2, h3, h4⟩
  · exact ⟨h.1, .inl h'⟩
  · have := st.same b h3 h2
    refine ⟨h.1, .inr ?_⟩
    exact ⟨b, o, c, h1, this.2, Nat.lt_of_lt_of_le h3 st.size, fun i x hx => by rw [cell_same this.1]; exact h4 i x hx⟩

theorem WS.of_gr {L : Lay} {w : World} {o : Option (Nat × List Value)} {xs : List Nat} (h : GrAt w o 166 (xs.map vU)) (ho : ∀ b ∈ (o.map (·.1)).toList, b ∉ L.all) (hl : xs.length ≤ 1048576) : WS L w (grown o xs.length) xs := by
  refine ⟨hl, ?_⟩
  cases o with
  | none => have : xs.map vU = [] := h; have : xs = [] := by simpa using this
            subst this; exact .inl ⟨rfl, rfl⟩
  | some q =>
    have hb : Blk w q.1 166 (xs.map vU ++ q.2) := h
    refine .inr ⟨q.1, 0, _, rfl, ho q.1 (by simp), hb.lt, fun i x hx => ?_⟩
    rw [hb.cell, Nat.zero_add, List.getElem?_append_left (by simp; exact (List.getElem?_eq_some_iff.1 hx).1)]
    simp [hx]

/-- What stands behind a fork is shown once. -/
theorem JOIN_to2 {b : (Value → World → Prop) → Prop} {r : Value → World → Prop} (P : Value → World → Prop) (hb : ∀ r' : Value → World → Prop, (∀ v w, P v w → r' v w) → b r') (hr : ∀ v w, P v w → r v w) : JOIN b r := hb r hr

/-- Words that may stand in slots. -/
def Fit (s : Vm) (xs : List Nat) : Prop := ∀ x ∈ xs, W64 x ∧ fitsP s.hp x = true

/-- Like DO, where words come out. -/
def DOW (c : Ctx) (L : Lay) (w : World) {α : Type} (r : Res α) (f : α → List Nat) (Q : α → Vm → Prop) (V : α → Value → Value) (K : Value → World → Prop) (X : List PanicEntry → World → Prop) : Prop :=
  match r with
  | .ok a s => ∀ L' w' v, L'.m = L.m → Step L L' w w' → MS c L' s w' → WS L' w' v (f a) → Fit s (f a) → Q a s → K (V a v) w'
  | .stop k s => ∀ L' w', L'.m = L.m → MS c L' s w' → X ([{ v := .iface 80 (.agg #[.int .i64 k]), recovered := false }]) w'
  | .bad => False

theorem DOW.on {c : Ctx} {L L1 : Lay} {w w1 : World} {α : Type} {r : Res α} {f : α → List Nat} {Q : α → Vm → Prop} {V : α → Value → Value} {K : Value → World → Prop} {X : List PanicEntry → World → Prop}
    (h : DOW c L w r f Q V K X) (hm : L1.m = L.m) (st : Step L L1 w w1) : DOW c L1 w1 r f Q V K X := by
  cases r with
  | bad => exact h
  | ok a s => exact fun L' w' v h1 h2 h3 => h L' w' v (h1.trans hm) (st.trans h2) h3
  | stop k s => exact fun L' w' h1 h3 => h L' w' (h1.trans hm) h3

end Go.GX
namespace Go.Proofs.YtgnfodphfgmdlaaGreat
open Go Go.GX

/-- The contract of sweep. -/
def SweepOk (c : Ctx) : Prop := ∀ (L : Lay) (s : Vm) (w : World) (held : List Nat) (v : Value) (K : Value → World → Prop) (X : List PanicEntry → World → Prop),
  MS c L s w → WS L w v held → Fit s held → s.swept < s.made → DOW c L w (sweepP c.toCx held s) id (fun _ _ => True) (fun _ v => v) K X → CAL Tryz.prog 204 #[vPtr L.m, v] w K X

/-- Where nothing is said of a collection, nothing is asked. -/
theorem SweepOk.none {c : Ctx} (hg : c.gc = fun _ _ => none) : SweepOk c := by
  intro L s w held v K X h _ hf _ hK
  exfalso
  unfold sweepP at hK
  have hall : (rootsP s held).all (fitsP s.hp) = true := by
    rw [List.all_eq_true]
    intro x hx
    unfold rootsP at hx
    rcases List.mem_append.1 hx with hx | hx
    · obtain ⟨f, hf1, hx⟩ := List.mem_flatMap.1 hx
      exact (h.inv.slots f (by simpa using hf1) x hx).2
    · exact (hf x hx).2
  rw [if_pos hall, hg] at hK
  exact hK

section
variable {c : Ctx} {L : Lay} {s : Vm} {w : World} {K : Value → World → Prop} {X : List PanicEntry → World → Prop}

theorem keepP_ok {live : List Int} {s s1 : Vm} {u : Unit} (h : keepP live s = .ok u s1) : s1.hp = s.hp ∧ s1.made = s.made ∧ s1.swept = s.swept ∧ s1.steps = s.steps ∧ s1.output = s.output := by
  unfold keepP at h
  split at h
  · cases h
  · split at h
    · cases h; exact ⟨rfl, rfl, rfl, rfl, rfl⟩
    · cases h

theorem sweepP_ok {c : Cx} {held r : List Nat} {s s1 : Vm} (h : sweepP c held s = .ok r s1) : s1.made = s.made ∧ s1.swept = s.swept + 1 ∧ s1.steps = s.steps ∧ s1.output = s.output := by
  unfold sweepP at h
  split at h
  · split at h
    · cases h
    · cases h; exact ⟨rfl, rfl, rfl, rfl⟩
  · cases h

set_option maxRecDepth 20000 in
/-- make -/
theorem c163 (sw : SweepOk c) (h : MS c L s w) (shape n : Int) {live : List Int} {lv : Value} (hl : Sl 1 (IntAt c.w0) lv live) (hlen : live.length ≤ 1048576) {held : List Nat} {hv : Value} (hh : WS L w hv held) (hf : Fit s held)
    (hmade : s.made < s.steps) (hK : DOW c L w (makeP c.toCx shape n live held s) (fun p => p.2) (fun p s => ∃ y : Nat, p.1 = y ∧ isP s.hp y = true) (fun p v => .tuple #[vInt p.1, v]) K X) :
    CAL Tryz.prog 163 #[vPtr L.m, vInt shape, vInt n, lv, hv] w K X := n163 <| by
  unfold N163
  rw [NC_ptr, FA_at]
  refine LD_hp h ?_
  refine c203 h.hp shape n fun w1 e1 => ?_
  have h1 := h.grow e1
  unfold makeP at hK
  cases hneed : needP s.hp shape n with
  | inr e =>
    simp only [hneed] at hK
    show EX _ 0 _
    rw [EX_0, EX_1, BIN_eql]
    have he : e ≠ 0 := by
      unfold needP needL at hneed
      split at hneed
      · cases hneed; omega
      · split at hneed
        · cases hneed; omega
        · split at hneed
          · cases hneed; omega
          · split at hneed
            · cases hneed; omega
            · split at hneed <;> cases hneed
    exact c56 _ _ (fun ht => by simp at ht; exact absurd ht he) (fun _ => hK L w1 rfl h1)
  | inl need =>
    simp only [hneed] at hK
    show EX _ 0 _
    rw [EX_0, EX_1, BIN_eql]
    refine c56 _ _ (fun _ => ?_) (fun hf => by simp at hf)
    refine c104 h1 hl hlen ?_
    cases hkeep : keepP live s with
    | bad => rw [hkeep] at hK; exact hK
    | stop k s1 => rw [hkeep] at hK; exact fun L' w' hm' h' => hK L' w' hm' h'
    | ok u s2 =>
      rw [hkeep] at hK
      simp only [Res.bind_ok] at hK
      obtain ⟨khp, kmade, kswept, ksteps, kout⟩ := keepP_ok hkeep
      intro L2 w2 hm2 st2 h2
      have st2' := (Step.ext (L := L) e1).trans st2
      have hsteps := h2.inv.steps; have hfuel := h2.ok.ok.fuel; have hmd := h2.inv.made; have hsp := h2.inv.swept
      rw [← hm2, NC_ptr, FA_at]
      refine LD_m h2 (o := 10) rfl ?_
      rw [NC_ptr, FA_at]
      refine LD_m h2 (o := 10) rfl ?_
      rw [BIN_add, wrap64 _ (by omega), NC_ptr, FA_at]
      refine ST_one h2.mach (by simp [machC]) rfl rfl ?_
      have hv2 := h2.inv
      have h3 := h2.setM 10 (vInt (s2.made + 1)) { s2 with made := s2.made + 1 } rfl ⟨hv2.heap, hv2.hlays, hv2.words, hv2.stack, hv2.room, hv2.fns, hv2.slots, hv2.block, hv2.pos, hv2.steps, ⟨by show 0 ≤ s2.made + 1; omega, by show s2.made + 1 ≤ s2.steps; omega⟩, ⟨hv2.swept.1, by show s2.swept ≤ s2.made + 1; omega⟩, hv2.inp, hv2.output, hv2.kind⟩ rfl rfl rfl
      have st3 := st2'.trans (Step.cell (L := L2) (L' := L2) (w := w2) (x := ⟨L2.m, 10, none⟩) (by simp [Lay.all]) (fun _ h => h) (vInt (s2.made + 1)))
      have hfit3 : Fit { s2 with made := s2.made + 1 } held := fun x hx => by show W64 x ∧ fitsP s2.hp x = true; rw [khp]; exact hf x hx
      show NC _ _
      generalize hs3 : ({ s2 with made := s2.made + 1 } : Vm) = s3 at h3 hK hfit3
      generalize hw3 : w2.setCell ⟨L2.m, 0 + 10, none⟩ (vInt (s2.made + 1)) = w3 at h3 st3
      have hsm3 : s3.swept < s3.made := by rw [← hs3]; show s2.swept < s2.made + 1; omega
      have hws3 := hh.step st3
      -- the tail: the object is made
      have tail : ∀ (L8 : Lay) (s8 : Vm) (w8 : World) (held8 : List Nat) (v8 : Value), L8.m = L.m → Step L L8 w w8 → MS c L8 s8 w8 → WS L8 w8 v8 held8 → Fit s8 held8 → needP s8.hp shape n = .inl need → need ≤ s8.hp.words.length - s8.hp.top →
          (DOW c L w (Res.ok ((s8.hp.top : Int), held8) { s8 with hp := allocP s8.hp shape n need }) (fun p => p.2) (fun p s => ∃ y : Nat, p.1 = y ∧ isP s.hp y = true) (fun p v => .tuple #[vInt p.1, v]) K X) →
          (NC (vPtr L8.m) fun t103 => FA 6 t103 fun t104 => LD w8 t104 fun t105 => CAL Tryz.prog 207 #[t105, vInt shape, vInt n] w8 (fun t108 w16 => EX t108 0 fun t109 => EX t108 1 fun _ => K (.tuple #[t109, v8]) w16) X) := by
        intro L8 s8 w8 held8 v8 hm8 st8 h8 hws8 hf8 hn8 hr8 hK8
        rw [NC_ptr, FA_at]
        refine LD_hp h8 ?_
        refine c207 h8.hp h8.inv.heap h8.hpOk shape n need hn8 hr8 fun w9 hp9 o9 => ?_
        rw [EX_0, EX_1]
        have hok := allocP_ok h8.inv.heap hn8 hr8
        have h9 := h8.heap hp9 hok.1 rfl (fun v hv => fitsP_alloc hv) o9
        have st9 : Step L8 L8 w8 w9 := o9.step (hpB_all L8)
        exact hK8 L8 w9 v8 hm8 (st8.trans st9) h9 (hws8.step st9) (fun x hx => ⟨(hf8 x hx).1, fitsP_alloc (hf8 x hx).2⟩) ⟨s8.hp.top, rfl, hok.2.2⟩
      have hlays : ∀ {L' s' w'}, MS c L' s' w' → needP s'.hp shape n = .inl need := fun {L' s' w'} h' => by
        have e1 : s'.hp.lays = s.hp.lays := h'.inv.hlays.trans h.inv.hlays.symm
        have hn : needL s.hp.lays shape n = .inl need := hneed
        show needL s'.hp.lays shape n = .inl need
        rw [e1]; exact hn
      have hint : ∀ {L' s' w'}, MS c L' s' w' → (s'.hp.top : Int) ≤ s'.hp.words.length ∧ (s'.hp.words.length : Int) ≤ 65536 := fun {L' s' w'} h' => by
        have := h'.inv.heap.top; have := h'.inv.heap.len; omega
      rw [NC_ptr, FA_at, FA_at]
      have hm3 : L2.m = L2.m := rfl
      refine LD_m h3 (o := 5) rfl ?_
      have hcol := h3.ok.collect
      refine LEN_sl hcol ?_
      have hmade2 : s3.made = s2.made + 1 := by rw [← hs3]
      rw [BIN_lss]
      generalize hsw : (nth c.collect s2.made).getD false = swept at hK
      refine GRP_and_to (u := swept) (fun ht hk => ?_) ?_
      · rw [NC_ptr, FA_at, FA_at]
        refine LD_m h3 (o := 5) rfl ?_
        simp only [decide_eq_true_eq] at ht
        obtain ⟨b, hb⟩ := nth_of (l := c.collect) (i := s2.made) ⟨by omega, ht⟩
        refine IA_sl hcol (by omega) (nth_some hb).2 fun bb bo hbb => ?_
        refine LD_bool (hbb.ext h3.ext) ?_
        rw [hb] at hsw
        have hsw : b = swept := hsw
        rw [hsw]; exact hk
      have hsw2 : (decide (s2.made < (c.collect.length : Int)) && swept) = swept := by
        cases hd : decide (s2.made < (c.collect.length : Int)) with
        | true => rfl
        | false =>
          rw [decide_eq_false_iff_not] at hd
          cases hb : nth c.collect s2.made with
          | none => rw [hb] at hsw; exact hsw
          | some b => exact absurd (nth_lt hb).2 hd
      rw [hsw2]
      refine JOIN_to2 (fun v w6 => ∃ L6 s6 held6, L6.m = L.m ∧ Step L L6 w w6 ∧ MS c L6 s6 w6 ∧ WS L6 w6 v held6 ∧ Fit s6 held6 ∧ (swept = false → s6.swept < s6.made) ∧
        DOW c L w ((if need > s6.hp.words.length - s6.hp.top then
            (if swept then Res.ok held6 s6 else sweepP c.toCx held6 s6).bind fun held s =>
              if need > s.hp.words.length - s.hp.top then .stop 4 s else .ok held s
          else Res.ok held6 s6).bind fun held s => .ok ((s.hp.top : Int), held) { s with hp := allocP s.hp shape n need }) (fun p => p.2) (fun p s => ∃ y : Nat, p.1 = y ∧ isP s.hp y = true) (fun p v => .tuple #[vInt p.1, v]) K X) ?_ ?_
      · intro J hJ
        rw [CND_bool]
        cases swept with
        | true =>
          rw [if_pos rfl]
          refine sw L2 s3 w3 held hv _ _ h3 hws3 hfit3 hsm3 ?_
          simp only [if_true] at hK
          cases hswp : sweepP c.toCx held s3 with
          | bad => rw [hswp] at hK; exact hK
          | stop k s4 => rw [hswp] at hK; exact fun L' w' hm' h' => hK L' w' (hm'.trans hm2) h'
          | ok r s4 =>
            rw [hswp] at hK
            exact fun L' w' v' hm' st' h' hws' hf' _ => hJ v' w' ⟨L', s4, r, hm'.trans hm2, st3.trans st', h', hws', hf', (fun h => by cases h), hK⟩
        | false =>
          rw [if_neg (by simp)]
          exact hJ hv w3 ⟨L2, s3, held, hm2, st3, h3, hws3, hfit3, fun _ => hsm3, hK⟩
      · rintro v6 w6 ⟨L6, s6, held6, hm6, st6, h6, hws6, hf6, hsm6, hK6⟩
        have hb6 := hint h6
        have hnn := needL_inl (show needL s6.hp.lays shape n = .inl need from hlays h6)
        have hneedle : 0 ≤ need ∧ need ≤ 131074 := by
          obtain ⟨_, _, l, _, _, hk⟩ := hnn
          split at hk <;> omega
        refine JOIN_to2 (fun v w8 => ∃ L8 s8 held8, L8.m = L.m ∧ Step L L8 w w8 ∧ MS c L8 s8 w8 ∧ WS L8 w8 v held8 ∧ Fit s8 held8 ∧ need ≤ s8.hp.words.length - s8.hp.top ∧
          DOW c L w (Res.ok ((s8.hp.top : Int), held8) { s8 with hp := allocP s8.hp shape n need }) (fun p => p.2) (fun p s => ∃ y : Nat, p.1 = y ∧ isP s.hp y = true) (fun p v => .tuple #[vInt p.1, v]) K X) ?_ ?_
        · intro J hJ
          have hd := h6.drew
          rw [show L2.m = L6.m from hm2.trans hm6.symm, NC_ptr, FA_at]
          refine LD_hp hd ?_
          rw [NC_ptr, FA_at]
          refine LD_hp hd ?_
          refine c205 hd.hp ⟨fun _ _ h => h, c206 hd.hp ?_⟩
          rw [BIN_sub, wrap64 _ (by omega), BIN_gtr, CND_bool]
          have std : Step L6 L6 w6 w6.drew := Step.ext (Ext.refl w6).drew
          by_cases hbig : need > s6.hp.words.length - s6.hp.top
          · rw [if_pos hbig] at hK6
            rw [if_pos (by simpa using hbig)]
            refine JOIN_to2 (fun v w11 => ∃ L9 s9 held9, L9.m = L.m ∧ Step L L9 w w11 ∧ MS c L9 s9 w11 ∧ WS L9 w11 v held9 ∧ Fit s9 held9 ∧
              DOW c L w ((if need > s9.hp.words.length - s9.hp.top then Res.stop 4 s9 else .ok held9 s9).bind fun held s => .ok ((s.hp.top : Int), held) { s with hp := allocP s.hp shape n need }) (fun p => p.2) (fun p s => ∃ y : Nat, p.1 = y ∧ isP s.hp y = true) (fun p v => .tuple #[vInt p.1, v]) K X) ?_ ?_
            · intro J3 hJ3
              rw [UN_not, CND_bool]
              cases swept with
              | true =>
                rw [if_neg (by simp)]
                exact hJ3 _ _ ⟨L6, s6, held6, hm6, st6.trans std, hd, hws6.step std, hf6, hK6⟩
              | false =>
                rw [if_pos (by simp)]
                refine sw L6 s6 w6.drew held6 v6 _ _ hd (hws6.step std) hf6 (hsm6 rfl) ?_
                simp only [Bool.false_eq_true, if_false] at hK6
                cases hswp : sweepP c.toCx held6 s6 with
                | bad => rw [hswp] at hK6; exact hK6
                | stop k s4 => rw [hswp] at hK6; exact fun L' w' hm' h' => hK6 L' w' (hm'.trans hm6) h'
                | ok r s4 =>
                  rw [hswp] at hK6
                  exact fun L' w' v' hm' st' h' hws' hf' _ => hJ3 v' w' ⟨L', s4, r, hm'.trans hm6, (st6.trans std).trans st', h', hws', hf', hK6⟩
            · rintro v9 w9 ⟨L9, s9, held9, hm9, st9, h9, hws9, hf9, hK9⟩
              have hd9 := h9.drew
              have hb9 := hint h9
              have std9 : Step L9 L9 w9 w9.drew := Step.ext (Ext.refl w9).drew
              rw [show L6.m = L9.m from hm6.trans hm9.symm, NC_ptr, FA_at]
              refine LD_hp hd9 ?_
              rw [NC_ptr, FA_at]
              refine LD_hp hd9 ?_
              refine c205 hd9.hp ⟨fun _ _ h => h, c206 hd9.hp ?_⟩
              rw [BIN_sub, wrap64 _ (by omega), BIN_gtr, CND_bool]
              by_cases hbig9 : need > s9.hp.words.length - s9.hp.top
              · rw [if_pos hbig9] at hK9
                rw [if_pos (by simpa using hbig9)]
                exact c60 _ _ (hK9 L9 _ hm9 hd9)
              · rw [if_neg hbig9] at hK9
                rw [if_neg (by simpa using hbig9)]
                exact hJ _ _ ⟨L9, s9, held9, hm9, st9.trans std9, hd9, hws9.step std9, hf9, by omega, hK9⟩
          · rw [if_neg hbig] at hK6
            rw [if_neg (by simpa using hbig)]
            exact hJ _ _ ⟨L6, s6, held6, hm6, st6.trans std, hd, hws6.step std, hf6, by omega, hK6⟩
        · rintro v8 w8 ⟨L8, s8, held8, hm8, st8, h8, hws8, hf8, hr8, hK8⟩
          have := tail L8 s8 w8 held8 v8 hm8 st8 h8 hws8 hf8 (hlays h8) hr8 hK8
          rw [hm8] at this
          rw [hm2]
          exact this
end
end Go.Proofs.YtgnfodphfgmdlaaGreat
/- The contract of text. -/
namespace Go.GX
open Go

theorem setByteP_same {h : Hp} (x i : Int) (b : Nat) : (setByteP h x i b).objs = h.objs ∧ (setByteP h x i b).top = h.top ∧ (setByteP h x i b).lays = h.lays := by
  unfold setByteP; split <;> exact ⟨rfl, rfl, rfl⟩

theorem bytesOf_lt (s : ByteArray) : ∀ x ∈ bytesOf s, x < 256 := by
  intro x hx
  obtain ⟨b, _, rfl⟩ := List.mem_map.1 hx
  exact b.toNat_lt
theorem bytesOf_length (s : ByteArray) : (bytesOf s).length = s.size := by
  unfold bytesOf; rw [List.length_map, Array.length_toList]; rfl

theorem bytesP_drop {h : Hp} (x : Int) (t : List Nat) (j : Nat) (hj : j < t.length) : bytesP h x (t.drop j) j = bytesP (setByteP h x j t[j]) x (t.drop (j + 1)) ((j + 1 : Nat) : Int) := by
  rw [← List.getElem_cons_drop hj]
  simp [bytesP]

/-- The bytes of a string in a new block. -/
theorem RUN_bytes {P : Program} {src dst e : TypeId} (hs : P.underlying src = some .string) (hd : P.underlying dst = some (.slice e)) (he : P.underlying e = some (.int .u8)) {w : World} (s : ByteArray) {K : Value → World → Prop}
    (hK : ∀ w' c, Ext w w' → (∀ (i : Nat) x, (bytesOf s)[i]? = some x → w'.cell? ⟨w.heap.size, i, none⟩ = some (vB x)) → w.heap.size < w'.heap.size → K (.slice (some ⟨w.heap.size, 0, none⟩) s.size c) w') : RUN P (convert src dst (.string s)) w K := by
  unfold RUN
  rw [Go.Lib.run_convert_string_bytes w src dst e s hs hd he]
  refine ⟨⟨by unfold Go.Lib.bytesWorld World.freeze; rfl, by unfold Go.Lib.bytesWorld World.freeze; rfl⟩, ?_⟩
  refine hK _ _ ⟨by rw [Go.Lib.bytesWorld_size]; omega, fun i hi => Go.Lib.bytesWorld_at_old w e s i hi⟩ (fun i x hx => ?_) (by rw [Go.Lib.bytesWorld_size]; omega)
  have hlt : i < s.size := by rw [← bytesOf_length]; exact (List.getElem?_eq_some_iff.1 hx).1
  rw [Go.Lib.bytesWorld_cell w e s i hlt]
  have hx' : (s.data.toList[i]?).map (·.toNat) = some x := by rw [← List.getElem?_map]; exact hx
  cases hg : s.data.toList[i]? with
  | none => rw [hg] at hx'; cases hx'
  | some b =>
    rw [hg] at hx'
    simp only [Option.map_some, Option.some.injEq] at hx'
    rw [← hx', List.getD, hg]; rfl
end Go.GX
namespace Go.Proofs.YtgnfodphfgmdlaaGreat
open Go Go.GX
section
variable {c : Ctx} {L : Lay} {s : Vm} {w : World} {K : Value → World → Prop} {X : List PanicEntry → World → Prop}

theorem fits_ptr {h : Hp} (ok : HpOk h) {y : Nat} (hy : isP h (y : Int) = true) : W64 (2 * y) ∧ fitsP h (2 * y) = true := by
  obtain ⟨z, he, hlt, _⟩ := isP_nat hy
  have htop := ok.top; have hlen := ok.len
  refine ⟨by unfold W64; omega, ?_⟩
  unfold fitsP
  have : 2 * y / 2 = y := by omega
  rw [this, hy]; simp

set_option maxRecDepth 20000 in
/-- text -/
theorem c102 (sw : SweepOk c) (h : MS c L s w) {a : Addr} (ha : a.spot = none) {x : InstrS} (hi : InstrAt c.w0 a x) (hlive : x.live.length ≤ 1048576) (str : ByteArray) (hstr : str.size ≤ 65536) (hmade : s.made < s.steps)
    (hK : DO c L w (textM c.toCx x (bytesOf str) s) vUnit K X) : CAL Tryz.prog 102 #[vPtr L.m, .pointer (some a), .string str] w K X := n102 <| by
  obtain ⟨ab, ao, asp⟩ := a
  have : asp = none := ha
  subst this
  unfold N102
  rw [LEN_str, NC_ptr, FA_at]
  refine LD_sl0 h.ext hi.live fun lv hlv => ?_
  refine c163 sw h 0 str.size hlv hlive (held := []) ⟨by simp, .inl ⟨rfl, rfl⟩⟩ (fun x hx => by cases hx) hmade ?_
  unfold textM at hK
  rw [bytesOf_length] at hK
  cases hmk : makeP c.toCx 0 (str.size : Int) x.live [] s with
  | bad => rw [hmk] at hK; exact hK
  | stop k s1 => rw [hmk] at hK; exact hK
  | ok p s1 =>
    rw [hmk] at hK
    simp only [Res.bind_ok] at hK
    intro L1 w1 v1 hm1 st1 h1 _ _ hq
    obtain ⟨y, hy, his⟩ := hq
    rw [EX_0, EX_1]
    refine RUN_bytes (by kernel_rfl) (by kernel_rfl) (by kernel_rfl : Tryz.prog.underlying 5 = some (.int .u8)) str fun w2 cap e2 hc2 hz2 => ?_
    have h2 := h1.grow e2
    have hblt := bytesOf_lt str
    rw [LEN_slice]
    have hbl := bytesOf_length str
    refine ⟨fun t24 w3 => ∃ (j : Nat) (hj : Hp), t24 = vInt j ∧ j ≤ str.size ∧ MS c L1 { s1 with hp := hj } w3 ∧ Only L1.hpB w2 w3 ∧ bytesP hj y ((bytesOf str).drop j) j = bytesP s1.hp y (bytesOf str) 0 ∧ hj.objs = s1.hp.objs ∧ hj.top = s1.hp.top,
      fun t24 _ => str.size - (match t24 with | .int _ i => i.toNat | _ => 0), ⟨0, s1.hp, rfl, by omega, h2, Only.ext (Ext.refl _), rfl, rfl, rfl⟩, ?_⟩
    rintro t24 w3 ⟨j, hj, rfl, hjl, h3, o3, hbp, ho, ht⟩
    rw [BIN_lss, CND_bool]
    rw [← hm1]
    by_cases hjn : j < str.size
    · rw [if_pos (by simpa using hjn), IA_slice]
      refine ⟨by omega, ?_⟩
      rw [add_lit, Int.toNat_natCast, Nat.mul_one, Nat.zero_add]
      have hjb : j < (bytesOf str).length := by omega
      have hnb : w1.heap.size ∉ L1.hpB := fun hm => by have := h1.lt _ (hpB_all L1 _ hm); omega
      have hcell : w3.cell? ⟨w1.heap.size, j, none⟩ = some (vB (bytesOf str)[j]) := by
        rw [cell_same (w := w2) (o3.same _ hz2 hnb)]
        exact hc2 j _ (List.getElem?_eq_getElem hjb)
      rw [LD_some hcell, NC_ptr, FA_at]
      refine LD_hp h3 ?_
      have hb := hblt _ (List.getElem_mem hjb)
      rw [hy]
      refine c164 h3.hp h3.inv.heap h3.hpOk y j _ hb fun e w4 hp4 o4 => ?_
      have hok := setByteP_ok h3.inv.heap y j hb
      have hsm := setByteP_same (h := hj) y j (bytesOf str)[j]
      have o4' : Only L1.hpB w3 w4 := ⟨o4.size, fun b hb hn => o4.same b hb (fun hm => hn (by simp at hm; subst hm; simp [Lay.hpB]))⟩
      have h4 := h3.heap hp4 hok.1 hsm.2.2 (fun v hv => by rw [fitsP_same hsm.1 hsm.2.1]; exact hv) o4'
      rw [BIN_add, wrap64 _ (by omega)]
      refine ⟨⟨j + 1, setByteP hj y j (bytesOf str)[j], by simp, hjn, h4, o3.trans o4', ?_, hsm.1.trans ho, hsm.2.1.trans ht⟩, by simp; omega⟩
      rw [← hbp, bytesP_drop _ _ _ hjb]
    · rw [if_neg (by simpa using hjn)]
      have hjj : j = str.size := by omega
      have hdrop : (bytesOf str).drop j = [] := List.drop_eq_nil_of_le (by omega)
      rw [hdrop] at hbp
      have hbp : hj = bytesP s1.hp y (bytesOf str) 0 := hbp
      have h3d := h3.drew
      rw [NC_ptr, FA_at]
      refine LD_int (hi.d.ext h3d.ext) ?_
      rw [hy]
      have hisj : isP hj (y : Int) = true := by rw [isP_same ho ht]; exact his
      have hylt : y < 65537 := by
        obtain ⟨z, he, hlt, _⟩ := isP_nat hisj
        have := h3.inv.heap.top; have := h3.inv.heap.len
        have : hj.top ≤ hj.words.length := h3.inv.heap.top
        have : hj.words.length ≤ 65536 := h3.inv.heap.len
        omega
      refine c165 y (by omega) ⟨fun _ _ h => h, ?_⟩
      refine c96 h3d x.d (2 * y) (fits_ptr h3.inv.heap hisj) ?_
      rw [hy, Int.toNat_natCast, ← hbp] at hK
      exact (hK.on hm1 ((st1.trans (Step.ext e2)).trans ((o3.step (hpB_all L1)).trans (Step.ext (Ext.refl w3).drew))))
end
end Go.Proofs.YtgnfodphfgmdlaaGreat
/- The contract of bytes. -/
namespace Go.GX
open Go

theorem cmpP_eq : ∀ (a b : List Nat), (∀ x ∈ a, x < 256) → (∀ x ∈ b, x < 256) → Go.Lib.compareBytes (a.map UInt8.ofNat) (b.map UInt8.ofNat) = cmpP a b
  | [], [], _, _ => rfl
  | [], _ :: _, _, _ => rfl
  | _ :: _, [], _, _ => rfl
  | a :: l, b :: m, ha, hb => by
    have h1 := ha a (by simp); have h2 := hb b (by simp)
    have ih := cmpP_eq l m (fun x hx => ha x (by simp [hx])) (fun x hx => hb x (by simp [hx]))
    simp only [List.map_cons, Go.Lib.compareBytes, cmpP, ih]
    have e1 : (UInt8.ofNat a < UInt8.ofNat b) ↔ a < b := by
      rw [UInt8.lt_iff_toNat_lt, UInt8.toNat_ofNat', UInt8.toNat_ofNat']; omega
    have e2 : (UInt8.ofNat b < UInt8.ofNat a) ↔ b < a := by
      rw [UInt8.lt_iff_toNat_lt, UInt8.toNat_ofNat', UInt8.toNat_ofNat']; omega
    simp only [e1, e2]

theorem strOf_append (a b : List Nat) : strOf a ++ strOf b = strOf (a ++ b) := by
  apply ByteArray.ext
  simp [strOf]
theorem bytesOf_strOf (a : List Nat) (ha : ∀ x ∈ a, x < 256) : bytesOf (strOf a) = a := by
  unfold bytesOf strOf
  simp only [List.map_map]
  conv => rhs; rw [← List.map_id a]
  refine List.map_congr_left fun x hx => ?_
  have := ha x hx
  show (UInt8.ofNat x).toNat = x
  rw [UInt8.toNat_ofNat']; omega
theorem strOf_size (a : List Nat) : (strOf a).size = a.length := by
  show (a.map UInt8.ofNat).toArray.size = _
  simp

theorem textP_lt (h : Hp) (x : Int) : ∀ z ∈ textP h x, z < 256 := by
  intro z hz
  unfold textP at hz
  split at hz
  · obtain ⟨i, _, rfl⟩ := List.mem_map.1 hz; exact bOf_lt _ _
  · cases hz
theorem textP_len {h : Hp} (ok : HpOk h) (x : Int) : (textP h x).length ≤ 65536 := by
  unfold textP
  split
  · rename_i hc
    rw [Bool.and_eq_true] at hc
    obtain ⟨y, sh, n, k, rfl, ob⟩ := ok.is hc.1
    rw [ob.len]; simpa using ob.nle
  · simp

theorem objectP_state {i k o : Int} {p : Int × Int} {s s' : Vm} (h : objectP i k o s = .ok p s') : s' = s := by
  unfold objectP at h
  cases hg : getP i s with
  | bad => rw [hg] at h; cases h
  | stop => rw [hg] at h; cases h
  | ok x s1 =>
    have := getP_state hg
    subst this
    rw [hg] at h
    simp only [Res.bind_ok] at h
    split at h
    · cases h
    · split at h
      · cases h; rfl
      · cases h
theorem objectP_stop {i k o n : Int} {s s' : Vm} (h : objectP i k o s = .stop n s') : n = 6 ∧ s' = s := by
  unfold objectP at h
  cases hg : getP i s with
  | bad => rw [hg] at h; cases h
  | stop =>
    have := getP_stop hg
    rw [hg] at h; cases h; exact this
  | ok x s1 =>
    have := getP_state hg
    subst this
    rw [hg] at h
    simp only [Res.bind_ok] at h
    split at h
    · cases h; exact ⟨rfl, rfl⟩
    · split at h
      · cases h
      · cases h; exact ⟨rfl, rfl⟩
end Go.GX
namespace Go.Proofs.YtgnfodphfgmdlaaGreat
open Go Go.GX
section
variable {c : Ctx} {L : Lay} {s : Vm} {w : World} {K : Value → World → Prop} {X : List PanicEntry → World → Prop}

set_option maxRecDepth 100000 in
/-- Compare -/
theorem c170 (a b : List Nat) (ha : ∀ x ∈ a, x < 256) (hb : ∀ x ∈ b, x < 256) (hK : K (vInt (cmpP a b)) w) : CAL Tryz.prog 170 #[.string (strOf a), .string (strOf b)] w K X := n170 <| by
  unfold N170
  refine n211 ?_
  unfold N211 XCAL
  have hs : (Tryz.prog.funcs[223]?).isSome = true := by kernel_rfl
  obtain ⟨fn, hf⟩ := Option.isSome_iff_exists.1 hs
  have q1 : (Tryz.prog.funcs[223]?).map (fun fn => (fn.name == "runtime.NumGoroutine")) = some false := by kernel_rfl
  have q2 : (Tryz.prog.funcs[223]?).map (fun fn => fn.body.isNone) = some true := by kernel_rfl
  have q3 : (Tryz.prog.funcs[223]?).map (fun fn => (Extern.findNext fn).isNone) = some true := by kernel_rfl
  have q4 : (Tryz.prog.funcs[223]?).map (fun fn => Extern.find fn) = some (some Extern.BytealgCompare.compare) := by kernel_rfl
  rw [hf] at q1 q2 q3 q4
  simp only [Option.map_some, Option.some.injEq] at q1 q2 q3 q4
  rw [run_callFunc_extern hf q1 q2 (by simpa using q3) q4, Lib.run_compareString]
  have : Lib.compareBytes (strOf a).data.toList (strOf b).data.toList = cmpP a b := cmpP_eq a b ha hb
  simp only [Result.andThen]
  rw [this]; exact ⟨Io.refl _, hK⟩

/-- object, for a walk: what it is, and that nothing has changed. -/
theorem c166' (h : MS c L s w) (i kind other : Int) {β : Type} {g : Int × Int → Vm → Res β} {V : β → Value} {K' : Value → World → Prop} (hD : DO c L w ((objectP i kind other s).bind g) V K' X)
    (hK : ∀ p, objectP i kind other s = .ok p s → (∃ y : Nat, p.1 = y ∧ fitsP s.hp (2 * y) = true) → DO c L w (g p s) V K' X → ∀ w', MS c L s w' → Ext w w' → K (.tuple #[vInt p.1, vInt p.2]) w') :
    CAL Tryz.prog 166 #[vPtr L.m, vInt i, vInt kind, vInt other] w K X := by
  refine c166 h i kind other (fun p hp hq => hK p hp hq ?_) (fun hp w' h' _ => ?_) (fun hb => ?_)
  · rw [hp] at hD; exact hD
  · rw [hp] at hD; exact hD L w' rfl h'
  · rw [hb] at hD; exact hD

theorem c91' (h : MS c L s w) (i : Int) {β : Type} {g : Int → Vm → Res β} {V : β → Value} {K' : Value → World → Prop} (hD : DO c L w ((numP i s).bind g) V K' X)
    (hK : ∀ n, numP i s = .ok n s → I63 n → DO c L w (g n s) V K' X → ∀ w', MS c L s w' → Ext w w' → K (vInt n) w') : CAL Tryz.prog 91 #[vPtr L.m, vInt i] w K X := by
  refine c91 h i (fun p hp hq => hK p hp hq ?_) (fun hp w' h' _ => ?_) (fun hb => ?_)
  · rw [hp] at hD; exact hD
  · rw [hp] at hD; exact hD L w' rfl h'
  · rw [hb] at hD; exact hD

set_option maxRecDepth 20000 in
/-- bytes -/
theorem c103 (sw : SweepOk c) (h : MS c L s w) {a : Addr} (ha : a.spot = none) {x : InstrS} (hi : InstrAt c.w0 a x) (hlive : x.live.length ≤ 1048576) (hmade : s.made < s.steps)
    (hK : DO c L w (bytesM c.toCx x s) vUnit K X) : CAL Tryz.prog 103 #[vPtr L.m, .pointer (some a)] w K X := n103 <| by
  obtain ⟨ab, ao, asp⟩ := a
  have : asp = none := ha
  subst this
  unfold N103
  have ld : ∀ {w'}, MS c L s w' → InstrAt w' ⟨ab, ao, none⟩ x := fun h' => hi.ext h'.ext
  rw [NC_ptr, FA_at]
  refine LD_int (ld h).op ?_
  rw [BIN_eql, CND_bool]
  unfold bytesM at hK
  by_cases g1 : x.op = 11
  · rw [if_pos g1] at hK
    rw [if_pos (by simpa using g1), NC_ptr, FA_at]
    refine LD_int (ld h).a' ?_
    refine c166' h x.a 2 3 hK fun p _ _ hD w1 h1 e1 => ?_
    rw [EX_0, EX_1, NC_ptr, FA_at]
    refine LD_int (ld h1).d ?_
    exact c99 h1 x.d p.2 (hD.on rfl (Step.ext e1))
  · rw [if_neg g1] at hK
    rw [if_neg (by simpa using g1), NC_ptr, FA_at]
    refine LD_int (ld h).a' ?_
    refine c166' h x.a 3 3 hK fun p _ _ hD w1 h1 e1 => ?_
    rw [EX_0, EX_1, NC_ptr, FA_at]
    refine LD_int (ld h1).op ?_
    rw [BIN_eql, CND_bool]
    by_cases g2 : x.op = 12
    · rw [if_pos g2] at hD
      have h1d := h1.drew
      have e1d : Ext w w1.drew := e1.drew
      rw [if_pos (by simpa using g2), NC_ptr, FA_at]
      refine LD_hp h1d ?_
      rw [NC_ptr, FA_at]
      refine LD_int (ld h1d).b ?_
      refine c91' h1d x.b (hD.on rfl (Step.ext e1d)) fun n _ _ hD w2 h2 e2 => ⟨e2.keeps, ?_⟩
      refine c168 n ⟨fun _ _ h => h, ?_⟩
      refine c167 h2.hp h2.inv.heap p.1 (indexP n) ?_
      have h2d := h2.drew
      cases hb : byteP s.hp p.1 (indexP n) with
      | none =>
        simp only [hb] at hD
        show EX _ 0 _
        rw [EX_0, EX_1, BIN_neq, CND_bool, if_pos (by simp)]
        refine c89 2 ?_
        exact c98 h2d (wImm 2) (wImm_ok 2 _) (hD.on rfl (Step.ext e2.drew))
      | some v =>
        simp only [hb] at hD
        have hv : v < 256 := by
          unfold byteP at hb
          split at hb
          · cases hb; exact bOf_lt _ _
          · cases hb
        show EX _ 0 _
        rw [EX_0, EX_1, BIN_neq, CND_bool, if_neg (by simp), NC_ptr, FA_at]
        refine LD_int (ld h2d).d ?_
        rw [CNV_int, wrap64 _ (by omega)]
        exact c99 h2d x.d v (hD.on rfl (Step.ext e2.drew))
    · rw [if_neg g2] at hD
      rw [if_neg (by simpa using g2), NC_ptr, FA_at]
      refine LD_int (ld h1).b ?_
      refine c166' h1 x.b 3 3 (hD.on rfl (Step.ext e1)) fun q _ _ hD w2 h2 e2 => ?_
      have e12 := e1.trans e2
      rw [EX_0, EX_1, NC_ptr, FA_at]
      refine LD_hp h2 ?_
      refine c169 h2.hp h2.inv.heap p.1 fun _ w3 e3 => ?_
      have h3 := h2.grow e3
      rw [EX_0, EX_1, NC_ptr, FA_at]
      refine LD_hp h3 ?_
      refine c169 h3.hp h3.inv.heap q.1 fun _ w4 e4 => ?_
      have h4 := h3.grow e4
      have e24 := e2.trans (e3.trans e4)
      have l1 := textP_len h4.inv.heap p.1
      have l2 := textP_len h4.inv.heap q.1
      have b1 := textP_lt s.hp p.1
      have b2 := textP_lt s.hp q.1
      rw [EX_0, EX_1, NC_ptr, FA_at]
      refine LD_int (ld h4).op ?_
      rw [BIN_eql, CND_bool]
      by_cases g3 : x.op = 14
      · rw [if_pos g3] at hD
        have h4d := h4.drew
        rw [if_pos (by simpa using g3), NC_ptr, FA_at]
        refine LD_int (ld h4d).d ?_
        refine c170 _ _ b1 b2 ⟨fun _ _ h => h, ?_⟩
        exact c99 h4d x.d _ (hD.on rfl (Step.ext e24.drew))
      · rw [if_neg g3] at hD
        rw [if_neg (by simpa using g3), NC_ptr, FA_at]
        refine LD_hp h4 ?_
        refine c101 h4.hp 0 ?_
        rw [BIN_eql]
        by_cases g4 : kindP s.hp 0 = 3
        · rw [if_pos g4] at hD
          refine c56 _ _ (fun _ => ?_) (fun hf => by simp at hf; exact absurd g4 hf)
          rw [LEN_str, LEN_str, strOf_size, strOf_size, BIN_add, wrap64 _ (by omega), BIN_gtr, CND_bool]
          by_cases g5 : (textP s.hp p.1).length + (textP s.hp q.1).length > 65536
          · rw [if_pos g5] at hD
            rw [if_pos (by simp; omega)]
            refine c89 3 ?_
            exact c98 h4 (wImm 3) (wImm_ok 3 _) (hD.on rfl (Step.ext e24))
          · rw [if_neg g5] at hD
            rw [if_neg (by simp; omega)]
            show BIN .str .add (.string _) (.string _) _
            have hadd : ∀ (u v : ByteArray) (K : Value → Prop), u.size + v.size ≤ 131072 → K (.string (u ++ v)) → BIN .str .add (.string u) (.string v) K := fun u v K hsz hK => by
              have hm : IntKind.i64.max = 9223372036854775807 := rfl
              simp only [BIN, binV, strV]
              rw [if_neg (by rw [hm]; omega)]
              exact hK
            refine hadd _ _ _ (by rw [strOf_size, strOf_size]; omega) ?_
            rw [strOf_append]
            have hbt := bytesOf_strOf (textP s.hp p.1 ++ textP s.hp q.1) (fun z hz => (List.mem_append.1 hz).elim (b1 z) (b2 z))
            refine c102 sw h4 rfl hi hlive _ (by rw [strOf_size, List.length_append]; omega) hmade ?_
            rw [hbt]
            exact hD.on rfl (Step.ext e24)
        · rw [if_neg g4] at hD
          exact c56 _ _ (fun ht => by simp at ht; exact absurd ht g4) (fun _ => hD L w4 rfl h4)
end
end Go.Proofs.YtgnfodphfgmdlaaGreat
/- The contracts of choose and last. -/
namespace Go.GX
open Go

theorem JOIN_to3 {b : (Value → Value → World → Prop) → Prop} {r : Value → Value → World → Prop} (P : Value → Value → World → Prop) (hb : ∀ r' : Value → Value → World → Prop, (∀ u v w, P u v w → r' u v w) → b r') (hr : ∀ u v w, P u v w → r u v w) : JOIN b r := hb r hr

theorem pickP_short (key : Int) (l : List Int) (h : l.length ≤ 1) : pickP key l = none := by
  match l, h with
  | [], _ => rfl
  | [_], _ => rfl
  | _ :: _ :: _, h => simp at h

end Go.GX
namespace Go.Proofs.YtgnfodphfgmdlaaGreat
open Go Go.GX
section
variable {c : Ctx} {L : Lay} {s : Vm} {w : World} {K : Value → World → Prop} {X : List PanicEntry → World → Prop}

theorem getD_on {i : Int} {β : Type} {g : Nat → Vm → Res β} {V : β → Value} {K' : Value → World → Prop} (h : MS c L s w) (hD : DO c L w ((getP i s).bind g) V K' X)
    (hK : ∀ x, getP i s = .ok x s → W64 x ∧ fitsP s.hp x = true → DO c L w (g x s) V K' X → ∀ w', MS c L s w' → Ext w w' → ∀ b o, LD w' (.pointer (some ⟨b, o, none⟩)) = (fun K => K (vU x)) → K (.pointer (some ⟨b, o, none⟩)) w') :
    CAL Tryz.prog 95 #[vPtr L.m, vInt i] w K X := by
  refine c95w h i (fun x hx hw => hK x hx hw ?_) (fun hx w' h' _ => ?_) (fun hb => ?_)
  · rw [hx] at hD; exact hD
  · rw [hx] at hD; exact hD L w' rfl h'
  · rw [hb] at hD; exact hD

set_option maxRecDepth 20000 in
/-- choose -/
theorem c92 (h : MS c L s w) {a : Addr} (ha : a.spot = none) {x : InstrS} (hi : InstrAt c.w0 a x) (hsh : Short x) (hK : DO c L w (chooseP x s) vUnit K X) : CAL Tryz.prog 92 #[vPtr L.m, .pointer (some a)] w K X := n92 <| by
  obtain ⟨ab, ao, asp⟩ := a
  have : asp = none := ha
  subst this
  unfold N92
  have ld : ∀ {w'}, MS c L s w' → InstrAt w' ⟨ab, ao, none⟩ x := fun h' => hi.ext h'.ext
  rw [NC_ptr, FA_at]
  refine LD_int (ld h).a' ?_
  unfold chooseP at hK
  refine getD_on h hK fun v _ hv hD w1 h1 e1 b o hl => ?_
  rw [NC_ptr, hl]
  show NC _ _
  have h1d := h1.drew
  have e1d := e1.drew
  rw [NC_ptr, FA_at]
  refine LD_sl0 h1d.ext hi.l fun lv hlv => ?_
  refine c154 v hv.1 ⟨fun _ _ h => h, ?_⟩
  refine JOIN_to3 (fun lv' key w3 => ∃ (l : List Int) (k : Int), Sl 1 (IntAt c.w0) lv' l ∧ l.length ≤ 1048576 ∧ key = vInt k ∧ MS c L s w3 ∧ Ext w w3 ∧
    DO c L w (match pickP k l with | some b => jumpP b s | none => if v % 2 = 1 ∧ x.b ≠ -1 then jumpP x.b s else .stop 6 s) vUnit K X) ?_ ?_
  · intro J hJ
    refine c153 v hv.1 ?_
    rw [UN_not, CND_bool]
    by_cases hodd : v % 2 = 1
    · rw [if_pos hodd] at hD
      rw [if_neg (by simp [hodd])]
      refine hJ _ _ _ ⟨x.l, wInt v, hlv, hsh.l, rfl, h1d, e1d, ?_⟩
      cases hp : pickP (wInt v) x.l with
      | some b => rw [hp] at hD; exact hD
      | none =>
        rw [hp] at hD
        by_cases hb : x.b = -1
        · simpa [hb, hodd] using hD
        · simpa [hb, hodd] using hD
    · rw [if_neg hodd] at hD
      rw [if_pos (by simp [hodd]), NC_ptr, FA_at]
      refine LD_sl0 h1d.ext hi.m fun mv hmv => ?_
      have h2 := h1d.drew
      rw [NC_ptr, FA_at]
      refine LD_hp h2 ?_
      refine c156 v hv.1 ⟨fun _ _ h => h, ?_⟩
      refine c155 h2.hp h2.inv.heap _ ?_
      rw [EX_0, EX_1]
      refine hJ _ _ _ ⟨x.m, _, hmv, hsh.m, rfl, h2, e1d.drew, ?_⟩
      cases hp : pickP (shapeP s.hp (v / 2 : Nat)) x.m with
      | some b => rw [hp] at hD; exact hD
      | none =>
        rw [hp] at hD
        simpa [hodd] using hD
  · rintro lv' key w3 ⟨l, k, hlv', hll, rfl, h3, e3, hD3⟩
    refine ⟨fun t7 w7 => ∃ j : Nat, t7 = vInt (2 * j : Nat) ∧ 2 * j ≤ l.length + 1 ∧ pickP k (l.drop (2 * j)) = pickP k l ∧ MS c L s w7 ∧ Ext w w7,
      fun t7 _ => l.length + 2 - (match t7 with | .int _ i => i.toNat | _ => 0), ⟨0, rfl, by omega, rfl, h3, e3⟩, ?_⟩
    rintro t7 w7 ⟨j, rfl, hj, hp, h7, e7⟩
    rw [BIN_add, wrap64 _ (by omega)]
    refine LEN_sl hlv' ?_
    rw [BIN_lss, CND_bool]
    by_cases hjl : 2 * j + 1 < l.length
    · rw [if_pos (by simp; omega)]
      refine IA_sl hlv' (by omega) (x := l[2 * j]) (by rw [Int.toNat_natCast]; exact List.getElem?_eq_getElem (by omega)) fun b1 o1 hint => ?_
      refine LD_int (hint.ext h7.ext) ?_
      have hdrop : l.drop (2 * j) = l[2 * j] :: l[2 * j + 1] :: l.drop (2 * j + 2) := by
        rw [← List.getElem_cons_drop (by omega : 2 * j < l.length), ← List.getElem_cons_drop (by omega : 2 * j + 1 < l.length)]
      rw [hdrop] at hp
      rw [BIN_eql, CND_bool]
      by_cases hk : l[2 * j] = k
      · rw [if_pos (by simpa using hk), BIN_add, wrap64 _ (by omega)]
        simp only [pickP, hk, if_true] at hp
        rw [← hp] at hD3
        refine IA_sl hlv' (by omega) (x := l[2 * j + 1]) (by
          have : (((2 * j : Nat) : Int) + 1).toNat = 2 * j + 1 := by omega
          rw [this]; exact List.getElem?_eq_getElem (by omega)) fun b2 o2 hint2 => ?_
        refine LD_int (hint2.ext h7.ext) ?_
        exact c90 h7 _ hint2.2 (hD3.on rfl (Step.ext e7))
      · rw [if_neg (by simpa using hk), BIN_add, wrap64 _ (by omega)]
        simp only [pickP, hk, if_false] at hp
        exact ⟨⟨j + 1, by congr 1, by omega, hp, h7, e7⟩, by simp; omega⟩
    · rw [if_neg (by simp; omega)]
      have hnone : pickP k l = none := by rw [← hp]; exact pickP_short _ _ (by simp; omega)
      rw [hnone] at hD3
      refine c153 v hv.1 ?_
      refine GRP_and_to (u := !decide (x.b = -1)) (fun _ hk => ?_) ?_
      · rw [NC_ptr, FA_at]
        refine LD_int (ld h7).b ?_
        rw [BIN_neq]; exact hk
      by_cases hc : v % 2 = 1 ∧ x.b ≠ -1
      · rw [if_pos hc] at hD3
        refine c56 _ _ (fun _ => ?_) (fun hf => by simp [hc.1, hc.2] at hf)
        rw [NC_ptr, FA_at]
        refine LD_int (ld h7).b ?_
        exact c90 h7 _ hi.b.2 (hD3.on rfl (Step.ext e7))
      · rw [if_neg hc] at hD3
        exact c56 _ _ (fun ht => by simp at ht; exact absurd ht hc) (fun _ => hD3 L w7 rfl h7)
end
end Go.Proofs.YtgnfodphfgmdlaaGreat
/- The contract of last: the instructions that end a block. -/
namespace Go.GX
open Go
theorem popP_ok {s s' : Vm} {u : Unit} (h : popP s = .ok u s') : s'.hp = s.hp ∧ s'.made = s.made ∧ s'.steps = s.steps := by
  unfold popP at h
  split at h
  · cases h
  · cases h; exact ⟨rfl, rfl, rfl⟩
theorem readP_state : ∀ {l : List Int} {s s' : Vm} {xs : List Nat}, readP l s = .ok xs s' → s' = s
  | [], s, s', xs, h => by simp only [readP] at h; cases h; rfl
  | i :: l, s, s', xs, h => by
    simp only [readP] at h
    cases hg : getP i s with
    | bad => rw [hg] at h; cases h
    | stop => rw [hg] at h; cases h
    | ok x s1 =>
      have e1 := getP_state hg
      subst e1
      rw [hg] at h
      simp only [Res.bind_ok] at h
      cases hr : readP l s1 with
      | bad => rw [hr] at h; cases h
      | stop => rw [hr] at h; cases h
      | ok ys s2 =>
        have e2 := readP_state hr
        subst e2
        rw [hr] at h; cases h; rfl
theorem readP_stop : ∀ {l : List Int} {s s' : Vm} {k : Int}, readP l s = .stop k s' → k = 6 ∧ s' = s
  | [], s, s', k, h => by simp only [readP] at h; cases h
  | i :: l, s, s', k, h => by
    simp only [readP] at h
    cases hg : getP i s with
    | bad => rw [hg] at h; cases h
    | stop =>
      have := getP_stop hg
      rw [hg] at h; cases h; exact this
    | ok x s1 =>
      have e1 := getP_state hg
      subst e1
      rw [hg] at h
      simp only [Res.bind_ok] at h
      cases hr : readP l s1 with
      | bad => rw [hr] at h; cases h
      | stop =>
        have e2 := readP_stop hr
        rw [hr] at h; cases h; exact e2
      | ok ys s2 => rw [hr] at h; cases h
end Go.GX
namespace Go.Proofs.YtgnfodphfgmdlaaGreat
open Go Go.GX
section
variable {c : Ctx} {L : Lay} {s : Vm} {w : World} {K : Value → World → Prop} {X : List PanicEntry → World → Prop}

/-- read, for a walk -/
theorem c93' (h : MS c L s w) {l : List Int} {v : Value} (hv : Sl 1 (IntAt c.w0) v l) (hlen : l.length ≤ 1048576) {β : Type} {g : List Nat → Vm → Res β} {V : β → Value} {K' : Value → World → Prop} (hD : DO c L w ((readP l s).bind g) V K' X)
    (hK : ∀ xs o, readP l s = .ok xs s → Fit s xs → DO c L w (g xs s) V K' X → ∀ w', MS c L s w' → Ext w w' → GrAt w' o 166 (xs.map vU) → (∀ b ∈ (o.map (·.1)).toList, b ∉ L.all) → K (grown o xs.length) w') :
    CAL Tryz.prog 93 #[vPtr L.m, v] w K X := by
  refine c93 h hv hlen (fun hb => ?_) (fun xs o hr hx w' h' e' hg ho => ?_) (fun hr w' h' _ => ?_)
  · rw [hb] at hD; exact hD
  · refine hK xs o hr hx (by rw [hr] at hD; exact hD) w' h' e' hg (fun b hb hm => ?_)
    have := ho b hb; have := h.lt b hm; omega
  · rw [hr] at hD; exact hD L w' rfl h'

theorem readP_len : ∀ {l : List Int} {s s' : Vm} {xs : List Nat}, readP l s = .ok xs s' → xs.length = l.length
  | [], s, s', xs, h => by simp only [readP] at h; cases h; rfl
  | i :: l, s, s', xs, h => by
    simp only [readP] at h
    cases hg : getP i s with
    | bad => rw [hg] at h; cases h
    | stop => rw [hg] at h; cases h
    | ok x s1 =>
      rw [hg] at h
      simp only [Res.bind_ok] at h
      cases hr : readP l s1 with
      | bad => rw [hr] at h; cases h
      | stop => rw [hr] at h; cases h
      | ok ys s2 =>
        have := readP_len hr
        rw [hr] at h; cases h; simp [this]

theorem GrAt.step {L L' : Lay} {w w' : World} {o : Option (Nat × List Value)} {xs : List Value} (hg : GrAt w o 166 xs) (ho : ∀ b ∈ (o.map (·.1)).toList, b ∉ L.all) (st : Step L L' w w') : GrAt w' o 166 xs ∧ ∀ b ∈ (o.map (·.1)).toList, b ∉ L'.all :=
  ⟨hg.same fun b hb => (st.same b (hg.lt b hb) (ho b hb)).1, fun b hb => (st.same b (hg.lt b hb) (ho b hb)).2⟩

/-- pop, for a walk -/
theorem c94' (h : MS c L s w) {β : Type} {g : Unit → Vm → Res β} {V : β → Value} {K' : Value → World → Prop} (hD : DO c L w ((popP s).bind g) V K' X)
    (hK : ∀ s', popP s = .ok () s' → ∀ L' w', L'.m = L.m → Step L L' w w' → MS c L' s' w' → DO c L' w' (g () s') V K' X → K (.tuple #[]) w') : CAL Tryz.prog 94 #[vPtr L.m] w K X := by
  refine c94 h ?_
  cases hp : popP s with
  | bad => rw [hp] at hD; exact hD
  | stop k s' => rw [hp] at hD; exact fun L' w' hm h' => hD L' w' hm h'
  | ok u s' =>
    rw [hp] at hD
    exact fun L' w' hm st h' => hK s' hp L' w' hm st h' (DO.on hD hm st)

set_option maxRecDepth 20000 in
/-- last -/
theorem c61 (h : MS c L s w) {a : Addr} (ha : a.spot = none) {x : InstrS} (hi : InstrAt c.w0 a x) (hsh : Short x) (hK : DO c L w (lastP c.toCx x s) vUnit K X) : CAL Tryz.prog 61 #[vPtr L.m, .pointer (some a)] w K X := n61 <| by
  obtain ⟨ab, ao, asp⟩ := a
  have : asp = none := ha
  subst this
  unfold N61
  have ld : ∀ {L' s' w'}, MS c L' s' w' → InstrAt w' ⟨ab, ao, none⟩ x := fun h' => hi.ext h'.ext
  rw [NC_ptr, FA_at]
  refine LD_int (ld h).op ?_
  unfold lastP at hK
  rw [JOIN_eq, BIN_eql, CND_bool]
  by_cases g1 : x.op = 18
  · rw [if_pos g1] at hK
    rw [if_pos (by simpa using g1), NC_ptr, FA_at]
    refine LD_int (ld h).a' ?_
    exact c90 h _ hi.a'.2 hK
  rw [if_neg g1] at hK
  rw [if_neg (by simpa using g1), BIN_eql, CND_bool]
  by_cases g2 : x.op = 19
  · rw [if_pos g2] at hK
    rw [if_pos (by simpa using g2), NC_ptr, FA_at]
    refine LD_int (ld h).a' ?_
    refine c91' h x.a hK fun n _ _ hD w1 h1 e1 => ?_
    rw [BIN_neq, CND_bool]
    by_cases hn : n = 0
    · rw [if_neg (by simpa using hn)] at hD
      rw [if_neg (by simp [hn]), NC_ptr, FA_at]
      refine LD_int (ld h1).c ?_
      exact c90 h1 _ hi.c.2 (hD.on rfl (Step.ext e1))
    · rw [if_pos hn] at hD
      rw [if_pos (by simpa using hn), NC_ptr, FA_at]
      refine LD_int (ld h1).b ?_
      exact c90 h1 _ hi.b.2 (hD.on rfl (Step.ext e1))
  rw [if_neg g2] at hK
  rw [if_neg (by simpa using g2), BIN_eql, CND_bool]
  by_cases g3 : x.op = 20
  · rw [if_pos g3] at hK
    rw [if_pos (by simpa using g3)]
    exact c92 h rfl hi hsh hK
  rw [if_neg g3] at hK
  rw [if_neg (by simpa using g3), BIN_eql, CND_bool]
  by_cases g4 : x.op = 21
  · rw [if_pos g4] at hK
    rw [if_pos (by simpa using g4), NC_ptr, FA_at]
    refine LD_sl0 h.ext hi.l fun lv hlv => ?_
    refine c93' h hlv hsh.l hK fun xs o hr hx hD w1 h1 e1 hg ho => ?_
    refine c94' h1 (hD.on rfl (Step.ext e1)) fun s2 hp L2 w2 hm2 st2 h2 hD2 => ?_
    rw [NC_ptr, FA_at]
    refine LD_int (ld h2).a' ?_
    have hg2 := GrAt.step hg ho st2
    rw [← hm2]
    refine c58 h2 x.a hg2.1 hg2.2 (fun y hy => ?_) (by have := readP_len hr; have := hsh.l; omega) hD2
    rw [(popP_ok hp).1]; exact hx y hy
  rw [if_neg g4] at hK
  rw [if_neg (by simpa using g4), BIN_eql, CND_bool]
  by_cases g5 : x.op = 22
  · rw [if_pos g5] at hK
    rw [if_pos (by simpa using g5), NC_ptr, FA_at]
    refine LD_int (ld h).a' ?_
    refine getD_on h hK fun v hv hvv hD w1 h1 e1 b o hl => ?_
    rw [NC_ptr, hl]
    refine c94' h1 (hD.on rfl (Step.ext e1)) fun s2 hp L2 w2 hm2 st2 h2 hD2 => ?_
    rw [JOIN_eq, ← hm2, NC_ptr, FA_at]
    refine LD_m h2 (o := 7) rfl ?_
    refine LEN_frs h2 ?_
    rw [BIN_eql, CND_bool]
    cases hf : s2.frs with
    | nil =>
      rw [hf] at hD2
      rw [if_pos (by simp)]
      exact c60 _ _ (hD2 L2 w2 rfl h2)
    | cons f fs =>
      simp only [hf] at hD2
      rw [if_neg (by simp; omega)]
      obtain ⟨p, ps, fa, t⟩ := h2.top hf
      cases hpe : pendingP f with
      | none => rw [hpe] at hD2; exact absurd hD2 id
      | some i =>
        simp only [hpe] at hD2
        refine c59 t fun w3 h3 e3 => ?_
        refine c97 (t.same h3 e3) hpe fun b o hin w4 h4 e4 => ?_
        rw [NC_ptr, FA_at]
        refine LD_int (hin.d.ext h4.ext) ?_
        refine c96 h4 i.d v ⟨hvv.1, ?_⟩ (hD2.on rfl (Step.ext (e3.trans e4)))
        rw [(popP_ok hp).1]; exact hvv.2
  rw [if_neg g5] at hK
  rw [if_neg (by simpa using g5), BIN_eql, CND_bool]
  by_cases g6 : x.op = 23
  · rw [if_pos g6] at hK
    rw [if_pos (by simpa using g6), NC_ptr, FA_at]
    refine LD_int (ld h).a' ?_
    refine getD_on h hK fun v hv hvv hD w1 h1 e1 b o hl => ?_
    rw [NC_ptr, hl]
    exact c98 h1 v hvv (hD.on rfl (Step.ext e1))
  rw [if_neg g6] at hK
  rw [if_neg (by simpa using g6)]
  exact c60 _ _ (hK L w rfl h)
end
end Go.Proofs.YtgnfodphfgmdlaaGreat
