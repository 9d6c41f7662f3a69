/- VmDeep answers true at every input and leaves its arguments as they were; no condition: text 3 of 12. -/
import Derived.Test.YtgnfodphfgmdlaaGreatDeep02
set_option linter.all false
/- The plain forms of functions of the program, printed by a program of this session (gen.py) and checked by the kernel against the loaded code. -/
namespace Go.Proofs.YtgnfodphfgmdlaaGreat
open Go Go.GX
set_option maxRecDepth 100000

/-- bellows/word.Wrap -/
def N20 (t0 : Value) (w : World) (K : Value → World → Prop) (_X : List PanicEntry → World → Prop) : Prop :=
  BIN .int .shl t0 (.int .u64 1) fun t4 =>
  BIN .int .shr t4 (.int .u64 1) fun t5 =>
  K t5 w
def plan20 : Plan := .seq (.reg (.op 0 false .nil)) (.seq (.reg (.sq 0 4 .nil)) (.leaf))
theorem chk20 : chkC Tryz.prog (codeOf Tryz.f20) plan20 = true := by kernel_rfl
theorem n20 {t0 : Value} {w : World} {K : Value → World → Prop} {X : List PanicEntry → World → Prop} (h : N20 t0 w K X) : CAL Tryz.prog 20 #[t0] w K X :=
  cal (args := [t0]) plan20 Tryz.func20 rfl chk20 (by kernel_rfl) (R := N20 t0 w K X) (by kernel_rfl) h

/-- bellows/word.Imm -/
def N89 (t0 : Value) (w : World) (K : Value → World → Prop) (_X : List PanicEntry → World → Prop) : Prop :=
  CNV .u64 t0 fun t4 =>
  BIN .int .shl t4 (.int .u64 1) fun t5 =>
  BIN .int .or t5 (.int .u64 1) fun t6 =>
  K t6 w
def plan89 : Plan := .seq (.reg (.op 0 false .nil)) (.seq (.reg (.sq 0 5 .nil)) (.leaf))
theorem chk89 : chkC Tryz.prog (codeOf Tryz.f89) plan89 = true := by kernel_rfl
theorem n89 {t0 : Value} {w : World} {K : Value → World → Prop} {X : List PanicEntry → World → Prop} (h : N89 t0 w K X) : CAL Tryz.prog 89 #[t0] w K X :=
  cal (args := [t0]) plan89 Tryz.func89 rfl chk89 (by kernel_rfl) (R := N89 t0 w K X) (by kernel_rfl) h

/-- bellows/word.IsImm -/
def N153 (t0 : Value) (w : World) (K : Value → World → Prop) (_X : List PanicEntry → World → Prop) : Prop :=
  BIN .int .and t0 (.int .u64 1) fun t4 =>
  BIN .int .eql t4 (.int .u64 1) fun t5 =>
  K t5 w
def plan153 : Plan := .seq (.reg (.op 0 false .nil)) (.seq (.reg (.sq 0 4 .nil)) (.leaf))
theorem chk153 : chkC Tryz.prog (codeOf Tryz.f153) plan153 = true := by kernel_rfl
theorem n153 {t0 : Value} {w : World} {K : Value → World → Prop} {X : List PanicEntry → World → Prop} (h : N153 t0 w K X) : CAL Tryz.prog 153 #[t0] w K X :=
  cal (args := [t0]) plan153 Tryz.func153 rfl chk153 (by kernel_rfl) (R := N153 t0 w K X) (by kernel_rfl) h

/-- bellows/word.Int -/
def N154 (t0 : Value) (w : World) (K : Value → World → Prop) (_X : List PanicEntry → World → Prop) : Prop :=
  CNV .i64 t0 fun t4 =>
  BIN .int .shr t4 (.int .u64 1) fun t5 =>
  K t5 w
def plan154 : Plan := .seq (.reg (.op 0 false .nil)) (.seq (.reg (.sq 0 4 .nil)) (.leaf))
theorem chk154 : chkC Tryz.prog (codeOf Tryz.f154) plan154 = true := by kernel_rfl
theorem n154 {t0 : Value} {w : World} {K : Value → World → Prop} {X : List PanicEntry → World → Prop} (h : N154 t0 w K X) : CAL Tryz.prog 154 #[t0] w K X :=
  cal (args := [t0]) plan154 Tryz.func154 rfl chk154 (by kernel_rfl) (R := N154 t0 w K X) (by kernel_rfl) h

/-- bellows/word.At -/
def N156 (t0 : Value) (w : World) (K : Value → World → Prop) (_X : List PanicEntry → World → Prop) : Prop :=
  BIN .int .shr t0 (.int .u64 1) fun t4 =>
  CNV .i64 t4 fun t5 =>
  K t5 w
def plan156 : Plan := .seq (.reg (.op 0 false .nil)) (.seq (.reg (.sq 0 4 .nil)) (.leaf))
theorem chk156 : chkC Tryz.prog (codeOf Tryz.f156) plan156 = true := by kernel_rfl
theorem n156 {t0 : Value} {w : World} {K : Value → World → Prop} {X : List PanicEntry → World → Prop} (h : N156 t0 w K X) : CAL Tryz.prog 156 #[t0] w K X :=
  cal (args := [t0]) plan156 Tryz.func156 rfl chk156 (by kernel_rfl) (R := N156 t0 w K X) (by kernel_rfl) h

/-- bellows/word.Add -/
def N158 (t0 t1 : Value) (w : World) (K : Value → World → Prop) (X : List PanicEntry → World → Prop) : Prop :=
  BIN .int .add t0 t1 fun t7 =>
  CAL Tryz.prog 20 #[t7] w (fun t8 w1 =>
    K t8 w1) X
def plan158 : Plan := .seq (.reg (.op 0 false .nil)) (.seq (.reg (.sq 0 5 .nil)) (.leaf))
theorem chk158 : chkC Tryz.prog (codeOf Tryz.f158) plan158 = true := by kernel_rfl
theorem n158 {t0 t1 : Value} {w : World} {K : Value → World → Prop} {X : List PanicEntry → World → Prop} (h : N158 t0 t1 w K X) : CAL Tryz.prog 158 #[t0, t1] w K X :=
  cal (args := [t0, t1]) plan158 Tryz.func158 rfl chk158 (by kernel_rfl) (R := N158 t0 t1 w K X) (by kernel_rfl) h

/-- bellows/word.Sub -/
def N159 (t0 t1 : Value) (w : World) (K : Value → World → Prop) (X : List PanicEntry → World → Prop) : Prop :=
  BIN .int .sub t0 t1 fun t7 =>
  CAL Tryz.prog 20 #[t7] w (fun t8 w1 =>
    K t8 w1) X
def plan159 : Plan := .seq (.reg (.op 0 false .nil)) (.seq (.reg (.sq 0 5 .nil)) (.leaf))
theorem chk159 : chkC Tryz.prog (codeOf Tryz.f159) plan159 = true := by kernel_rfl
theorem n159 {t0 t1 : Value} {w : World} {K : Value → World → Prop} {X : List PanicEntry → World → Prop} (h : N159 t0 t1 w K X) : CAL Tryz.prog 159 #[t0, t1] w K X :=
  cal (args := [t0, t1]) plan159 Tryz.func159 rfl chk159 (by kernel_rfl) (R := N159 t0 t1 w K X) (by kernel_rfl) h

/-- bellows/word.Mul -/
def N160 (t0 t1 : Value) (w : World) (K : Value → World → Prop) (X : List PanicEntry → World → Prop) : Prop :=
  BIN .int .mul t0 t1 fun t7 =>
  CAL Tryz.prog 20 #[t7] w (fun t8 w1 =>
    K t8 w1) X
def plan160 : Plan := .seq (.reg (.op 0 false .nil)) (.seq (.reg (.sq 0 5 .nil)) (.leaf))
theorem chk160 : chkC Tryz.prog (codeOf Tryz.f160) plan160 = true := by kernel_rfl
theorem n160 {t0 t1 : Value} {w : World} {K : Value → World → Prop} {X : List PanicEntry → World → Prop} (h : N160 t0 t1 w K X) : CAL Tryz.prog 160 #[t0, t1] w K X :=
  cal (args := [t0, t1]) plan160 Tryz.func160 rfl chk160 (by kernel_rfl) (R := N160 t0 t1 w K X) (by kernel_rfl) h

/-- bellows/word.Div -/
def N161 (t0 t1 : Value) (w : World) (K : Value → World → Prop) (X : List PanicEntry → World → Prop) : Prop :=
  BIN .int .eql t1 (.int .i64 0) fun t8 =>
  CND t8 (
    K (.tuple #[(.int .i64 0), (.bool false)]) w) (
    BIN .int .quo t0 t1 fun t11 =>
    JOIN (fun (J : Value → World → Prop) =>
      BIN .int .rem t0 t1 fun t14 =>
      BIN .int .neq t14 (.int .i64 0) fun t15 =>
      GRP t15 true (.bool false) w (fun J_1 =>
        BIN .int .lss t0 (.int .i64 0) fun t18 =>
        BIN .int .lss t1 (.int .i64 0) fun t20 =>
        BIN .bool .neq t18 t20 fun t21 =>
        J_1 t21 w)
       (fun t22 w2 =>
        CND t22 (
          BIN .int .sub t11 (.int .i64 1) fun t24 =>
          J t24 w2) (
          J t11 w2)))
     (fun t6 w1 =>
      CAL Tryz.prog 20 #[t6] w1 (fun t26 w3 =>
        K (.tuple #[t26, (.bool true)]) w3) X))
def plan161 : Plan := .seq (.reg (.op 0 false (.op 1 false .nil))) (.seq (.seq (.reg (.op 0 false (.op 1 false .nil))) (.cond (.seq (.reg (.op 0 false (.op 1 false .nil))) (.leaf)) (.leaf))) (.seq (.reg (.sq 0 4 .nil)) (.jseq [6] [] (.seq (.reg (.sq 0 5 (.grp 4 true (.sq 5 5 .nil) 10 .nil))) (.cond (.reg (.sq 0 3 .nil)) (.leaf))) (.seq (.reg (.sq 0 4 .nil)) (.leaf)))))
theorem chk161 : chkC Tryz.prog (codeOf Tryz.f161) plan161 = true := by kernel_rfl
theorem n161 {t0 t1 : Value} {w : World} {K : Value → World → Prop} {X : List PanicEntry → World → Prop} (h : N161 t0 t1 w K X) : CAL Tryz.prog 161 #[t0, t1] w K X :=
  cal (args := [t0, t1]) plan161 Tryz.func161 rfl chk161 (by kernel_rfl) (R := N161 t0 t1 w K X) (by kernel_rfl) h

/-- bellows/word.Mod -/
def N162 (t0 t1 : Value) (w : World) (K : Value → World → Prop) (X : List PanicEntry → World → Prop) : Prop :=
  BIN .int .eql t1 (.int .i64 0) fun t8 =>
  CND t8 (
    K (.tuple #[(.int .i64 0), (.bool false)]) w) (
    BIN .int .rem t0 t1 fun t11 =>
    JOIN (fun (J : Value → World → Prop) =>
      BIN .int .neq t11 (.int .i64 0) fun t13 =>
      GRP t13 true (.bool false) w (fun J_1 =>
        BIN .int .lss t11 (.int .i64 0) fun t16 =>
        BIN .int .lss t1 (.int .i64 0) fun t18 =>
        BIN .bool .neq t16 t18 fun t19 =>
        J_1 t19 w)
       (fun t20 w2 =>
        CND t20 (
          BIN .int .add t11 t1 fun t23 =>
          J t23 w2) (
          J t11 w2)))
     (fun t6 w1 =>
      CAL Tryz.prog 20 #[t6] w1 (fun t25 w3 =>
        K (.tuple #[t25, (.bool true)]) w3) X))
def plan162 : Plan := .seq (.reg (.op 0 false (.op 1 false .nil))) (.seq (.seq (.reg (.op 0 false (.op 1 false .nil))) (.cond (.seq (.reg (.op 0 false (.op 1 false .nil))) (.leaf)) (.leaf))) (.seq (.reg (.sq 0 4 .nil)) (.jseq [6] [] (.seq (.reg (.sq 0 3 (.grp 2 true (.sq 3 5 .nil) 8 .nil))) (.cond (.reg (.sq 0 4 .nil)) (.leaf))) (.seq (.reg (.sq 0 4 .nil)) (.leaf)))))
theorem chk162 : chkC Tryz.prog (codeOf Tryz.f162) plan162 = true := by kernel_rfl
theorem n162 {t0 t1 : Value} {w : World} {K : Value → World → Prop} {X : List PanicEntry → World → Prop} (h : N162 t0 t1 w K X) : CAL Tryz.prog 162 #[t0, t1] w K X :=
  cal (args := [t0, t1]) plan162 Tryz.func162 rfl chk162 (by kernel_rfl) (R := N162 t0 t1 w K X) (by kernel_rfl) h

/-- bellows/word.Ptr -/
def N165 (t0 : Value) (w : World) (K : Value → World → Prop) (_X : List PanicEntry → World → Prop) : Prop :=
  CNV .u64 t0 fun t4 =>
  BIN .int .shl t4 (.int .u64 1) fun t5 =>
  BIN .int .or t5 (.int .u64 0) fun t6 =>
  K t6 w
def plan165 : Plan := .seq (.reg (.op 0 false .nil)) (.seq (.reg (.sq 0 5 .nil)) (.leaf))
theorem chk165 : chkC Tryz.prog (codeOf Tryz.f165) plan165 = true := by kernel_rfl
theorem n165 {t0 : Value} {w : World} {K : Value → World → Prop} {X : List PanicEntry → World → Prop} (h : N165 t0 w K X) : CAL Tryz.prog 165 #[t0] w K X :=
  cal (args := [t0]) plan165 Tryz.func165 rfl chk165 (by kernel_rfl) (R := N165 t0 w K X) (by kernel_rfl) h

/-- bellows/word.Shape -/
def N202 (t0 : Value) (w : World) (K : Value → World → Prop) (_X : List PanicEntry → World → Prop) : Prop :=
  BIN .int .shr t0 (.int .u64 1) fun t4 =>
  BIN .int .and t4 (.int .u64 1048575) fun t5 =>
  CNV .i64 t5 fun t6 =>
  K t6 w
def plan202 : Plan := .seq (.reg (.op 0 false .nil)) (.seq (.reg (.sq 0 5 .nil)) (.leaf))
theorem chk202 : chkC Tryz.prog (codeOf Tryz.f202) plan202 = true := by kernel_rfl
theorem n202 {t0 : Value} {w : World} {K : Value → World → Prop} {X : List PanicEntry → World → Prop} (h : N202 t0 w K X) : CAL Tryz.prog 202 #[t0] w K X :=
  cal (args := [t0]) plan202 Tryz.func202 rfl chk202 (by kernel_rfl) (R := N202 t0 w K X) (by kernel_rfl) h

/-- bellows/word.Head -/
def N222 (t0 t1 : Value) (w : World) (K : Value → World → Prop) (_X : List PanicEntry → World → Prop) : Prop :=
  CNV .u64 t0 fun t6 =>
  BIN .int .and t6 (.int .u64 1048575) fun t7 =>
  BIN .int .shl t7 (.int .u64 1) fun t8 =>
  CNV .u64 t1 fun t10 =>
  BIN .int .and t10 (.int .u64 1048575) fun t11 =>
  BIN .int .shl t11 (.int .u64 21) fun t12 =>
  BIN .int .or t8 t12 fun t13 =>
  BIN .int .or t13 (.int .u64 1) fun t14 =>
  K t14 w
def plan222 : Plan := .seq (.reg (.op 0 false .nil)) (.seq (.reg (.sq 0 11 .nil)) (.leaf))
theorem chk222 : chkC Tryz.prog (codeOf Tryz.f222) plan222 = true := by kernel_rfl
theorem n222 {t0 t1 : Value} {w : World} {K : Value → World → Prop} {X : List PanicEntry → World → Prop} (h : N222 t0 t1 w K X) : CAL Tryz.prog 222 #[t0, t1] w K X :=
  cal (args := [t0, t1]) plan222 Tryz.func222 rfl chk222 (by kernel_rfl) (R := N222 t0 t1 w K X) (by kernel_rfl) h

/-- bellows/word.Len -/
def N210 (t0 : Value) (w : World) (K : Value → World → Prop) (_X : List PanicEntry → World → Prop) : Prop :=
  BIN .int .shr t0 (.int .u64 21) fun t4 =>
  BIN .int .and t4 (.int .u64 1048575) fun t5 =>
  CNV .i64 t5 fun t6 =>
  K t6 w
def plan210 : Plan := .seq (.reg (.op 0 false .nil)) (.seq (.reg (.sq 0 5 .nil)) (.leaf))
theorem chk210 : chkC Tryz.prog (codeOf Tryz.f210) plan210 = true := by kernel_rfl
theorem n210 {t0 : Value} {w : World} {K : Value → World → Prop} {X : List PanicEntry → World → Prop} (h : N210 t0 w K X) : CAL Tryz.prog 210 #[t0] w K X :=
  cal (args := [t0]) plan210 Tryz.func210 rfl chk210 (by kernel_rfl) (R := N210 t0 w K X) (by kernel_rfl) h

/-- bellows/heap.New -/
def N57 (t0 t1 : Value) (w : World) (K : Value → World → Prop) (_X : List PanicEntry → World → Prop) : Prop :=
  BIN .int .lss t0 (.int .i64 0) fun t9 =>
  GRP t9 false (.bool true) w (fun J =>
    BIN .int .gtr t0 (.int .i64 65536) fun t12 =>
    J t12 w)
   (fun t13 w1 =>
    CND t13 (
      K (.tuple #[(.pointer none), (.int .i64 1)]) w1) (
      LEN (.sl 2) t1 fun t15 =>
      BIN .int .gtr t15 (.int .i64 512) fun t16 =>
      CND t16 (
        K (.tuple #[(.pointer none), (.int .i64 2)]) w1) (
        LEN (.sl 2) t1 fun t18 =>
        LOOP1 (.int .i64 0) w1 fun t19 w2 back =>
          BIN .int .lss t19 t18 fun t20 =>
          CND t20 (
            IA 2 t1 t19 fun t21 =>
            LDN 2 w2 t21 fun t22 =>
            AL Tryz.prog 121 w2 fun t7 w3 =>
            ST 2 w3 t7 t22 fun w4 =>
            FA 0 t7 fun t23 =>
            LD w4 t23 fun t24 =>
            BIN .int .lss t24 (.int .i64 1) fun t25 =>
            GRP t25 false (.bool true) w4 (fun J_1 =>
              FA 0 t7 fun t27 =>
              LD w4 t27 fun t28 =>
              BIN .int .gtr t28 (.int .i64 3) fun t29 =>
              J_1 t29 w4)
             (fun t30 w5 =>
              GRP t30 false (.bool true) w5 (fun J_2 =>
                FA 1 t7 fun t32 =>
                LD w5 t32 fun t33 =>
                BIN .int .lss t33 (.int .i64 0) fun t34 =>
                J_2 t34 w5)
               (fun t35 w6 =>
                GRP t35 false (.bool true) w6 (fun J_3 =>
                  FA 1 t7 fun t37 =>
                  LD w6 t37 fun t38 =>
                  BIN .int .gtr t38 (.int .i64 65536) fun t39 =>
                  J_3 t39 w6)
                 (fun t40 w7 =>
                  CND t40 (
                    K (.tuple #[(.pointer none), (.int .i64 1)]) w7) (
                    BIN .int .add t19 (.int .i64 1) fun t41 =>
                    back t41 w7))))) (
            BIN .int .quo t0 (.int .i64 64) fun t45 =>
            BIN .int .add t45 (.int .i64 1) fun t46 =>
            (
              RUN Tryz.prog (Instr.makeSlice 130 t0 t0) w2.drew fun t43 w8 =>
              (
                RUN Tryz.prog (Instr.makeSlice 130 t46 t46) w8 fun t47 w9 =>
                RUN Tryz.prog (Builtin.append_ #[119, 119] 119 #[(.slice none 0 0), t1]) w9 fun t49 w10 =>
                BLD Tryz.prog 165 [(0, t43), (1, t47), (2, t49)] fun t50 =>
                BOX t50 165 w10 fun t51 w11 =>
                K (.tuple #[t51, (.int .i64 0)]) w11) ∧ (
                RUN Tryz.prog (Builtin.append_ #[119, 119] 119 #[(.slice none 0 0), t1]) w8 fun t49_1 w12 =>
                RUN Tryz.prog (Instr.makeSlice 130 t46 t46) w12 fun t47_1 w13 =>
                BLD Tryz.prog 165 [(0, t43), (1, t47_1), (2, t49_1)] fun t50_1 =>
                BOX t50_1 165 w13 fun t51_1 w14 =>
                K (.tuple #[t51_1, (.int .i64 0)]) w14)) ∧ (
              RUN Tryz.prog (Instr.makeSlice 130 t46 t46) w2.drew fun t47_2 w15 =>
              (
                RUN Tryz.prog (Instr.makeSlice 130 t0 t0) w15 fun t43_1 w16 =>
                RUN Tryz.prog (Builtin.append_ #[119, 119] 119 #[(.slice none 0 0), t1]) w16 fun t49_2 w17 =>
                BLD Tryz.prog 165 [(0, t43_1), (1, t47_2), (2, t49_2)] fun t50_2 =>
                BOX t50_2 165 w17 fun t51_2 w18 =>
                K (.tuple #[t51_2, (.int .i64 0)]) w18) ∧ (
                RUN Tryz.prog (Builtin.append_ #[119, 119] 119 #[(.slice none 0 0), t1]) w15 fun t49_3 w19 =>
                RUN Tryz.prog (Instr.makeSlice 130 t0 t0) w19 fun t43_2 w20 =>
                BLD Tryz.prog 165 [(0, t43_2), (1, t47_2), (2, t49_3)] fun t50_3 =>
                BOX t50_3 165 w20 fun t51_3 w21 =>
                K (.tuple #[t51_3, (.int .i64 0)]) w21)) ∧ (
              RUN Tryz.prog (Builtin.append_ #[119, 119] 119 #[(.slice none 0 0), t1]) w2.drew fun t49_4 w22 =>
              (
                RUN Tryz.prog (Instr.makeSlice 130 t0 t0) w22 fun t43_3 w23 =>
                RUN Tryz.prog (Instr.makeSlice 130 t46 t46) w23 fun t47_3 w24 =>
                BLD Tryz.prog 165 [(0, t43_3), (1, t47_3), (2, t49_4)] fun t50_4 =>
                BOX t50_4 165 w24 fun t51_4 w25 =>
                K (.tuple #[t51_4, (.int .i64 0)]) w25) ∧ (
                RUN Tryz.prog (Instr.makeSlice 130 t46 t46) w22 fun t47_4 w26 =>
                RUN Tryz.prog (Instr.makeSlice 130 t0 t0) w26 fun t43_4 w27 =>
                BLD Tryz.prog 165 [(0, t43_4), (1, t47_4), (2, t49_4)] fun t50_5 =>
                BOX t50_5 165 w27 fun t51_5 w28 =>
                K (.tuple #[t51_5, (.int .i64 0)]) w28))))))
def plan57 : Plan := .seq (.reg (.op 0 false (.op 1 false .nil))) (.seq (.seq (.reg (.sq 0 3 (.grp 2 false (.op 3 false (.op 4 false .nil)) 5 .nil))) (.cond (.seq (.reg (.op 0 false (.op 1 false .nil))) (.leaf)) (.leaf))) (.seq (.seq (.reg (.sq 0 3 .nil)) (.cond (.seq (.reg (.op 0 false (.op 1 false .nil))) (.leaf)) (.leaf))) (.seq (.seq (.reg (.sq 0 3 .nil)) (.block (.loop [19] [0, 1, 17, 18] (.seq (.reg (.op 0 false .nil)) (.seq (.cond (.leaf) (.leaf)) (.seq (.block (.seq (.reg (.sq 0 4 .nil)) (.seq (.reg (.sq 0 4 (.grp 3 false (.sq 4 3 .nil) 7 (.op 8 false (.grp 8 false (.sq 9 3 .nil) 12 (.op 13 false (.grp 13 false (.sq 14 3 .nil) 17 .nil))))))) (.cond (.seq (.reg (.op 0 false (.op 1 false .nil))) (.leaf)) (.leaf))))) (.reg (.op 0 false (.op 1 false .nil))))))))) (.seq (.reg (.op 0 false (.sq 2 3 (.op 6 false (.alt 1 false (.alt 5 false (.sq 7 5 .nil) (.op 7 false (.op 5 false (.sq 8 4 .nil)))) (.alt 5 false (.alt 1 false (.sq 7 5 .nil) (.op 7 false (.op 1 false (.sq 8 4 .nil)))) (.op 7 false (.alt 1 false (.op 5 false (.sq 8 4 .nil)) (.op 5 false (.op 1 false (.sq 8 4 .nil))))))))))) (.leaf)))))
theorem chk57 : chkC Tryz.prog (codeOf Tryz.f57) plan57 = true := by kernel_rfl
theorem n57 {t0 t1 : Value} {w : World} {K : Value → World → Prop} {X : List PanicEntry → World → Prop} (h : N57 t0 t1 w K X) : CAL Tryz.prog 57 #[t0, t1] w K X :=
  cal (args := [t0, t1]) plan57 Tryz.func57 rfl chk57 (by kernel_rfl) (R := N57 t0 t1 w K X) (by kernel_rfl) h

/-- (*bellows/heap.Heap).Kind -/
def N101 (t0 t1 : Value) (w : World) (K : Value → World → Prop) (_X : List PanicEntry → World → Prop) : Prop :=
  BIN .ptr .eql t0 (.pointer none) fun t6 =>
  GRP t6 false (.bool true) w (fun J =>
    BIN .int .lss t1 (.int .i64 0) fun t9 =>
    J t9 w)
   (fun t10 w1 =>
    GRP t10 false (.bool true) w1 (fun J_1 =>
      NC t0 fun t14 =>
      FA 2 t14 fun t15 =>
      LD w1 t15 fun t16 =>
      LEN (.sl 2) t16 fun t17 =>
      BIN .int .geq t1 t17 fun t18 =>
      J_1 t18 w1)
     (fun t19 w2 =>
      CND t19 (
        K (.int .i64 0) w2) (
        NC t0 fun t21 =>
        FA 2 t21 fun t22 =>
        LD w2 t22 fun t23 =>
        IA 2 t23 t1 fun t25 =>
        FA 0 t25 fun t26 =>
        LD w2 t26 fun t27 =>
        K t27 w2)))
def plan101 : Plan := .seq (.reg (.op 0 false .nil)) (.seq (.seq (.reg (.sq 0 3 (.grp 2 false (.op 3 false (.op 4 false .nil)) 5 (.op 6 false (.grp 6 false (.sq 7 7 .nil) 14 .nil))))) (.cond (.seq (.reg (.op 0 false .nil)) (.leaf)) (.leaf))) (.seq (.reg (.sq 0 9 .nil)) (.leaf)))
theorem chk101 : chkC Tryz.prog (codeOf Tryz.f101) plan101 = true := by kernel_rfl
theorem n101 {t0 t1 : Value} {w : World} {K : Value → World → Prop} {X : List PanicEntry → World → Prop} (h : N101 t0 t1 w K X) : CAL Tryz.prog 101 #[t0, t1] w K X :=
  cal (args := [t0, t1]) plan101 Tryz.func101 rfl chk101 (by kernel_rfl) (R := N101 t0 t1 w K X) (by kernel_rfl) h

/-- (*bellows/heap.Heap).Shape -/
def N155 (t0 t1 : Value) (w : World) (K : Value → World → Prop) (X : List PanicEntry → World → Prop) : Prop :=
  CAL Tryz.prog 201 #[t0, t1] w (fun t8 w1 =>
    UN .not t8 fun t9 =>
    CND t9 (
      K (.tuple #[(.int .i64 0), (.int .i64 1)]) w1) (
      NC t0 fun t11 =>
      FA 0 t11 fun t12 =>
      LD w1 t12 fun t13 =>
      IA 1 t13 t1 fun t15 =>
      LD w1 t15 fun t16 =>
      CAL Tryz.prog 202 #[t16] w1 (fun t17 w2 =>
        K (.tuple #[t17, (.int .i64 0)]) w2) X)) X
def plan155 : Plan := .seq (.reg (.op 0 false (.op 1 false .nil))) (.seq (.seq (.reg (.sq 0 4 .nil)) (.cond (.seq (.reg (.op 0 false (.op 1 false .nil))) (.leaf)) (.leaf))) (.seq (.reg (.sq 0 10 .nil)) (.leaf)))
theorem chk155 : chkC Tryz.prog (codeOf Tryz.f155) plan155 = true := by kernel_rfl
theorem n155 {t0 t1 : Value} {w : World} {K : Value → World → Prop} {X : List PanicEntry → World → Prop} (h : N155 t0 t1 w K X) : CAL Tryz.prog 155 #[t0, t1] w K X :=
  cal (args := [t0, t1]) plan155 Tryz.func155 rfl chk155 (by kernel_rfl) (R := N155 t0 t1 w K X) (by kernel_rfl) h

/-- (*bellows/heap.Heap).Need -/
def N203 (t0 t1 t2 : Value) (w : World) (K : Value → World → Prop) (_X : List PanicEntry → World → Prop) : Prop :=
  BIN .ptr .eql t0 (.pointer none) fun t10 =>
  GRP t10 false (.bool true) w (fun J =>
    BIN .int .lss t1 (.int .i64 0) fun t13 =>
    J t13 w)
   (fun t14 w1 =>
    GRP t14 false (.bool true) w1 (fun J_1 =>
      NC t0 fun t18 =>
      FA 2 t18 fun t19 =>
      LD w1 t19 fun t20 =>
      LEN (.sl 2) t20 fun t21 =>
      BIN .int .geq t1 t21 fun t22 =>
      J_1 t22 w1)
     (fun t23 w2 =>
      GRP t23 false (.bool true) w2 (fun J_2 =>
        BIN .int .lss t2 (.int .i64 0) fun t26 =>
        J_2 t26 w2)
       (fun t27 w3 =>
        CND t27 (
          K (.tuple #[(.int .i64 0), (.int .i64 1)]) w3) (
          NC t0 fun t29 =>
          FA 2 t29 fun t30 =>
          LD w3 t30 fun t31 =>
          IA 2 t31 t1 fun t33 =>
          LDN 2 w3 t33 fun t34 =>
          AL Tryz.prog 121 w3 fun t8 w4 =>
          ST 2 w4 t8 t34 fun w5 =>
          FA 0 t8 fun t36 =>
          LD w5 t36 fun t37 =>
          BIN .int .eql t37 (.int .i64 1) fun t38 =>
          GRP t38 true (.bool false) w5 (fun J_3 =>
            FA 1 t8 fun t41 =>
            LD w5 t41 fun t42 =>
            BIN .int .neq t2 t42 fun t43 =>
            J_3 t43 w5)
           (fun t44 w6 =>
            CND t44 (
              K (.tuple #[(.int .i64 0), (.int .i64 1)]) w6) (
              BIN .int .gtr t2 (.int .i64 65536) fun t47 =>
              CND t47 (
                K (.tuple #[(.int .i64 0), (.int .i64 2)]) w6) (
                FA 0 t8 fun t49 =>
                LD w6 t49 fun t50 =>
                BIN .int .eql t50 (.int .i64 3) fun t51 =>
                CND t51 (
                  BIN .int .add t2 (.int .i64 7) fun t53 =>
                  BIN .int .quo t53 (.int .i64 8) fun t54 =>
                  BIN .int .add (.int .i64 1) t54 fun t55 =>
                  K (.tuple #[t55, (.int .i64 0)]) w6) (
                  BIN .int .add (.int .i64 1) t2 fun t57 =>
                  K (.tuple #[t57, (.int .i64 0)]) w6))))))))
def plan203 : Plan := .seq (.reg (.op 0 false (.op 1 false .nil))) (.seq (.seq (.reg (.sq 0 3 (.grp 2 false (.op 3 false (.op 4 false .nil)) 5 (.op 6 false (.grp 6 false (.sq 7 7 .nil) 14 (.op 15 false (.grp 15 false (.op 16 false (.op 17 false .nil)) 18 .nil))))))) (.cond (.seq (.reg (.op 0 false (.op 1 false .nil))) (.leaf)) (.leaf))) (.seq (.reg (.sq 0 9 .nil)) (.seq (.block (.seq (.reg (.sq 0 4 (.grp 3 true (.sq 4 4 .nil) 8 (.op 9 false .nil)))) (.cond (.seq (.reg (.op 0 false (.op 1 false .nil))) (.leaf)) (.seq (.reg (.sq 0 3 .nil)) (.cond (.seq (.reg (.op 0 false (.op 1 false .nil))) (.leaf)) (.seq (.reg (.sq 0 4 .nil)) (.cond (.seq (.reg (.sq 0 6 .nil)) (.leaf)) (.leaf)))))))) (.seq (.reg (.sq 0 4 .nil)) (.leaf)))))
theorem chk203 : chkC Tryz.prog (codeOf Tryz.f203) plan203 = true := by kernel_rfl
theorem n203 {t0 t1 t2 : Value} {w : World} {K : Value → World → Prop} {X : List PanicEntry → World → Prop} (h : N203 t0 t1 t2 w K X) : CAL Tryz.prog 203 #[t0, t1, t2] w K X :=
  cal (args := [t0, t1, t2]) plan203 Tryz.func203 rfl chk203 (by kernel_rfl) (R := N203 t0 t1 t2 w K X) (by kernel_rfl) h

/-- (*bellows/heap.Heap).Size -/
def N205 (t0 : Value) (w : World) (K : Value → World → Prop) (_X : List PanicEntry → World → Prop) : Prop :=
  BIN .ptr .eql t0 (.pointer none) fun t4 =>
  CND t4 (
    K (.int .i64 0) w) (
    NC t0 fun t6 =>
    FA 0 t6 fun t7 =>
    LD w t7 fun t8 =>
    LEN (.sl 1) t8 fun t9 =>
    K t9 w)
def plan205 : Plan := .seq (.reg (.op 0 false .nil)) (.seq (.seq (.reg (.op 0 false (.op 1 false .nil))) (.cond (.seq (.reg (.op 0 false .nil)) (.leaf)) (.leaf))) (.seq (.reg (.sq 0 6 .nil)) (.leaf)))
theorem chk205 : chkC Tryz.prog (codeOf Tryz.f205) plan205 = true := by kernel_rfl
theorem n205 {t0 : Value} {w : World} {K : Value → World → Prop} {X : List PanicEntry → World → Prop} (h : N205 t0 w K X) : CAL Tryz.prog 205 #[t0] w K X :=
  cal (args := [t0]) plan205 Tryz.func205 rfl chk205 (by kernel_rfl) (R := N205 t0 w K X) (by kernel_rfl) h

/-- (*bellows/heap.Heap).Top -/
def N206 (t0 : Value) (w : World) (K : Value → World → Prop) (_X : List PanicEntry → World → Prop) : Prop :=
  BIN .ptr .eql t0 (.pointer none) fun t4 =>
  CND t4 (
    K (.int .i64 0) w) (
    NC t0 fun t6 =>
    FA 3 t6 fun t7 =>
    LD w t7 fun t8 =>
    K t8 w)
def plan206 : Plan := .seq (.reg (.op 0 false .nil)) (.seq (.seq (.reg (.op 0 false (.op 1 false .nil))) (.cond (.seq (.reg (.op 0 false .nil)) (.leaf)) (.leaf))) (.seq (.reg (.sq 0 5 .nil)) (.leaf)))
theorem chk206 : chkC Tryz.prog (codeOf Tryz.f206) plan206 = true := by kernel_rfl
theorem n206 {t0 : Value} {w : World} {K : Value → World → Prop} {X : List PanicEntry → World → Prop} (h : N206 t0 w K X) : CAL Tryz.prog 206 #[t0] w K X :=
  cal (args := [t0]) plan206 Tryz.func206 rfl chk206 (by kernel_rfl) (R := N206 t0 w K X) (by kernel_rfl) h

/-- (*bellows/heap.Heap).Alloc -/
def N207 (t0 t1 t2 : Value) (w : World) (K : Value → World → Prop) (X : List PanicEntry → World → Prop) : Prop :=
  CAL Tryz.prog 203 #[t0, t1, t2] w (fun t16 w1 =>
    EX t16 0 fun t17 =>
    EX t16 1 fun t18 =>
    BIN .int .neq t18 (.int .i64 0) fun t20 =>
    CND t20 (
      K (.tuple #[(.int .i64 0), t18]) w1) (
      NC t0 fun t24 =>
      FA 0 t24 fun t25 =>
      LD w1.drew t25 fun t26 =>
      LEN (.sl 1) t26 fun t27 =>
      NC t0 fun t29 =>
      FA 3 t29 fun t30 =>
      LD w1.drew t30 fun t31 =>
      BIN .int .sub t27 t31 fun t32 =>
      BIN .int .gtr t17 t32 fun t33 =>
      CND t33 (
        K (.tuple #[(.int .i64 0), (.int .i64 3)]) w1.drew) (
        NC t0 fun t35 =>
        FA 3 t35 fun t36 =>
        LD w1.drew t36 fun t37 =>
        NC t0 fun t39 =>
        FA 0 t39 fun t40 =>
        LD ((w1.drew).drew) t40 fun t41 =>
        CAL Tryz.prog 222 #[t1, t2] ((w1.drew).drew) (fun t45 w2 =>
          (Keeps ((w1.drew).drew) w2 ∧ (
          IA 1 t41 t37 fun t46 =>
          ST 1 w2 t46 t45 fun w3 =>
          JOIN (fun (J : World → Prop) =>
            NC t0 fun t48 =>
            FA 2 t48 fun t49 =>
            LD w3 t49 fun t50 =>
            IA 2 t50 t1 fun t52 =>
            FA 0 t52 fun t53 =>
            LD w3 t53 fun t54 =>
            BIN .int .neq t54 (.int .i64 3) fun t55 =>
            CND t55 (
              LOOP1 (.int .i64 0) w3 fun t57 w5 back =>
                BIN .int .lss t57 t2 fun t58 =>
                CND t58 (
                  NC t0 fun t61 =>
                  FA 0 t61 fun t62 =>
                  LD w5.drew t62 fun t63 =>
                  BIN .int .add t37 (.int .i64 1) fun t65 =>
                  BIN .int .add t65 t57 fun t67 =>
                  CAL Tryz.prog 89 #[(.int .i64 0)] w5.drew (fun t68 w6 =>
                    (Keeps w5.drew w6 ∧ (
                    IA 1 t63 t67 fun t69 =>
                    ST 1 w6 t69 t68 fun w7 =>
                    BIN .int .add t57 (.int .i64 1) fun t70 =>
                    back t70 w7))) X) (
                  J  w5)) (
              J  w3))
           (fun  w4 =>
            NC t0 fun t72 =>
            FA 1 t72 fun t73 =>
            LD w4.drew t73 fun t74 =>
            BIN .int .quo t37 (.int .i64 64) fun t76 =>
            IA 1 t74 t76 fun t77 =>
            LD w4.drew t77 fun t78 =>
            BIN .int .rem t37 (.int .i64 64) fun t80 =>
            BIN .int .shl (.int .u64 1) t80 fun t81 =>
            BIN .int .or t78 t81 fun t82 =>
            IA 1 t74 t76 fun t83 =>
            ST 1 w4.drew t83 t82 fun w8 =>
            NC t0 fun t85 =>
            FA 3 t85 fun t86 =>
            LD w8 t86 fun t87 =>
            BIN .int .add t87 t17 fun t89 =>
            NC t0 fun t90 =>
            FA 3 t90 fun t91 =>
            ST 1 w8 t91 t89 fun w9 =>
            K (.tuple #[t37, (.int .i64 0)]) w9)))) X))) X
def plan207 : Plan := .seq (.reg (.op 0 false (.op 1 false .nil))) (.seq (.reg (.sq 0 9 .nil)) (.seq (.seq (.reg (.op 0 false (.op 1 false .nil))) (.cond (.seq (.reg (.sq 0 3 .nil)) (.leaf)) (.leaf))) (.seq (.seq (.reg (.sq 0 12 .nil)) (.cond (.seq (.reg (.op 0 false (.op 1 false .nil))) (.leaf)) (.leaf))) (.seq (.reg (.sq 0 5 .nil)) (.seq (.reg (.sq 0 7 (.op 7 true (.op 8 false (.op 9 false .nil))))) (.jseq [] [0, 8, 10] (.seq (.reg (.sq 0 9 .nil)) (.cond (.seq (.reg (.op 0 false (.op 1 false .nil))) (.block (.loop [57] [0, 8, 10, 56] (.seq (.reg (.op 0 false .nil)) (.seq (.cond (.leaf) (.leaf)) (.seq (.block (.seq (.reg (.op 0 false (.op 1 false .nil))) (.reg (.sq 0 8 (.op 8 true (.op 9 false (.op 10 false .nil))))))) (.reg (.op 0 false (.op 1 false .nil))))))))) (.leaf))) (.seq (.reg (.sq 0 14 .nil)) (.seq (.reg (.sq 0 9 .nil)) (.seq (.reg (.sq 0 3 .nil)) (.leaf))))))))))
theorem chk207 : chkC Tryz.prog (codeOf Tryz.f207) plan207 = true := by kernel_rfl
theorem n207 {t0 t1 t2 : Value} {w : World} {K : Value → World → Prop} {X : List PanicEntry → World → Prop} (h : N207 t0 t1 t2 w K X) : CAL Tryz.prog 207 #[t0, t1, t2] w K X :=
  cal (args := [t0, t1, t2]) plan207 Tryz.func207 rfl chk207 (by kernel_rfl) (R := N207 t0 t1 t2 w K X) (by kernel_rfl) h

/-- (*bellows/heap.Heap).has -/
def N208 (t0 t1 t2 t3 : Value) (w : World) (K : Value → World → Prop) (X : List PanicEntry → World → Prop) : Prop :=
  CAL Tryz.prog 201 #[t0, t1] w.drew (fun t11 w1 =>
    GRP t11 true (.bool false) w1 (fun J =>
      NC t0 fun t14 =>
      FA 2 t14 fun t15 =>
      LD w1 t15 fun t16 =>
      NC t0 fun t18 =>
      FA 0 t18 fun t19 =>
      LD w1 t19 fun t20 =>
      IA 1 t20 t1 fun t22 =>
      LD w1 t22 fun t23 =>
      CAL Tryz.prog 202 #[t23] w1 (fun t24 w3 =>
        (Keeps w1 w3 ∧ (
        IA 2 t16 t24 fun t25 =>
        FA 0 t25 fun t26 =>
        LD w3 t26 fun t27 =>
        BIN .int .eql t27 (.int .i64 3) fun t28 =>
        BIN .bool .eql t28 t3 fun t30 =>
        J t30 w3))) X)
     (fun t31 w2 =>
      GRP t31 true (.bool false) w2 (fun J_1 =>
        BIN .int .geq t2 (.int .i64 0) fun t34 =>
        J_1 t34 w2)
       (fun t35 w4 =>
        GRP t35 true (.bool false) w4 (fun J_2 =>
          NC t0 fun t39 =>
          FA 0 t39 fun t40 =>
          LD w4 t40 fun t41 =>
          IA 1 t41 t1 fun t43 =>
          LD w4 t43 fun t44 =>
          CAL Tryz.prog 210 #[t44] w4 (fun t45 w6 =>
            BIN .int .lss t2 t45 fun t46 =>
            J_2 t46 w6) X)
         (fun t47 w5 =>
          K t47 w5)))) X
def plan208 : Plan := .seq (.reg (.op 0 false .nil)) (.seq (.reg (.sq 0 4 (.grp 3 true (.sq 4 11 (.op 20 false (.op 15 true (.sq 16 4 (.op 21 false .nil))))) 22 (.op 23 false (.grp 23 true (.op 24 false (.op 25 false .nil)) 26 (.op 27 false (.grp 27 true (.sq 28 10 .nil) 38 (.op 39 false .nil)))))))) (.leaf))
theorem chk208 : chkC Tryz.prog (codeOf Tryz.f208) plan208 = true := by kernel_rfl
theorem n208 {t0 t1 t2 t3 : Value} {w : World} {K : Value → World → Prop} {X : List PanicEntry → World → Prop} (h : N208 t0 t1 t2 t3 w K X) : CAL Tryz.prog 208 #[t0, t1, t2, t3] w K X :=
  cal (args := [t0, t1, t2, t3]) plan208 Tryz.func208 rfl chk208 (by kernel_rfl) (R := N208 t0 t1 t2 t3 w K X) (by kernel_rfl) h

/-- (*bellows/heap.Heap).Len -/
def N209 (t0 t1 : Value) (w : World) (K : Value → World → Prop) (X : List PanicEntry → World → Prop) : Prop :=
  CAL Tryz.prog 201 #[t0, t1] w (fun t8 w1 =>
    UN .not t8 fun t9 =>
    CND t9 (
      K (.tuple #[(.int .i64 0), (.int .i64 1)]) w1) (
      NC t0 fun t11 =>
      FA 0 t11 fun t12 =>
      LD w1 t12 fun t13 =>
      IA 1 t13 t1 fun t15 =>
      LD w1 t15 fun t16 =>
      CAL Tryz.prog 210 #[t16] w1 (fun t17 w2 =>
        K (.tuple #[t17, (.int .i64 0)]) w2) X)) X
def plan209 : Plan := .seq (.reg (.op 0 false (.op 1 false .nil))) (.seq (.seq (.reg (.sq 0 4 .nil)) (.cond (.seq (.reg (.op 0 false (.op 1 false .nil))) (.leaf)) (.leaf))) (.seq (.reg (.sq 0 10 .nil)) (.leaf)))
theorem chk209 : chkC Tryz.prog (codeOf Tryz.f209) plan209 = true := by kernel_rfl
theorem n209 {t0 t1 : Value} {w : World} {K : Value → World → Prop} {X : List PanicEntry → World → Prop} (h : N209 t0 t1 w K X) : CAL Tryz.prog 209 #[t0, t1] w K X :=
  cal (args := [t0, t1]) plan209 Tryz.func209 rfl chk209 (by kernel_rfl) (R := N209 t0 t1 w K X) (by kernel_rfl) h

/-- (*bellows/heap.Heap).Fits -/
def N212 (t0 t1 : Value) (w : World) (K : Value → World → Prop) (X : List PanicEntry → World → Prop) : Prop :=
  BIN .ptr .neq t0 (.pointer none) fun t6 =>
  GRP t6 true (.bool false) w (fun J =>
    CAL Tryz.prog 153 #[t1] w (fun t9 w2 =>
      GRP t9 false (.bool true) w2 (fun J_1 =>
        CAL Tryz.prog 156 #[t1] w2 (fun t13 w4 =>
          CAL Tryz.prog 201 #[t0, t13] w4 (fun t14 w5 =>
            J_1 t14 w5) X) X)
       (fun t15 w3 =>
        J t15 w3)) X)
   (fun t16 w1 =>
    K t16 w1)
def plan212 : Plan := .seq (.reg (.op 0 false .nil)) (.seq (.reg (.sq 0 3 (.grp 2 true (.sq 3 3 (.grp 5 false (.sq 6 4 .nil) 10 .nil)) 11 (.op 12 false .nil)))) (.leaf))
theorem chk212 : chkC Tryz.prog (codeOf Tryz.f212) plan212 = true := by kernel_rfl
theorem n212 {t0 t1 : Value} {w : World} {K : Value → World → Prop} {X : List PanicEntry → World → Prop} (h : N212 t0 t1 w K X) : CAL Tryz.prog 212 #[t0, t1] w K X :=
  cal (args := [t0, t1]) plan212 Tryz.func212 rfl chk212 (by kernel_rfl) (R := N212 t0 t1 w K X) (by kernel_rfl) h

/-- (*bellows/heap.Heap).Is -/
def N201 (t0 t1 : Value) (w : World) (K : Value → World → Prop) (_X : List PanicEntry → World → Prop) : Prop :=
  BIN .ptr .neq t0 (.pointer none) fun t6 =>
  GRP t6 true (.bool false) w (fun J =>
    BIN .int .geq t1 (.int .i64 0) fun t9 =>
    J t9 w)
   (fun t10 w1 =>
    GRP t10 true (.bool false) w1 (fun J_1 =>
      NC t0 fun t14 =>
      FA 3 t14 fun t15 =>
      LD w1 t15 fun t16 =>
      BIN .int .lss t1 t16 fun t17 =>
      J_1 t17 w1)
     (fun t18 w2 =>
      GRP t18 true (.bool false) w2 (fun J_2 =>
        NC t0 fun t21 =>
        FA 1 t21 fun t22 =>
        LD w2 t22 fun t23 =>
        BIN .int .quo t1 (.int .i64 64) fun t25 =>
        IA 1 t23 t25 fun t26 =>
        LD w2 t26 fun t27 =>
        BIN .int .rem t1 (.int .i64 64) fun t29 =>
        BIN .int .shr t27 t29 fun t30 =>
        BIN .int .and t30 (.int .u64 1) fun t31 =>
        BIN .int .eql t31 (.int .u64 1) fun t32 =>
        J_2 t32 w2)
       (fun t33 w3 =>
        K t33 w3)))
def plan201 : Plan := .seq (.reg (.op 0 false .nil)) (.seq (.reg (.sq 0 3 (.grp 2 true (.op 3 false (.op 4 false .nil)) 5 (.op 6 false (.grp 6 true (.sq 7 6 .nil) 13 (.op 14 false (.grp 14 true (.sq 15 13 .nil) 28 (.op 29 false .nil)))))))) (.leaf))
theorem chk201 : chkC Tryz.prog (codeOf Tryz.f201) plan201 = true := by kernel_rfl
theorem n201 {t0 t1 : Value} {w : World} {K : Value → World → Prop} {X : List PanicEntry → World → Prop} (h : N201 t0 t1 w K X) : CAL Tryz.prog 201 #[t0, t1] w K X :=
  cal (args := [t0, t1]) plan201 Tryz.func201 rfl chk201 (by kernel_rfl) (R := N201 t0 t1 w K X) (by kernel_rfl) h

/-- (*bellows/heap.Heap).SetByte -/
def N164 (t0 t1 t2 t3 : Value) (w : World) (K : Value → World → Prop) (X : List PanicEntry → World → Prop) : Prop :=
  CAL Tryz.prog 208 #[t0, t1, t2, (.bool true)] w (fun t14 w1 =>
    UN .not t14 fun t15 =>
    CND t15 (
      K (.int .i64 1) w1) (
      NC t0 fun t17 =>
      FA 0 t17 fun t18 =>
      LD w1 t18 fun t19 =>
      BIN .int .add t1 (.int .i64 1) fun t21 =>
      BIN .int .quo t2 (.int .i64 8) fun t23 =>
      BIN .int .add t21 t23 fun t24 =>
      IA 1 t19 t24 fun t25 =>
      BIN .int .rem t2 (.int .i64 8) fun t27 =>
      BIN .int .mul t27 (.int .i64 8) fun t28 =>
      NC t25 fun t31 =>
      LD w1.drew t31 fun t32 =>
      BIN .int .shl (.int .u64 255) t28 fun t34 =>
      BIN .int .andNot t32 t34 fun t35 =>
      CNV .u64 t3 fun t37 =>
      BIN .int .shl t37 t28 fun t39 =>
      BIN .int .or t35 t39 fun t40 =>
      NC t25 fun t41 =>
      ST 1 w1.drew t41 t40 fun w2 =>
      K (.int .i64 0) w2)) X
def plan164 : Plan := .seq (.reg (.op 0 false .nil)) (.seq (.seq (.reg (.sq 0 5 .nil)) (.cond (.seq (.reg (.op 0 false .nil)) (.leaf)) (.leaf))) (.seq (.reg (.sq 0 15 .nil)) (.seq (.reg (.sq 0 14 .nil)) (.seq (.reg (.op 0 false .nil)) (.leaf)))))
theorem chk164 : chkC Tryz.prog (codeOf Tryz.f164) plan164 = true := by kernel_rfl
theorem n164 {t0 t1 t2 t3 : Value} {w : World} {K : Value → World → Prop} {X : List PanicEntry → World → Prop} (h : N164 t0 t1 t2 t3 w K X) : CAL Tryz.prog 164 #[t0, t1, t2, t3] w K X :=
  cal (args := [t0, t1, t2, t3]) plan164 Tryz.func164 rfl chk164 (by kernel_rfl) (R := N164 t0 t1 t2 t3 w K X) (by kernel_rfl) h

/-- (*bellows/heap.Heap).Byte -/
def N167 (t0 t1 t2 : Value) (w : World) (K : Value → World → Prop) (X : List PanicEntry → World → Prop) : Prop :=
  CAL Tryz.prog 208 #[t0, t1, t2, (.bool true)] w (fun t11 w1 =>
    UN .not t11 fun t12 =>
    CND t12 (
      K (.tuple #[(.int .u8 0), (.int .i64 1)]) w1) (
      NC t0 fun t14 =>
      FA 0 t14 fun t15 =>
      LD w1 t15 fun t16 =>
      BIN .int .add t1 (.int .i64 1) fun t18 =>
      BIN .int .quo t2 (.int .i64 8) fun t20 =>
      BIN .int .add t18 t20 fun t21 =>
      IA 1 t16 t21 fun t22 =>
      LD w1 t22 fun t23 =>
      BIN .int .rem t2 (.int .i64 8) fun t25 =>
      BIN .int .mul t25 (.int .i64 8) fun t26 =>
      BIN .int .shr t23 t26 fun t27 =>
      CNV .u8 t27 fun t28 =>
      K (.tuple #[t28, (.int .i64 0)]) w1)) X
def plan167 : Plan := .seq (.reg (.op 0 false (.op 1 false .nil))) (.seq (.seq (.reg (.sq 0 5 .nil)) (.cond (.seq (.reg (.op 0 false (.op 1 false .nil))) (.leaf)) (.leaf))) (.seq (.reg (.sq 0 18 .nil)) (.leaf)))
theorem chk167 : chkC Tryz.prog (codeOf Tryz.f167) plan167 = true := by kernel_rfl
theorem n167 {t0 t1 t2 : Value} {w : World} {K : Value → World → Prop} {X : List PanicEntry → World → Prop} (h : N167 t0 t1 t2 w K X) : CAL Tryz.prog 167 #[t0, t1, t2] w K X :=
  cal (args := [t0, t1, t2]) plan167 Tryz.func167 rfl chk167 (by kernel_rfl) (R := N167 t0 t1 t2 w K X) (by kernel_rfl) h

/-- (*bellows/heap.Heap).Text -/
def N169 (t0 t1 : Value) (w : World) (K : Value → World → Prop) (X : List PanicEntry → World → Prop) : Prop :=
  CAL Tryz.prog 201 #[t0, t1] w.drew (fun t10 w1 =>
    UN .not t10 fun t11 =>
    GRP t11 false (.bool true) w1 (fun J =>
      NC t0 fun t14 =>
      FA 2 t14 fun t15 =>
      LD w1 t15 fun t16 =>
      NC t0 fun t18 =>
      FA 0 t18 fun t19 =>
      LD w1 t19 fun t20 =>
      IA 1 t20 t1 fun t22 =>
      LD w1 t22 fun t23 =>
      CAL Tryz.prog 202 #[t23] w1 (fun t24 w3 =>
        (Keeps w1 w3 ∧ (
        IA 2 t16 t24 fun t25 =>
        FA 0 t25 fun t26 =>
        LD w3 t26 fun t27 =>
        BIN .int .neq t27 (.int .i64 3) fun t28 =>
        J t28 w3))) X)
     (fun t29 w2 =>
      CND t29 (
        K (.tuple #[(.string ⟨#[]⟩), (.int .i64 1)]) w2) (
        NC t0 fun t31 =>
        FA 0 t31 fun t32 =>
        LD w2 t32 fun t33 =>
        IA 1 t33 t1 fun t35 =>
        LD w2 t35 fun t36 =>
        CAL Tryz.prog 210 #[t36] w2 (fun t37 w4 =>
          RUN Tryz.prog (Instr.makeSlice 34 t37 t37) w4 fun t38 w5 =>
          LEN (.sl 1) t38 fun t40 =>
          LOOP1 (.int .i64 0) w5 fun t41 w6 back =>
            BIN .int .lss t41 t40 fun t42 =>
            CND t42 (
              NC t0 fun t47 =>
              FA 0 t47 fun t48 =>
              LD w6 t48 fun t49 =>
              BIN .int .add t1 (.int .i64 1) fun t51 =>
              BIN .int .quo t41 (.int .i64 8) fun t53 =>
              BIN .int .add t51 t53 fun t54 =>
              IA 1 t49 t54 fun t55 =>
              LD w6 t55 fun t56 =>
              BIN .int .rem t41 (.int .i64 8) fun t58 =>
              BIN .int .mul t58 (.int .i64 8) fun t59 =>
              BIN .int .shr t56 t59 fun t60 =>
              CNV .u8 t60 fun t61 =>
              IA 1 t38 t41 fun t62 =>
              ST 1 w6 t62 t61 fun w7 =>
              BIN .int .add t41 (.int .i64 1) fun t63 =>
              back t63 w7) (
              RUN Tryz.prog (convert 34 9 t38) w6 fun t65 w8 =>
              K (.tuple #[t65, (.int .i64 0)]) w8)) X))) X
def plan169 : Plan := .seq (.reg (.op 0 false (.op 1 false .nil))) (.seq (.seq (.reg (.sq 0 5 (.grp 4 false (.sq 5 11 (.op 16 true (.sq 17 4 .nil))) 21 .nil))) (.cond (.seq (.reg (.op 0 false (.op 1 false .nil))) (.leaf)) (.leaf))) (.seq (.reg (.sq 0 10 .nil)) (.seq (.seq (.reg (.sq 0 3 .nil)) (.block (.loop [41] [0, 1, 6, 40] (.seq (.reg (.op 0 false .nil)) (.seq (.cond (.leaf) (.leaf)) (.seq (.block (.seq (.reg (.op 0 false (.op 1 false .nil))) (.reg (.sq 0 20 .nil)))) (.reg (.op 0 false (.op 1 false .nil))))))))) (.seq (.reg (.sq 0 4 .nil)) (.leaf)))))
theorem chk169 : chkC Tryz.prog (codeOf Tryz.f169) plan169 = true := by kernel_rfl
theorem n169 {t0 t1 : Value} {w : World} {K : Value → World → Prop} {X : List PanicEntry → World → Prop} (h : N169 t0 t1 w K X) : CAL Tryz.prog 169 #[t0, t1] w K X :=
  cal (args := [t0, t1]) plan169 Tryz.func169 rfl chk169 (by kernel_rfl) (R := N169 t0 t1 w K X) (by kernel_rfl) h

/-- (*bellows/heap.Heap).Set -/
def N171 (t0 t1 t2 t3 : Value) (w : World) (K : Value → World → Prop) (X : List PanicEntry → World → Prop) : Prop :=
  CAL Tryz.prog 208 #[t0, t1, t2, (.bool false)] w (fun t12 w1 =>
    UN .not t12 fun t13 =>
    GRP t13 false (.bool true) w1 (fun J =>
      CAL Tryz.prog 212 #[t0, t3] w1 (fun t17 w3 =>
        UN .not t17 fun t18 =>
        J t18 w3) X)
     (fun t19 w2 =>
      CND t19 (
        K (.int .i64 1) w2) (
        NC t0 fun t21 =>
        FA 0 t21 fun t22 =>
        LD w2 t22 fun t23 =>
        BIN .int .add t1 (.int .i64 1) fun t25 =>
        BIN .int .add t25 t2 fun t27 =>
        IA 1 t23 t27 fun t29 =>
        ST 1 w2 t29 t3 fun w4 =>
        K (.int .i64 0) w4))) X
def plan171 : Plan := .seq (.reg (.op 0 false .nil)) (.seq (.seq (.reg (.sq 0 6 (.grp 5 false (.sq 6 4 .nil) 10 .nil))) (.cond (.seq (.reg (.op 0 false .nil)) (.leaf)) (.leaf))) (.seq (.reg (.sq 0 11 .nil)) (.seq (.reg (.op 0 false .nil)) (.leaf))))
theorem chk171 : chkC Tryz.prog (codeOf Tryz.f171) plan171 = true := by kernel_rfl
theorem n171 {t0 t1 t2 t3 : Value} {w : World} {K : Value → World → Prop} {X : List PanicEntry → World → Prop} (h : N171 t0 t1 t2 t3 w K X) : CAL Tryz.prog 171 #[t0, t1, t2, t3] w K X :=
  cal (args := [t0, t1, t2, t3]) plan171 Tryz.func171 rfl chk171 (by kernel_rfl) (R := N171 t0 t1 t2 t3 w K X) (by kernel_rfl) h

/-- (*bellows/heap.Heap).Get -/
def N172 (t0 t1 t2 : Value) (w : World) (K : Value → World → Prop) (X : List PanicEntry → World → Prop) : Prop :=
  CAL Tryz.prog 208 #[t0, t1, t2, (.bool false)] w (fun t11 w1 =>
    UN .not t11 fun t12 =>
    CND t12 (
      K (.tuple #[(.int .u64 0), (.int .i64 1)]) w1) (
      NC t0 fun t14 =>
      FA 0 t14 fun t15 =>
      LD w1 t15 fun t16 =>
      BIN .int .add t1 (.int .i64 1) fun t18 =>
      BIN .int .add t18 t2 fun t20 =>
      IA 1 t16 t20 fun t21 =>
      LD w1 t21 fun t22 =>
      K (.tuple #[t22, (.int .i64 0)]) w1)) X
def plan172 : Plan := .seq (.reg (.op 0 false (.op 1 false .nil))) (.seq (.seq (.reg (.sq 0 5 .nil)) (.cond (.seq (.reg (.op 0 false (.op 1 false .nil))) (.leaf)) (.leaf))) (.seq (.reg (.sq 0 12 .nil)) (.leaf)))
theorem chk172 : chkC Tryz.prog (codeOf Tryz.f172) plan172 = true := by kernel_rfl
theorem n172 {t0 t1 t2 : Value} {w : World} {K : Value → World → Prop} {X : List PanicEntry → World → Prop} (h : N172 t0 t1 t2 w K X) : CAL Tryz.prog 172 #[t0, t1, t2] w K X :=
  cal (args := [t0, t1, t2]) plan172 Tryz.func172 rfl chk172 (by kernel_rfl) (R := N172 t0 t1 t2 w K X) (by kernel_rfl) h

end Go.Proofs.YtgnfodphfgmdlaaGreat
/- The contracts of package word. -/
namespace Go.Proofs.YtgnfodphfgmdlaaGreat
open Go Go.GX

section
variable {w : World} {K : Value → World → Prop} {X : List PanicEntry → World → Prop}

theorem c20 (n : Int) (h : K (.int .i64 (wWrap n)) w) : CAL Tryz.prog 20 #[.int .i64 n] w K X := n20 <| by
  unfold N20
  rw [show (Value.int .u64 1) = .int .u64 ((1 : Nat) : Int) from rfl, BIN_shlI _ _ _ (by omega), BIN_shrI _ _ _ (by omega)]
  have : IntKind.i64.wrap (n * 2 ^ 1) / 2 ^ 1 = wWrap n := by rw [IntKind.wrap_i64]; unfold wWrap; omega
  rw [this]; exact h

theorem c89 (n : Int) (h : K (.int .u64 (wImm n)) w) : CAL Tryz.prog 89 #[.int .i64 n] w K X := n89 <| by
  unfold N89
  rw [CNV_int, wrapU, show (Value.int .u64 1) = .int .u64 ((1 : Nat) : Int) from rfl, BIN_shlU _ _ _ (by omega), BIN_orU _ _ (by omega) (by omega)]
  have : ((n % 18446744073709551616 * 2 ^ 1 % 18446744073709551616).toNat ||| ((1 : Nat) : Int).toNat) = wImm n := by
    have h1 : (n % 18446744073709551616 * 2 ^ 1 % 18446744073709551616).toNat = (n % 9223372036854775808).toNat * 2 ^ 1 := by omega
    rw [h1, show ((1 : Nat) : Int).toNat = 1 from rfl, or_eq_add _ _ _ (by omega)]
    unfold wImm; omega
  rw [this]; exact h

theorem c153 (x : Nat) (hx : W64 x) (h : K (.bool (decide (x % 2 = 1))) w) : CAL Tryz.prog 153 #[.int .u64 x] w K X := n153 <| by
  unfold N153 W64 at *
  rw [BIN_andU _ _ (by omega) (by omega), BIN_eql]
  have : decide (((((x : Int).toNat &&& (1 : Int).toNat : Nat)) : Int) = 1) = decide (x % 2 = 1) := by
    rw [show (1 : Int).toNat = 1 from rfl, Int.toNat_natCast, Nat.and_one_is_mod]
    congr 1; apply propext; omega
  rw [this]; exact h

theorem c154 (x : Nat) (hx : W64 x) (h : K (.int .i64 (wInt x)) w) : CAL Tryz.prog 154 #[.int .u64 x] w K X := n154 <| by
  unfold N154 W64 at *
  rw [CNV_int, show (Value.int .u64 1) = .int .u64 ((1 : Nat) : Int) from rfl, BIN_shrI _ _ _ (by omega)]
  have : IntKind.i64.wrap (x : Int) / 2 ^ 1 = wInt x := by
    rw [IntKind.wrap_i64]; unfold wInt; split <;> omega
  rw [this]; exact h

theorem c156 (x : Nat) (hx : W64 x) (h : K (.int .i64 ((x / 2 : Nat) : Int)) w) : CAL Tryz.prog 156 #[.int .u64 x] w K X := n156 <| by
  unfold N156 W64 at *
  rw [show (Value.int .u64 1) = .int .u64 ((1 : Nat) : Int) from rfl, BIN_shrU _ _ _ (by omega), CNV_int, wrap64 _ (by omega)]
  have : (x : Int) / 2 ^ 1 = ((x / 2 : Nat) : Int) := by omega
  rw [this]; exact h

theorem c165 (n : Nat) (hn : n < 9223372036854775808) (h : K (.int .u64 ((2 * n : Nat) : Int)) w) : CAL Tryz.prog 165 #[.int .i64 n] w K X := n165 <| by
  unfold N165
  rw [CNV_int, wrapU, show (Value.int .u64 1) = .int .u64 ((1 : Nat) : Int) from rfl, BIN_shlU _ _ _ (by omega), BIN_orU _ _ (by omega) (by omega)]
  have : (((n : Int) % 18446744073709551616 * 2 ^ 1 % 18446744073709551616).toNat ||| (0 : Int).toNat) = 2 * n := by
    rw [show (0 : Int).toNat = 0 from rfl, Nat.or_zero]; omega
  rw [this]; exact h

theorem c202 (x : Nat) (hx : W64 x) (h : K (.int .i64 (wShape x)) w) : CAL Tryz.prog 202 #[.int .u64 x] w K X := n202 <| by
  unfold N202 W64 at *
  rw [show (Value.int .u64 1) = .int .u64 ((1 : Nat) : Int) from rfl, BIN_shrU _ _ _ (by omega), BIN_andU _ _ (by omega) (by omega), CNV_int]
  have : ((x : Int) / 2 ^ 1).toNat &&& (1048575 : Int).toNat = wShape x := by
    rw [show (1048575 : Int).toNat = 2 ^ 20 - 1 from rfl, and_mask]; unfold wShape; omega
  rw [this, wrap64 _ (by unfold wShape; omega)]; exact h

theorem c210 (x : Nat) (hx : W64 x) (h : K (.int .i64 (wLen x)) w) : CAL Tryz.prog 210 #[.int .u64 x] w K X := n210 <| by
  unfold N210 W64 at *
  rw [show (Value.int .u64 21) = .int .u64 ((21 : Nat) : Int) from rfl, BIN_shrU _ _ _ (by omega), BIN_andU _ _ (by omega) (by omega), CNV_int]
  have : ((x : Int) / 2 ^ 21).toNat &&& (1048575 : Int).toNat = wLen x := by
    rw [show (1048575 : Int).toNat = 2 ^ 20 - 1 from rfl, and_mask]; unfold wLen; omega
  rw [this, wrap64 _ (by unfold wLen; omega)]; exact h

theorem c222 (s n : Nat) (hs : s < 9223372036854775808) (hn : n < 9223372036854775808) (h : K (.int .u64 (wHead s n)) w) : CAL Tryz.prog 222 #[.int .i64 s, .int .i64 n] w K X := n222 <| by
  unfold N222
  rw [CNV_int, wrapU_lt _ (by omega), BIN_andU _ _ (by omega) (by omega)]
  have e1 : ∀ a : Nat, ((a : Int).toNat &&& (1048575 : Int).toNat) = a % 1048576 := fun a => by
    rw [show (1048575 : Int).toNat = 2 ^ 20 - 1 from rfl, and_mask]; rfl
  rw [e1, show (Value.int .u64 1) = .int .u64 ((1 : Nat) : Int) from rfl, BIN_shlU _ _ _ (by omega), CNV_int, wrapU_lt _ (by omega), BIN_andU _ _ (by omega) (by omega), e1,
    show (Value.int .u64 21) = .int .u64 ((21 : Nat) : Int) from rfl, BIN_shlU _ _ _ (by omega), BIN_orU _ _ (by omega) (by omega)]
  have e2 : ((((s % 1048576 : Nat) : Int) * 2 ^ 1 % 18446744073709551616).toNat ||| (((n % 1048576 : Nat) : Int) * 2 ^ 21 % 18446744073709551616).toNat) = n % 1048576 * 2097152 + s % 1048576 * 2 := by
    have h1 : (((n % 1048576 : Nat) : Int) * 2 ^ 21 % 18446744073709551616).toNat = n % 1048576 * 2 ^ 21 := by omega
    have h2 : (((s % 1048576 : Nat) : Int) * 2 ^ 1 % 18446744073709551616).toNat = s % 1048576 * 2 := by omega
    rw [h1, h2, Nat.or_comm, or_eq_add _ _ _ (by omega)]
  rw [e2, BIN_orU _ _ (by omega) (by omega)]
  have e3 : (((n % 1048576 * 2097152 + s % 1048576 * 2 : Nat) : Int).toNat ||| ((1 : Nat) : Int).toNat) = wHead s n := by
    have h1 : ((n % 1048576 * 2097152 + s % 1048576 * 2 : Nat) : Int).toNat = (n % 1048576 * 1048576 + s % 1048576) * 2 ^ 1 := by omega
    rw [h1, show ((1 : Nat) : Int).toNat = 1 from rfl, or_eq_add _ _ _ (by omega)]
    unfold wHead; omega
  rw [e3]; exact h

def I63 (n : Int) : Prop := -4611686018427387904 ≤ n ∧ n < 4611686018427387904

theorem c158 (a b : Int) (h : K (.int .i64 (wWrap (a + b))) w) : CAL Tryz.prog 158 #[.int .i64 a, .int .i64 b] w K X := n158 <| by
  unfold N158
  rw [BIN_add]
  refine c20 _ ?_
  have : wWrap (IntKind.i64.wrap (a + b)) = wWrap (a + b) := by rw [IntKind.wrap_i64]; unfold wWrap; omega
  rw [this]; exact h

theorem c159 (a b : Int) (h : K (.int .i64 (wWrap (a - b))) w) : CAL Tryz.prog 159 #[.int .i64 a, .int .i64 b] w K X := n159 <| by
  unfold N159
  rw [BIN_sub]
  refine c20 _ ?_
  have : wWrap (IntKind.i64.wrap (a - b)) = wWrap (a - b) := by rw [IntKind.wrap_i64]; unfold wWrap; omega
  rw [this]; exact h

theorem c160 (a b : Int) (h : K (.int .i64 (wWrap (a * b))) w) : CAL Tryz.prog 160 #[.int .i64 a, .int .i64 b] w K X := n160 <| by
  unfold N160
  rw [BIN_mul]
  refine c20 _ ?_
  have : wWrap (IntKind.i64.wrap (a * b)) = wWrap (a * b) := by
    generalize a * b = m
    rw [IntKind.wrap_i64]; unfold wWrap; omega
  rw [this]; exact h

theorem tdiv_in (a b : Int) (ha : I63 a) : -4611686018427387904 ≤ a.tdiv b ∧ a.tdiv b ≤ 4611686018427387904 := by
  have h := Int.natAbs_tdiv_le_natAbs a b
  unfold I63 at ha; omega

theorem tmod_in (a b : Int) (ha : I63 a) : -4611686018427387904 ≤ a.tmod b ∧ a.tmod b ≤ 4611686018427387904 := by
  have h : (a.tmod b).natAbs ≤ a.natAbs := by rw [Int.natAbs_tmod]; exact Nat.mod_le _ _
  unfold I63 at ha; omega

theorem c161 (a b : Int) (ha : I63 a) (h : if b = 0 then K (.tuple #[.int .i64 0, .bool false]) w else K (.tuple #[.int .i64 (wWrap (wQuo a b)), .bool true]) w) :
    CAL Tryz.prog 161 #[.int .i64 a, .int .i64 b] w K X := n161 <| by
  unfold N161
  rw [BIN_eql, CND_bool]
  by_cases hb : b = 0
  · rw [if_pos hb] at h; rw [if_pos (by simpa using hb)]; exact h
  · rw [if_neg hb] at h
    rw [if_neg (by simpa using hb), BIN_quo]
    refine ⟨hb, ?_⟩
    have hq := tdiv_in a b ha
    rw [wrap64 _ (by omega), JOIN_eq, BIN_rem]
    refine ⟨hb, ?_⟩
    rw [BIN_neq]
    refine GRP_and_pure (u := decide (a < 0) != decide (b < 0)) (fun _ => by simp only [BIN_lss, BIN_boolneq]; rfl) ?_
    rw [CND_bool]
    have key : (!decide (a.tmod b = 0) && (decide (a < 0) != decide (b < 0))) = true ↔ (a.tmod b ≠ 0 ∧ (decide (a < 0) != decide (b < 0)) = true) := by
      rw [Bool.and_eq_true]; simp
    by_cases hc : a.tmod b ≠ 0 ∧ (decide (a < 0) != decide (b < 0)) = true
    · rw [if_pos (key.2 hc), BIN_sub, wrap64 _ (by omega)]
      refine c20 _ ?_
      unfold wQuo at h; rw [if_pos hc] at h; exact h
    · rw [if_neg (fun h => hc (key.1 h))]
      refine c20 _ ?_
      unfold wQuo at h; rw [if_neg hc] at h; exact h

theorem c162 (a b : Int) (ha : I63 a) (hb' : I63 b) (h : if b = 0 then K (.tuple #[.int .i64 0, .bool false]) w else K (.tuple #[.int .i64 (wWrap (wRem a b)), .bool true]) w) :
    CAL Tryz.prog 162 #[.int .i64 a, .int .i64 b] w K X := n162 <| by
  unfold N162
  rw [BIN_eql, CND_bool]
  by_cases hb : b = 0
  · rw [if_pos hb] at h; rw [if_pos (by simpa using hb)]; exact h
  · rw [if_neg hb] at h
    rw [if_neg (by simpa using hb), BIN_rem]
    refine ⟨hb, ?_⟩
    have hq := tmod_in a b ha
    rw [JOIN_eq, BIN_neq]
    refine GRP_and_pure (u := decide (a.tmod b < 0) != decide (b < 0)) (fun _ => by simp only [BIN_lss, BIN_boolneq]; rfl) ?_
    rw [CND_bool]
    have key : (!decide (a.tmod b = 0) && (decide (a.tmod b < 0) != decide (b < 0))) = true ↔ (a.tmod b ≠ 0 ∧ (decide (a.tmod b < 0) != decide (b < 0)) = true) := by
      rw [Bool.and_eq_true]; simp
    unfold I63 at hb'
    by_cases hc : a.tmod b ≠ 0 ∧ (decide (a.tmod b < 0) != decide (b < 0)) = true
    · rw [if_pos (key.2 hc), BIN_add, wrap64 _ (by omega)]
      refine c20 _ ?_
      unfold wRem at h; rw [if_pos hc] at h; exact h
    · rw [if_neg (fun h => hc (key.1 h))]
      refine c20 _ ?_
      unfold wRem at h; rw [if_neg hc] at h; exact h

end
end Go.Proofs.YtgnfodphfgmdlaaGreat
