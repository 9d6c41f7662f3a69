/- VmDeep answers true at every input and leaves its arguments as they were; no condition: text 10 of 12. -/
import Derived.Test.YtgnfodphfgmdlaaGreatDeep09
set_option linter.all false
/- The plain forms of functions of the program, printed by a program of this session (gen.py) and checked by the kernel against the loaded code. -/
namespace Go.Proofs.YtgnfodphfgmdlaaGreat
open Go Go.GX
set_option maxRecDepth 100000

/-- bellows/bellowslaw06.VmTurned -/
def N3 (t0 t1 : Value) (w : World) (K : Value → World → Prop) (X : List PanicEntry → World → Prop) : Prop :=
  BOX t0 33 w fun t2 w1 =>
  BOX t1 37 w1 fun t3 w2 =>
  FA 0 t2 fun t5 =>
  LDN 7 w2.drew t5 fun t6 =>
  FA 7 t2 fun t7 =>
  LDN 9 w2.drew t7 fun t8 =>
  FA 16 t2 fun t9 =>
  LD w2.drew t9 fun t10 =>
  LDN 5 w2.drew t3 fun t12 =>
  CAL Tryz.prog 14 #[t6, t8, t10] w2.drew (fun t11 w3 =>
    (Keeps w2.drew w3 ∧ (
    CAL Tryz.prog 13 #[t11, t12] w3 (fun t13 w4 =>
      K t13 w4) X))) X
def plan3 : Plan := .seq (.reg (.sq 0 3 .nil)) (.seq (.reg (.sq 0 6 (.op 7 false (.op 6 true (.op 8 false (.op 9 false .nil)))))) (.leaf))
theorem chk3 : chkC Tryz.prog (codeOf Tryz.f3) plan3 = true := by kernel_rfl
theorem n3 {t0 t1 : Value} {w : World} {K : Value → World → Prop} {X : List PanicEntry → World → Prop} (h : N3 t0 t1 w K X) : CAL Tryz.prog 3 #[t0, t1] w K X :=
  cal (args := [t0, t1]) plan3 Tryz.func3 rfl chk3 (by kernel_rfl) (R := N3 t0 t1 w K X) (by kernel_rfl) h

/-- bellows/bellowslaw06.VmStuck -/
def N4 (t0 t1 : Value) (w : World) (K : Value → World → Prop) (X : List PanicEntry → World → Prop) : Prop :=
  BOX t0 27 w fun t2 w1 =>
  BOX t1 37 w1 fun t3 w2 =>
  LDN 7 w2 t2 fun t6 =>
  CAL Tryz.prog 15 #[t6] w2 (fun t7 w3 =>
    UN .not t7 fun t8 =>
    CND t8 (
      CAL Tryz.prog 16 #[] w3 (fun t9 w4 =>
        K t9 w4) X) (
      LDN 7 w3.drew t2 fun t10 =>
      LDN 5 w3.drew t3 fun t11 =>
      (
        CAL Tryz.prog 18 #[t11] w3.drew (fun t12 w5 =>
          (Keeps w3.drew w5 ∧ (
          (
            CAL Tryz.prog 17 #[t10, t12] w5 (fun t13 w6 =>
              AL Tryz.prog 44 w6 fun t5 w7 =>
              (Keeps w6 w7 ∧ (
              ST 5 w7 t5 t13 fun w8 =>
              FA 0 t5 fun t14 =>
              LD w8 t14 fun t15 =>
              BIN .int .neq t15 (.int .i64 6) fun t16 =>
              GRP t16 true (.bool false) w8 (fun J =>
                FA 0 t5 fun t18 =>
                LD w8 t18 fun t19 =>
                BIN .int .geq t19 (.int .i64 1) fun t20 =>
                J t20 w8)
               (fun t21 w9 =>
                GRP t21 true (.bool false) w9 (fun J_1 =>
                  FA 0 t5 fun t23 =>
                  LD w9 t23 fun t24 =>
                  BIN .int .leq t24 (.int .i64 5) fun t25 =>
                  J_1 t25 w9)
                 (fun t26 w10 =>
                  GRP t26 true (.bool false) w10 (fun J_2 =>
                    FA 2 t5 fun t28 =>
                    LD w10 t28 fun t29 =>
                    BIN .str .eql t29 (.string ⟨#[]⟩) fun t30 =>
                    GRP t30 false (.bool true) w10 (fun J_3 =>
                      FA 0 t5 fun t32 =>
                      LD w10 t32 fun t33 =>
                      BIN .int .eql t33 (.int .i64 2) fun t34 =>
                      J_3 t34 w10)
                     (fun t35 w12 =>
                      J_2 t35 w12))
                   (fun t36 w11 =>
                    GRP t36 true (.bool false) w11 (fun J_4 =>
                      CAL Tryz.prog 16 #[] w11 (fun t38 w14 =>
                        J_4 t38 w14) X)
                     (fun t39 w13 =>
                      K t39 w13))))))) X) ∧ (
            AL Tryz.prog 44 w5 fun t5_1 w15 =>
            (Keeps w5 w15 ∧ (
            CAL Tryz.prog 17 #[t10, t12] w15 (fun t13_1 w16 =>
              ST 5 w16 t5_1 t13_1 fun w17 =>
              FA 0 t5_1 fun t14_1 =>
              LD w17 t14_1 fun t15_1 =>
              BIN .int .neq t15_1 (.int .i64 6) fun t16_1 =>
              GRP t16_1 true (.bool false) w17 (fun J_5 =>
                FA 0 t5_1 fun t18_1 =>
                LD w17 t18_1 fun t19_1 =>
                BIN .int .geq t19_1 (.int .i64 1) fun t20_1 =>
                J_5 t20_1 w17)
               (fun t21_1 w18 =>
                GRP t21_1 true (.bool false) w18 (fun J_6 =>
                  FA 0 t5_1 fun t23_1 =>
                  LD w18 t23_1 fun t24_1 =>
                  BIN .int .leq t24_1 (.int .i64 5) fun t25_1 =>
                  J_6 t25_1 w18)
                 (fun t26_1 w19 =>
                  GRP t26_1 true (.bool false) w19 (fun J_7 =>
                    FA 2 t5_1 fun t28_1 =>
                    LD w19 t28_1 fun t29_1 =>
                    BIN .str .eql t29_1 (.string ⟨#[]⟩) fun t30_1 =>
                    GRP t30_1 false (.bool true) w19 (fun J_8 =>
                      FA 0 t5_1 fun t32_1 =>
                      LD w19 t32_1 fun t33_1 =>
                      BIN .int .eql t33_1 (.int .i64 2) fun t34_1 =>
                      J_8 t34_1 w19)
                     (fun t35_1 w21 =>
                      J_7 t35_1 w21))
                   (fun t36_1 w20 =>
                    GRP t36_1 true (.bool false) w20 (fun J_9 =>
                      CAL Tryz.prog 16 #[] w20 (fun t38_1 w23 =>
                        J_9 t38_1 w23) X)
                     (fun t39_1 w22 =>
                      K t39_1 w22))))) X)))))) X) ∧ (
        AL Tryz.prog 44 w3.drew fun t5_2 w24 =>
        (Keeps w3.drew w24 ∧ (
        CAL Tryz.prog 18 #[t11] w24 (fun t12_1 w25 =>
          (Keeps w24 w25 ∧ (
          CAL Tryz.prog 17 #[t10, t12_1] w25 (fun t13_2 w26 =>
            ST 5 w26 t5_2 t13_2 fun w27 =>
            FA 0 t5_2 fun t14_2 =>
            LD w27 t14_2 fun t15_2 =>
            BIN .int .neq t15_2 (.int .i64 6) fun t16_2 =>
            GRP t16_2 true (.bool false) w27 (fun J_10 =>
              FA 0 t5_2 fun t18_2 =>
              LD w27 t18_2 fun t19_2 =>
              BIN .int .geq t19_2 (.int .i64 1) fun t20_2 =>
              J_10 t20_2 w27)
             (fun t21_2 w28 =>
              GRP t21_2 true (.bool false) w28 (fun J_11 =>
                FA 0 t5_2 fun t23_2 =>
                LD w28 t23_2 fun t24_2 =>
                BIN .int .leq t24_2 (.int .i64 5) fun t25_2 =>
                J_11 t25_2 w28)
               (fun t26_2 w29 =>
                GRP t26_2 true (.bool false) w29 (fun J_12 =>
                  FA 2 t5_2 fun t28_2 =>
                  LD w29 t28_2 fun t29_2 =>
                  BIN .str .eql t29_2 (.string ⟨#[]⟩) fun t30_2 =>
                  GRP t30_2 false (.bool true) w29 (fun J_13 =>
                    FA 0 t5_2 fun t32_2 =>
                    LD w29 t32_2 fun t33_2 =>
                    BIN .int .eql t33_2 (.int .i64 2) fun t34_2 =>
                    J_13 t34_2 w29)
                   (fun t35_2 w31 =>
                    J_12 t35_2 w31))
                 (fun t36_2 w30 =>
                  GRP t36_2 true (.bool false) w30 (fun J_14 =>
                    CAL Tryz.prog 16 #[] w30 (fun t38_2 w33 =>
                      J_14 t38_2 w33) X)
                   (fun t39_2 w32 =>
                    K t39_2 w32))))) X))) X))))) X
def plan4 : Plan := .seq (.reg (.sq 0 3 .nil)) (.seq (.seq (.reg (.sq 0 3 .nil)) (.cond (.seq (.reg (.op 0 false (.op 1 false .nil))) (.leaf)) (.leaf))) (.seq (.reg (.op 0 false (.op 1 false (.alt 2 true (.alt 3 false (.op 4 true (.op 5 false .nil)) (.op 4 true (.op 3 false (.op 5 false .nil)))) (.op 4 true (.op 2 true (.op 3 false (.op 5 false .nil)))))))) (.seq (.reg (.sq 0 4 (.grp 3 true (.sq 4 3 .nil) 7 (.op 8 false (.grp 8 true (.sq 9 3 .nil) 12 (.op 13 false (.grp 13 true (.sq 14 4 (.grp 17 false (.sq 18 3 .nil) 21 .nil)) 22 (.op 23 false (.grp 23 true (.op 24 false .nil) 25 (.op 26 false .nil)))))))))) (.leaf))))
theorem chk4 : chkC Tryz.prog (codeOf Tryz.f4) plan4 = true := by kernel_rfl
theorem n4 {t0 t1 : Value} {w : World} {K : Value → World → Prop} {X : List PanicEntry → World → Prop} (h : N4 t0 t1 w K X) : CAL Tryz.prog 4 #[t0, t1] w K X :=
  cal (args := [t0, t1]) plan4 Tryz.func4 rfl chk4 (by kernel_rfl) (R := N4 t0 t1 w K X) (by kernel_rfl) h

/-- bellows/bellowslaw06.VmSwept -/
def N5 (t0 t1 t2 : Value) (w : World) (K : Value → World → Prop) (X : List PanicEntry → World → Prop) : Prop :=
  BOX t0 27 w fun t3 w1 =>
  BOX t1 37 w1 fun t4 w2 =>
  LDN 7 w2 t3 fun t10 =>
  CAL Tryz.prog 15 #[t10] w2 (fun t11 w3 =>
    UN .not t11 fun t12 =>
    CND t12 (
      CAL Tryz.prog 16 #[] w3 (fun t13 w4 =>
        K t13 w4) X) (
      LDN 5 w3 t4 fun t14 =>
      CAL Tryz.prog 18 #[t14] w3 (fun t15 w5 =>
        ST 5 w5 t4 t15 fun w6 =>
        LDN 7 w6 t3 fun t16 =>
        LDN 5 w6 t4 fun t17 =>
        CAL Tryz.prog 17 #[t16, t17] w6 (fun t18 w7 =>
          AL Tryz.prog 44 w7 fun t7 w8 =>
          ST 5 w8 t7 t18 fun w9 =>
          FA 4 t4 fun t20 =>
          ST 1 w9 t20 t2 fun w10 =>
          LDN 7 w10.drew t3 fun t21 =>
          LDN 5 w10.drew t4 fun t22 =>
          (
            CAL Tryz.prog 18 #[t22] w10.drew (fun t23 w11 =>
              (Keeps w10.drew w11 ∧ (
              (
                CAL Tryz.prog 17 #[t21, t23] w11 (fun t24 w12 =>
                  AL Tryz.prog 44 w12 fun t8 w13 =>
                  (Keeps w12 w13 ∧ (
                  ST 5 w13 t8 t24 fun w14 =>
                  FA 4 t4 fun t25 =>
                  ST 1 w14 t25 (.slice none 0 0) fun w15 =>
                  LDN 7 w15 t3 fun t26 =>
                  LDN 5 w15 t4 fun t27 =>
                  CAL Tryz.prog 17 #[t26, t27] w15 (fun t28 w16 =>
                    AL Tryz.prog 44 w16 fun t9 w17 =>
                    ST 5 w17 t9 t28 fun w18 =>
                    FA 4 t7 fun t29 =>
                    LD w18.drew t29 fun t30 =>
                    FA 4 t7 fun t31 =>
                    LD w18.drew t31 fun t32 =>
                    FA 4 t8 fun t33 =>
                    ST 1 w18.drew t33 t30 fun w19 =>
                    (Keeps w18.drew w19 ∧ (
                    FA 4 t9 fun t34 =>
                    ST 1 w19 t34 t32 fun w20 =>
                    LDN 5 w20 t7 fun t35 =>
                    LDN 5 w20 t8 fun t36 =>
                    CAL Tryz.prog 19 #[t35, t36] w20 (fun t37 w21 =>
                      GRP t37 true (.bool false) w21 (fun J =>
                        LDN 5 w21 t7 fun t39 =>
                        LDN 5 w21 t9 fun t40 =>
                        CAL Tryz.prog 19 #[t39, t40] w21 (fun t41 w23 =>
                          J t41 w23) X)
                       (fun t42 w22 =>
                        GRP t42 true (.bool false) w22 (fun J_1 =>
                          CAL Tryz.prog 16 #[] w22 (fun t44 w25 =>
                            J_1 t44 w25) X)
                         (fun t45 w24 =>
                          K t45 w24))) X))) X))) X) ∧ (
                AL Tryz.prog 44 w11 fun t8_1 w26 =>
                (Keeps w11 w26 ∧ (
                CAL Tryz.prog 17 #[t21, t23] w26 (fun t24_1 w27 =>
                  ST 5 w27 t8_1 t24_1 fun w28 =>
                  FA 4 t4 fun t25_1 =>
                  ST 1 w28 t25_1 (.slice none 0 0) fun w29 =>
                  LDN 7 w29 t3 fun t26_1 =>
                  LDN 5 w29 t4 fun t27_1 =>
                  CAL Tryz.prog 17 #[t26_1, t27_1] w29 (fun t28_1 w30 =>
                    AL Tryz.prog 44 w30 fun t9_1 w31 =>
                    ST 5 w31 t9_1 t28_1 fun w32 =>
                    FA 4 t7 fun t29_1 =>
                    LD w32.drew t29_1 fun t30_1 =>
                    FA 4 t7 fun t31_1 =>
                    LD w32.drew t31_1 fun t32_1 =>
                    FA 4 t8_1 fun t33_1 =>
                    ST 1 w32.drew t33_1 t30_1 fun w33 =>
                    (Keeps w32.drew w33 ∧ (
                    FA 4 t9_1 fun t34_1 =>
                    ST 1 w33 t34_1 t32_1 fun w34 =>
                    LDN 5 w34 t7 fun t35_1 =>
                    LDN 5 w34 t8_1 fun t36_1 =>
                    CAL Tryz.prog 19 #[t35_1, t36_1] w34 (fun t37_1 w35 =>
                      GRP t37_1 true (.bool false) w35 (fun J_2 =>
                        LDN 5 w35 t7 fun t39_1 =>
                        LDN 5 w35 t9_1 fun t40_1 =>
                        CAL Tryz.prog 19 #[t39_1, t40_1] w35 (fun t41_1 w37 =>
                          J_2 t41_1 w37) X)
                       (fun t42_1 w36 =>
                        GRP t42_1 true (.bool false) w36 (fun J_3 =>
                          CAL Tryz.prog 16 #[] w36 (fun t44_1 w39 =>
                            J_3 t44_1 w39) X)
                         (fun t45_1 w38 =>
                          K t45_1 w38))) X))) X) X)))))) X) ∧ (
            AL Tryz.prog 44 w10.drew fun t8_2 w40 =>
            (Keeps w10.drew w40 ∧ (
            CAL Tryz.prog 18 #[t22] w40 (fun t23_1 w41 =>
              (Keeps w40 w41 ∧ (
              CAL Tryz.prog 17 #[t21, t23_1] w41 (fun t24_2 w42 =>
                ST 5 w42 t8_2 t24_2 fun w43 =>
                FA 4 t4 fun t25_2 =>
                ST 1 w43 t25_2 (.slice none 0 0) fun w44 =>
                LDN 7 w44 t3 fun t26_2 =>
                LDN 5 w44 t4 fun t27_2 =>
                CAL Tryz.prog 17 #[t26_2, t27_2] w44 (fun t28_2 w45 =>
                  AL Tryz.prog 44 w45 fun t9_2 w46 =>
                  ST 5 w46 t9_2 t28_2 fun w47 =>
                  FA 4 t7 fun t29_2 =>
                  LD w47.drew t29_2 fun t30_2 =>
                  FA 4 t7 fun t31_2 =>
                  LD w47.drew t31_2 fun t32_2 =>
                  FA 4 t8_2 fun t33_2 =>
                  ST 1 w47.drew t33_2 t30_2 fun w48 =>
                  (Keeps w47.drew w48 ∧ (
                  FA 4 t9_2 fun t34_2 =>
                  ST 1 w48 t34_2 t32_2 fun w49 =>
                  LDN 5 w49 t7 fun t35_2 =>
                  LDN 5 w49 t8_2 fun t36_2 =>
                  CAL Tryz.prog 19 #[t35_2, t36_2] w49 (fun t37_2 w50 =>
                    GRP t37_2 true (.bool false) w50 (fun J_4 =>
                      LDN 5 w50 t7 fun t39_2 =>
                      LDN 5 w50 t9_2 fun t40_2 =>
                      CAL Tryz.prog 19 #[t39_2, t40_2] w50 (fun t41_2 w52 =>
                        J_4 t41_2 w52) X)
                     (fun t42_2 w51 =>
                      GRP t42_2 true (.bool false) w51 (fun J_5 =>
                        CAL Tryz.prog 16 #[] w51 (fun t44_2 w54 =>
                          J_5 t44_2 w54) X)
                       (fun t45_2 w53 =>
                        K t45_2 w53))) X))) X) X))) X)))) X) X)) X
def plan5 : Plan := .seq (.reg (.sq 0 3 .nil)) (.seq (.seq (.reg (.sq 0 3 .nil)) (.cond (.seq (.reg (.op 0 false (.op 1 false .nil))) (.leaf)) (.leaf))) (.seq (.reg (.sq 0 3 .nil)) (.seq (.reg (.sq 0 5 .nil)) (.seq (.reg (.sq 0 3 .nil)) (.seq (.reg (.op 0 false (.op 1 false (.alt 2 true (.alt 3 false (.op 4 true (.op 5 false .nil)) (.op 4 true (.op 3 false (.op 5 false .nil)))) (.op 4 true (.op 2 true (.op 3 false (.op 5 false .nil)))))))) (.seq (.reg (.op 0 false (.op 1 false .nil))) (.seq (.reg (.sq 0 5 .nil)) (.seq (.reg (.sq 0 5 (.op 5 true (.op 6 false (.op 7 false .nil))))) (.seq (.reg (.sq 0 4 (.grp 3 true (.sq 4 3 .nil) 7 (.op 8 false (.grp 8 true (.op 9 false .nil) 10 (.op 11 false .nil)))))) (.leaf))))))))))
theorem chk5 : chkC Tryz.prog (codeOf Tryz.f5) plan5 = true := by kernel_rfl
theorem n5 {t0 t1 t2 : Value} {w : World} {K : Value → World → Prop} {X : List PanicEntry → World → Prop} (h : N5 t0 t1 t2 w K X) : CAL Tryz.prog 5 #[t0, t1, t2] w K X :=
  cal (args := [t0, t1, t2]) plan5 Tryz.func5 rfl chk5 (by kernel_rfl) (R := N5 t0 t1 t2 w K X) (by kernel_rfl) h

/-- bellows/bellowslaw06.VmAlways -/
def N6 (t0 t1 t2 : Value) (w : World) (K : Value → World → Prop) (X : List PanicEntry → World → Prop) : Prop :=
  BOX t0 27 w fun t3 w1 =>
  BOX t1 37 w1 fun t4 w2 =>
  LDN 7 w2 t3 fun t10 =>
  CAL Tryz.prog 15 #[t10] w2 (fun t11 w3 =>
    UN .not t11 fun t12 =>
    CND t12 (
      CAL Tryz.prog 16 #[] w3 (fun t13 w4 =>
        K t13 w4) X) (
      LDN 5 w3 t4 fun t14 =>
      CAL Tryz.prog 18 #[t14] w3 (fun t15 w5 =>
        ST 5 w5 t4 t15 fun w6 =>
        FA 2 t4 fun t16 =>
        LD w6 t16 fun t17 =>
        MAX [(.int .i64 0), t17] fun t18 =>
        FA 2 t4 fun t19 =>
        ST 1 w6 t19 t18 fun w7 =>
        RUN Tryz.prog (Instr.makeSlice 35 (.int .i64 3000) (.int .i64 3000)) w7 fun t20 w8 =>
        FA 4 t4 fun t21 =>
        ST 1 w8 t21 t20 fun w9 =>
        FA 4 t4 fun t22 =>
        LD w9 t22 fun t23 =>
        LEN (.sl 1) t23 fun t24 =>
        LOOP1 (.int .i64 0) w9 fun t25 w10 back =>
          BIN .int .lss t25 t24 fun t26 =>
          CND t26 (
            FA 4 t4 fun t28 =>
            LD w10 t28 fun t29 =>
            IA 1 t29 t25 fun t31 =>
            ST 1 w10 t31 (.bool true) fun w11 =>
            BIN .int .add t25 (.int .i64 1) fun t32 =>
            back t32 w11) (
            LDN 7 w10 t3 fun t33 =>
            LDN 5 w10 t4 fun t34 =>
            CAL Tryz.prog 17 #[t33, t34] w10 (fun t35 w12 =>
              AL Tryz.prog 44 w12 fun t8 w13 =>
              ST 5 w13 t8 t35 fun w14 =>
              FA 2 t4 fun t36 =>
              LD w14 t36 fun t37 =>
              MIN [t2, (.int .i64 1000)] fun t39 =>
              MAX [(.int .i64 0), t39] fun t40 =>
              BIN .int .add t37 t40 fun t41 =>
              FA 2 t4 fun t42 =>
              ST 1 w14 t42 t41 fun w15 =>
              LDN 7 w15 t3 fun t43 =>
              LDN 5 w15 t4 fun t44 =>
              CAL Tryz.prog 17 #[t43, t44] w15 (fun t45 w16 =>
                AL Tryz.prog 44 w16 fun t9 w17 =>
                ST 5 w17 t9 t45 fun w18 =>
                FA 0 t8 fun t46 =>
                LD w18 t46 fun t47 =>
                BIN .int .neq t47 (.int .i64 4) fun t48 =>
                CND t48 (
                  LDN 5 w18 t8 fun t49 =>
                  LDN 5 w18 t9 fun t50 =>
                  CAL Tryz.prog 19 #[t49, t50] w18 (fun t51 w19 =>
                    GRP t51 true (.bool false) w19 (fun J =>
                      CAL Tryz.prog 16 #[] w19 (fun t53 w21 =>
                        J t53 w21) X)
                     (fun t54 w20 =>
                      K t54 w20)) X) (
                  FA 3 t9 fun t55 =>
                  LD w18.drew t55 fun t56 =>
                  FA 3 t8 fun t57 =>
                  LD w18.drew t57 fun t58 =>
                  BIN .int .geq t56 t58 fun t59 =>
                  GRP t59 true (.bool false) w18.drew (fun J_1 =>
                    FA 4 t9 fun t61 =>
                    LD w18.drew t61 fun t62 =>
                    FA 4 t8 fun t63 =>
                    LD w18.drew t63 fun t64 =>
                    BIN .int .geq t62 t64 fun t65 =>
                    J_1 t65 w18.drew)
                   (fun t66 w22 =>
                    GRP t66 true (.bool false) w22 (fun J_2 =>
                      FA 1 t9 fun t68 =>
                      LD w22 t68 fun t69 =>
                      LEN (.sl 1) t69 fun t70 =>
                      FA 1 t8 fun t71 =>
                      LD w22 t71 fun t72 =>
                      LEN (.sl 1) t72 fun t73 =>
                      BIN .int .geq t70 t73 fun t74 =>
                      J_2 t74 w22)
                     (fun t75 w23 =>
                      GRP t75 true (.bool false) w23 (fun J_3 =>
                        FA 1 t9 fun t77 =>
                        LD w23 t77 fun t78 =>
                        FA 1 t8 fun t79 =>
                        LD w23 t79 fun t80 =>
                        LEN (.sl 1) t80 fun t81 =>
                        SLC (.sl 1) t78 none (some t81) fun t82 =>
                        FA 1 t8 fun t84 =>
                        LD w23 t84 fun t85 =>
                        (
                          RUN Tryz.prog (convert 34 9 t82) w23 fun t83 w25 =>
                          (Keeps w23 w25 ∧ (
                          RUN Tryz.prog (convert 34 9 t85) w25 fun t86 w26 =>
                          (Keeps w25 w26 ∧ (
                          BIN .str .eql t83 t86 fun t87 =>
                          J_3 t87 w26))))) ∧ (
                          RUN Tryz.prog (convert 34 9 t85) w23 fun t86_1 w27 =>
                          (Keeps w23 w27 ∧ (
                          RUN Tryz.prog (convert 34 9 t82) w27 fun t83_1 w28 =>
                          (Keeps w27 w28 ∧ (
                          BIN .str .eql t83_1 t86_1 fun t87_1 =>
                          J_3 t87_1 w28))))))
                       (fun t88 w24 =>
                        GRP t88 true (.bool false) w24 (fun J_4 =>
                          CAL Tryz.prog 16 #[] w24 (fun t90 w30 =>
                            J_4 t90 w30) X)
                         (fun t91 w29 =>
                          K t91 w29)))))) X) X)) X)) X
def plan6 : Plan := .seq (.reg (.sq 0 3 .nil)) (.seq (.seq (.reg (.sq 0 3 .nil)) (.cond (.seq (.reg (.op 0 false (.op 1 false .nil))) (.leaf)) (.leaf))) (.seq (.reg (.sq 0 3 .nil)) (.seq (.reg (.sq 0 5 .nil)) (.seq (.reg (.sq 0 3 .nil)) (.seq (.seq (.reg (.sq 0 4 .nil)) (.block (.loop [25] [2, 3, 4, 24] (.seq (.reg (.op 0 false .nil)) (.seq (.cond (.leaf) (.leaf)) (.seq (.block (.seq (.reg (.op 0 false (.op 1 false .nil))) (.reg (.sq 0 5 .nil)))) (.reg (.op 0 false (.op 1 false .nil))))))))) (.seq (.reg (.sq 0 5 .nil)) (.seq (.reg (.sq 0 8 .nil)) (.seq (.reg (.sq 0 5 .nil)) (.seq (.seq (.reg (.sq 0 3 .nil)) (.cond (.seq (.reg (.sq 0 4 (.grp 3 true (.op 4 false .nil) 5 (.op 6 false .nil)))) (.leaf)) (.leaf))) (.seq (.reg (.sq 0 6 (.grp 5 true (.sq 6 5 .nil) 11 (.op 12 false (.grp 12 true (.sq 13 7 .nil) 20 (.op 21 false (.grp 21 true (.sq 22 6 (.op 29 false (.op 30 false (.alt 28 true (.op 31 true (.op 32 false .nil)) (.op 31 true (.op 28 true (.op 32 false .nil))))))) 33 (.op 34 false (.grp 34 true (.op 35 false .nil) 36 (.op 37 false .nil)))))))))) (.leaf)))))))))))
theorem chk6 : chkC Tryz.prog (codeOf Tryz.f6) plan6 = true := by kernel_rfl
theorem n6 {t0 t1 t2 : Value} {w : World} {K : Value → World → Prop} {X : List PanicEntry → World → Prop} (h : N6 t0 t1 t2 w K X) : CAL Tryz.prog 6 #[t0, t1, t2] w K X :=
  cal (args := [t0, t1, t2]) plan6 Tryz.func6 rfl chk6 (by kernel_rfl) (R := N6 t0 t1 t2 w K X) (by kernel_rfl) h

/-- bellows/bellowslaw06.VmMore -/
def N7 (t0 t1 t2 : Value) (w : World) (K : Value → World → Prop) (X : List PanicEntry → World → Prop) : Prop :=
  BOX t0 27 w fun t3 w1 =>
  BOX t1 37 w1 fun t4 w2 =>
  BOX t2 50 w2 fun t5 w3 =>
  IAA 2 1 t5 (.int .i64 0) fun t12 =>
  LD w3.drew t12 fun t13 =>
  IAA 2 1 t5 (.int .i64 1) fun t14 =>
  LD w3.drew t14 fun t15 =>
  LDN 7 w3.drew t3 fun t16 =>
  CAL Tryz.prog 15 #[t16] w3.drew (fun t17 w4 =>
    UN .not t17 fun t18 =>
    CND t18 (
      CAL Tryz.prog 16 #[] w4 (fun t19 w5 =>
        K t19 w5) X) (
      LDN 5 w4 t4 fun t20 =>
      CAL Tryz.prog 18 #[t20] w4 (fun t21 w6 =>
        ST 5 w6 t4 t21 fun w7 =>
        LDN 7 w7 t3 fun t22 =>
        LDN 5 w7 t4 fun t23 =>
        CAL Tryz.prog 17 #[t22, t23] w7 (fun t24 w8 =>
          AL Tryz.prog 44 w8 fun t9 w9 =>
          ST 5 w9 t9 t24 fun w10 =>
          LDN 5 w10 t4 fun t25 =>
          AL Tryz.prog 37 w10 fun t10 w11 =>
          ST 5 w11 t10 t25 fun w12 =>
          FA 1 t4 fun t26 =>
          LD w12 t26 fun t27 =>
          MAX [(.int .i64 0), t27] fun t28 =>
          MIN [t13, (.int .i64 3000)] fun t30 =>
          MAX [(.int .i64 0), t30] fun t31 =>
          BIN .int .add t28 t31 fun t32 =>
          FA 1 t10 fun t33 =>
          ST 1 w12 t33 t32 fun w13 =>
          FA 3 t4 fun t34 =>
          LD w13 t34 fun t35 =>
          MIN [t35, (.int .i64 1000)] fun t36 =>
          MAX [(.int .i64 0), t36] fun t37 =>
          MIN [t15, (.int .i64 1000)] fun t39 =>
          MAX [(.int .i64 0), t39] fun t40 =>
          BIN .int .add t37 t40 fun t41 =>
          FA 3 t10 fun t42 =>
          ST 1 w13 t42 t41 fun w14 =>
          JOIN (fun (J : World → Prop) =>
            FA 3 t4 fun t43 =>
            LD w14 t43 fun t44 =>
            BIN .int .gtr t44 (.int .i64 1000) fun t45 =>
            CND t45 (
              FA 3 t4 fun t46 =>
              LD w14 t46 fun t47 =>
              FA 3 t10 fun t48 =>
              ST 1 w14 t48 t47 fun w16 =>
              J  w16) (
              J  w14))
           (fun  w15 =>
            LDN 7 w15 t3 fun t49 =>
            LDN 5 w15 t10 fun t50 =>
            CAL Tryz.prog 17 #[t49, t50] w15 (fun t51 w17 =>
              AL Tryz.prog 44 w17 fun t11 w18 =>
              ST 5 w18 t11 t51 fun w19 =>
              FA 0 t9 fun t52 =>
              LD w19 t52 fun t53 =>
              BIN .int .eql t53 (.int .i64 1) fun t54 =>
              GRP t54 false (.bool true) w19 (fun J_1 =>
                FA 0 t9 fun t56 =>
                LD w19 t56 fun t57 =>
                BIN .int .eql t57 (.int .i64 2) fun t58 =>
                J_1 t58 w19)
               (fun t59 w20 =>
                CND t59 (
                  LDN 5 w20 t9 fun t60 =>
                  LDN 5 w20 t11 fun t61 =>
                  CAL Tryz.prog 19 #[t60, t61] w20 (fun t62 w21 =>
                    GRP t62 true (.bool false) w21 (fun J_2 =>
                      CAL Tryz.prog 16 #[] w21 (fun t64 w23 =>
                        J_2 t64 w23) X)
                     (fun t65 w22 =>
                      K t65 w22)) X) (
                  FA 0 t9 fun t66 =>
                  LD w20 t66 fun t67 =>
                  BIN .int .eql t67 (.int .i64 4) fun t68 =>
                  CND t68 (
                    LDN 5 w20 t9 fun t69 =>
                    LDN 5 w20 t11 fun t70 =>
                    CAL Tryz.prog 19 #[t69, t70] w20 (fun t71 w24 =>
                      GRP t71 true (.bool false) w24 (fun J_3 =>
                        CAL Tryz.prog 16 #[] w24 (fun t73 w26 =>
                          J_3 t73 w26) X)
                       (fun t74 w25 =>
                        K t74 w25)) X) (
                    FA 3 t11 fun t75 =>
                    LD w20.drew t75 fun t76 =>
                    FA 3 t9 fun t77 =>
                    LD w20.drew t77 fun t78 =>
                    BIN .int .geq t76 t78 fun t79 =>
                    GRP t79 true (.bool false) w20.drew (fun J_4 =>
                      FA 1 t11 fun t81 =>
                      LD w20.drew t81 fun t82 =>
                      LEN (.sl 1) t82 fun t83 =>
                      FA 1 t9 fun t84 =>
                      LD w20.drew t84 fun t85 =>
                      LEN (.sl 1) t85 fun t86 =>
                      BIN .int .geq t83 t86 fun t87 =>
                      J_4 t87 w20.drew)
                     (fun t88 w27 =>
                      GRP t88 true (.bool false) w27 (fun J_5 =>
                        FA 1 t11 fun t90 =>
                        LD w27 t90 fun t91 =>
                        FA 1 t9 fun t92 =>
                        LD w27 t92 fun t93 =>
                        LEN (.sl 1) t93 fun t94 =>
                        SLC (.sl 1) t91 none (some t94) fun t95 =>
                        FA 1 t9 fun t97 =>
                        LD w27 t97 fun t98 =>
                        (
                          RUN Tryz.prog (convert 34 9 t95) w27 fun t96 w29 =>
                          (Keeps w27 w29 ∧ (
                          RUN Tryz.prog (convert 34 9 t98) w29 fun t99 w30 =>
                          (Keeps w29 w30 ∧ (
                          BIN .str .eql t96 t99 fun t100 =>
                          J_5 t100 w30))))) ∧ (
                          RUN Tryz.prog (convert 34 9 t98) w27 fun t99_1 w31 =>
                          (Keeps w27 w31 ∧ (
                          RUN Tryz.prog (convert 34 9 t95) w31 fun t96_1 w32 =>
                          (Keeps w31 w32 ∧ (
                          BIN .str .eql t96_1 t99_1 fun t100_1 =>
                          J_5 t100_1 w32))))))
                       (fun t101 w28 =>
                        GRP t101 true (.bool false) w28 (fun J_6 =>
                          FA 0 t9 fun t103 =>
                          LD w28 t103 fun t104 =>
                          BIN .int .neq t104 (.int .i64 3) fun t105 =>
                          GRP t105 false (.bool true) w28 (fun J_7 =>
                            FA 3 t9 fun t107 =>
                            LD w28 t107 fun t108 =>
                            FA 1 t4 fun t109 =>
                            LD w28 t109 fun t110 =>
                            MAX [(.int .i64 0), t110] fun t111 =>
                            BIN .int .eql t108 t111 fun t112 =>
                            J_7 t112 w28)
                           (fun t113 w34 =>
                            J_6 t113 w34))
                         (fun t114 w33 =>
                          GRP t114 true (.bool false) w33 (fun J_8 =>
                            CAL Tryz.prog 16 #[] w33 (fun t116 w36 =>
                              J_8 t116 w36) X)
                           (fun t117 w35 =>
                            K t117 w35)))))))) X)) X) X)) X
def plan7 : Plan := .seq (.reg (.sq 0 4 .nil)) (.seq (.reg (.sq 0 6 .nil)) (.seq (.seq (.reg (.sq 0 3 .nil)) (.cond (.seq (.reg (.op 0 false (.op 1 false .nil))) (.leaf)) (.leaf))) (.seq (.reg (.sq 0 3 .nil)) (.seq (.reg (.sq 0 5 .nil)) (.seq (.reg (.sq 0 3 .nil)) (.seq (.reg (.sq 0 9 .nil)) (.seq (.reg (.sq 0 10 .nil)) (.jseq [] [3, 4, 9, 10] (.seq (.reg (.sq 0 3 .nil)) (.cond (.reg (.sq 0 4 .nil)) (.leaf))) (.seq (.reg (.sq 0 5 .nil)) (.seq (.seq (.reg (.sq 0 4 (.grp 3 false (.sq 4 3 .nil) 7 .nil))) (.cond (.seq (.reg (.sq 0 4 (.grp 3 true (.op 4 false .nil) 5 (.op 6 false .nil)))) (.leaf)) (.leaf))) (.seq (.seq (.reg (.sq 0 3 .nil)) (.cond (.seq (.reg (.sq 0 4 (.grp 3 true (.op 4 false .nil) 5 (.op 6 false .nil)))) (.leaf)) (.leaf))) (.seq (.reg (.sq 0 6 (.grp 5 true (.sq 6 7 .nil) 13 (.op 14 false (.grp 14 true (.sq 15 6 (.op 22 false (.op 23 false (.alt 21 true (.op 24 true (.op 25 false .nil)) (.op 24 true (.op 21 true (.op 25 false .nil))))))) 26 (.op 27 false (.grp 27 true (.sq 28 4 (.grp 31 false (.sq 32 6 .nil) 38 .nil)) 39 (.op 40 false (.grp 40 true (.op 41 false .nil) 42 (.op 43 false .nil)))))))))) (.leaf)))))))))))))
theorem chk7 : chkC Tryz.prog (codeOf Tryz.f7) plan7 = true := by kernel_rfl
theorem n7 {t0 t1 t2 : Value} {w : World} {K : Value → World → Prop} {X : List PanicEntry → World → Prop} (h : N7 t0 t1 t2 w K X) : CAL Tryz.prog 7 #[t0, t1, t2] w K X :=
  cal (args := [t0, t1, t2]) plan7 Tryz.func7 rfl chk7 (by kernel_rfl) (R := N7 t0 t1 t2 w K X) (by kernel_rfl) h

/-- bellows/bellowslaw06.VmSteps -/
def N8 (t0 t1 t2 : Value) (w : World) (K : Value → World → Prop) (X : List PanicEntry → World → Prop) : Prop :=
  BOX t0 27 w fun t3 w1 =>
  BOX t1 37 w1 fun t4 w2 =>
  LDN 7 w2 t3 fun t9 =>
  CAL Tryz.prog 15 #[t9] w2 (fun t10 w3 =>
    UN .not t10 fun t11 =>
    CND t11 (
      CAL Tryz.prog 16 #[] w3 (fun t12 w4 =>
        K t12 w4) X) (
      LDN 5 w3 t4 fun t13 =>
      CAL Tryz.prog 18 #[t13] w3 (fun t14 w5 =>
        ST 5 w5 t4 t14 fun w6 =>
        LDN 7 w6 t3 fun t15 =>
        LDN 5 w6 t4 fun t16 =>
        CAL Tryz.prog 17 #[t15, t16] w6 (fun t17 w7 =>
          AL Tryz.prog 44 w7 fun t7 w8 =>
          ST 5 w8 t7 t17 fun w9 =>
          FA 3 t7 fun t18 =>
          LD w9 t18 fun t19 =>
          BIN .int .eql t19 (.int .i64 0) fun t20 =>
          CND t20 (
            CAL Tryz.prog 16 #[] w9 (fun t21 w10 =>
              K t21 w10) X) (
            FA 3 t7 fun t23 =>
            LD w9 t23 fun t24 =>
            CNV .u64 t24 fun t25 =>
            BIN .int .rem t2 t25 fun t26 =>
            CNV .i64 t26 fun t27 =>
            FA 1 t4 fun t28 =>
            ST 1 w9 t28 t27 fun w11 =>
            LDN 7 w11 t3 fun t29 =>
            LDN 5 w11 t4 fun t30 =>
            CAL Tryz.prog 17 #[t29, t30] w11 (fun t31 w12 =>
              AL Tryz.prog 44 w12 fun t8 w13 =>
              ST 5 w13 t8 t31 fun w14 =>
              FA 0 t8 fun t32 =>
              LD w14 t32 fun t33 =>
              BIN .int .eql t33 (.int .i64 3) fun t34 =>
              GRP t34 true (.bool false) w14 (fun J =>
                FA 3 t8 fun t36 =>
                LD w14 t36 fun t37 =>
                FA 1 t4 fun t38 =>
                LD w14 t38 fun t39 =>
                BIN .int .eql t37 t39 fun t40 =>
                J t40 w14)
               (fun t41 w15 =>
                GRP t41 true (.bool false) w15 (fun J_1 =>
                  FA 4 t8 fun t43 =>
                  LD w15 t43 fun t44 =>
                  FA 4 t7 fun t45 =>
                  LD w15 t45 fun t46 =>
                  BIN .int .leq t44 t46 fun t47 =>
                  J_1 t47 w15)
                 (fun t48 w16 =>
                  GRP t48 true (.bool false) w16 (fun J_2 =>
                    CAL Tryz.prog 16 #[] w16 (fun t50 w18 =>
                      J_2 t50 w18) X)
                   (fun t51 w17 =>
                    K t51 w17)))) X)) X) X)) X
def plan8 : Plan := .seq (.reg (.sq 0 3 .nil)) (.seq (.seq (.reg (.sq 0 3 .nil)) (.cond (.seq (.reg (.op 0 false (.op 1 false .nil))) (.leaf)) (.leaf))) (.seq (.reg (.sq 0 3 .nil)) (.seq (.reg (.sq 0 5 .nil)) (.seq (.seq (.reg (.sq 0 3 .nil)) (.cond (.seq (.reg (.op 0 false (.op 1 false .nil))) (.leaf)) (.leaf))) (.seq (.reg (.sq 0 8 .nil)) (.seq (.reg (.sq 0 5 .nil)) (.seq (.reg (.sq 0 4 (.grp 3 true (.sq 4 5 .nil) 9 (.op 10 false (.grp 10 true (.sq 11 5 .nil) 16 (.op 17 false (.grp 17 true (.op 18 false .nil) 19 (.op 20 false .nil)))))))) (.leaf))))))))
theorem chk8 : chkC Tryz.prog (codeOf Tryz.f8) plan8 = true := by kernel_rfl
theorem n8 {t0 t1 t2 : Value} {w : World} {K : Value → World → Prop} {X : List PanicEntry → World → Prop} (h : N8 t0 t1 t2 w K X) : CAL Tryz.prog 8 #[t0, t1, t2] w K X :=
  cal (args := [t0, t1, t2]) plan8 Tryz.func8 rfl chk8 (by kernel_rfl) (R := N8 t0 t1 t2 w K X) (by kernel_rfl) h

/-- bellows/bellowslaw06.VmTexts -/
def N9 (t0 t1 t2 : Value) (w : World) (K : Value → World → Prop) (X : List PanicEntry → World → Prop) : Prop :=
  LEN .str t0 fun t12 =>
  BIN .int .gtr t12 (.int .i64 300) fun t13 =>
  GRP t13 false (.bool true) w (fun J =>
    LEN .str t1 fun t16 =>
    BIN .int .gtr t16 (.int .i64 300) fun t17 =>
    J t17 w)
   (fun t18 w1 =>
    CND t18 (
      CAL Tryz.prog 16 #[] w1 (fun t19 w2 =>
        K t19 w2) X) (
      CAL Tryz.prog 20 #[t2] w1 (fun t21 w3 =>
        BLD Tryz.prog 30 [(0, (.int .i64 2))] fun t22 =>
        BSLC Tryz.prog 28 1 [(0, (.int .i64 0))] w3 fun t23 w4 =>
        BLD Tryz.prog 30 [(0, (.int .i64 2)), (1, (.int .i64 1)), (2, (.int .i64 1)), (8, t23)] fun t24 =>
        BLD Tryz.prog 30 [(0, (.int .i64 14)), (1, (.int .i64 2)), (3, (.int .i64 1))] fun t25 =>
        BLD Tryz.prog 30 [(0, (.int .i64 16)), (2, (.int .i64 2))] fun t26 =>
        BSLC Tryz.prog 28 2 [(0, (.int .i64 0)), (1, (.int .i64 1))] w4 fun t27 w5 =>
        BLD Tryz.prog 30 [(0, (.int .i64 13)), (1, (.int .i64 3)), (3, (.int .i64 1)), (8, t27)] fun t28 =>
        BLD Tryz.prog 30 [(0, (.int .i64 11)), (1, (.int .i64 2)), (2, (.int .i64 3))] fun t29 =>
        BLD Tryz.prog 30 [(0, (.int .i64 16)), (2, (.int .i64 2))] fun t30 =>
        BLD Tryz.prog 30 [(0, (.int .i64 1)), (1, (.int .i64 2)), (5, t21)] fun t32 =>
        BLD Tryz.prog 30 [(0, (.int .i64 12)), (1, (.int .i64 2)), (2, (.int .i64 3)), (3, (.int .i64 2))] fun t33 =>
        BLD Tryz.prog 30 [(0, (.int .i64 16)), (2, (.int .i64 2))] fun t34 =>
        BSLC Tryz.prog 54 10 [(0, t22), (1, t24), (2, t25), (3, t26), (4, t28), (5, t29), (6, t30), (7, t32), (8, t33), (9, t34)] w5 fun t35 w6 =>
        BSLC Tryz.prog 24 2 [(0, t0), (1, t1)] w6 fun t38 w7 =>
        CAL Tryz.prog 21 #[(.int .i64 4), t38, t35] w7 (fun t40 w8 =>
          BSLC Tryz.prog 35 3 [(0, (.bool true)), (1, (.bool true)), (2, (.bool true))] w8 fun t41 w9 =>
          BLD Tryz.prog 37 [(1, (.int .i64 100)), (2, (.int .i64 300)), (3, (.int .i64 20)), (4, t41)] fun t42 =>
          CAL Tryz.prog 17 #[t40, t42] w9 (fun t43 w10 =>
            AL Tryz.prog 44 w10 fun t8 w11 =>
            ST 5 w11 t8 t43 fun w12 =>
            JOIN (fun (J_1 : Value → World → Prop) =>
              BIN .str .lss t0 t1 fun t46 =>
              CND t46 (
                J_1 (.int .u8 255) w12) (
                BIN .str .gtr t0 t1 fun t49 =>
                CND t49 (
                  J_1 (.int .u8 1) w12) (
                  J_1 (.int .u8 0) w12)))
             (fun t9 w13 =>
              LEN .str t0 fun t52 =>
              LEN .str t1 fun t54 =>
              BIN .int .add t52 t54 fun t55 =>
              CNV .u8 t55 fun t56 =>
              BSLC Tryz.prog 34 2 [(0, t9), (1, t56)] w13 fun t57 w14 =>
              BIN .int .lss t21 (.int .i64 0) fun t59 =>
              GRP t59 false (.bool true) w14 (fun J_2 =>
                LEN .str t0 fun t63 =>
                LEN .str t1 fun t65 =>
                BIN .int .add t63 t65 fun t66 =>
                BIN .int .geq t21 t66 fun t67 =>
                J_2 t67 w14)
               (fun t68 w15 =>
                CND t68 (
                  FA 0 t8 fun t69 =>
                  LD w15 t69 fun t70 =>
                  BIN .int .eql t70 (.int .i64 2) fun t71 =>
                  GRP t71 true (.bool false) w15 (fun J_3 =>
                    FA 2 t8 fun t73 =>
                    LD w15 t73 fun t74 =>
                    BIN .str .eql t74 (.string ⟨#[83, 117, 98, 115, 99, 114, 105, 112, 116]⟩) fun t75 =>
                    J_3 t75 w15)
                   (fun t76 w16 =>
                    GRP t76 true (.bool false) w16 (fun J_4 =>
                      FA 1 t8 fun t78 =>
                      LD w16 t78 fun t79 =>
                      RUN Tryz.prog (convert 34 9 t79) w16 fun t80 w18 =>
                      RUN Tryz.prog (convert 34 9 t57) w18 fun t82 w19 =>
                      BIN .str .eql t80 t82 fun t83 =>
                      J_4 t83 w19)
                     (fun t84 w17 =>
                      GRP t84 true (.bool false) w17 (fun J_5 =>
                        CAL Tryz.prog 16 #[] w17 (fun t86 w21 =>
                          J_5 t86 w21) X)
                       (fun t87 w20 =>
                        K t87 w20)))) (
                  FA 0 t8 fun t88 =>
                  LD w15.drew t88 fun t89 =>
                  BIN .int .eql t89 (.int .i64 1) fun t90 =>
                  GRP t90 true (.bool false) w15.drew (fun J_6 =>
                    FA 1 t8 fun t92 =>
                    LD w15.drew t92 fun t93 =>
                    BIN .str .add t0 t1 fun t98 =>
                    IXS t98 t21 fun t100 =>
                    (
                      RUN Tryz.prog (convert 34 9 t93) w15.drew fun t94 w23 =>
                      BSLC Tryz.prog 34 1 [(0, t100)] w23 fun t101 w24 =>
                      (Keeps w23 w24 ∧ (
                      RUN Tryz.prog (Builtin.append_ #[34, 34] 34 #[t57, t101]) w24 fun t102 w25 =>
                      (Keeps w24 w25 ∧ (
                      RUN Tryz.prog (convert 34 9 t102) w25 fun t103 w26 =>
                      (Keeps w25 w26 ∧ (
                      BIN .str .eql t94 t103 fun t104 =>
                      J_6 t104 w26))))))) ∧ (
                      BSLC Tryz.prog 34 1 [(0, t100)] w15.drew fun t101_1 w27 =>
                      (Keeps w15.drew w27 ∧ (
                      (
                        RUN Tryz.prog (convert 34 9 t93) w27 fun t94_1 w28 =>
                        RUN Tryz.prog (Builtin.append_ #[34, 34] 34 #[t57, t101_1]) w28 fun t102_1 w29 =>
                        (Keeps w28 w29 ∧ (
                        RUN Tryz.prog (convert 34 9 t102_1) w29 fun t103_1 w30 =>
                        (Keeps w29 w30 ∧ (
                        BIN .str .eql t94_1 t103_1 fun t104_1 =>
                        J_6 t104_1 w30))))) ∧ (
                        RUN Tryz.prog (Builtin.append_ #[34, 34] 34 #[t57, t101_1]) w27 fun t102_2 w31 =>
                        (Keeps w27 w31 ∧ (
                        (
                          RUN Tryz.prog (convert 34 9 t93) w31 fun t94_2 w32 =>
                          RUN Tryz.prog (convert 34 9 t102_2) w32 fun t103_2 w33 =>
                          (Keeps w32 w33 ∧ (
                          BIN .str .eql t94_2 t103_2 fun t104_2 =>
                          J_6 t104_2 w33))) ∧ (
                          RUN Tryz.prog (convert 34 9 t102_2) w31 fun t103_3 w34 =>
                          (Keeps w31 w34 ∧ (
                          RUN Tryz.prog (convert 34 9 t93) w34 fun t94_3 w35 =>
                          BIN .str .eql t94_3 t103_3 fun t104_3 =>
                          J_6 t104_3 w35))))))))))
                   (fun t105 w22 =>
                    GRP t105 true (.bool false) w22 (fun J_7 =>
                      FA 4 t8 fun t107 =>
                      LD w22 t107 fun t108 =>
                      BIN .int .eql t108 (.int .i64 3) fun t109 =>
                      J_7 t109 w22)
                     (fun t110 w36 =>
                      GRP t110 true (.bool false) w36 (fun J_8 =>
                        CAL Tryz.prog 16 #[] w36 (fun t112 w38 =>
                          J_8 t112 w38) X)
                       (fun t113 w37 =>
                        K t113 w37))))))) X) X) X))
def plan9 : Plan := .seq (.reg (.op 0 false .nil)) (.seq (.seq (.reg (.sq 0 4 (.grp 3 false (.sq 4 3 .nil) 7 .nil))) (.cond (.seq (.reg (.op 0 false (.op 1 false .nil))) (.leaf)) (.leaf))) (.seq (.reg (.sq 0 3 .nil)) (.seq (.reg (.sq 0 15 .nil)) (.seq (.reg (.sq 0 10 .nil)) (.seq (.reg (.op 0 false .nil)) (.jseq [9] [0, 1, 2, 8] (.seq (.reg (.sq 0 3 .nil)) (.cond (.reg (.op 0 false .nil)) (.seq (.reg (.sq 0 3 .nil)) (.cond (.reg (.op 0 false .nil)) (.leaf))))) (.seq (.reg (.sq 0 9 .nil)) (.seq (.seq (.reg (.sq 0 3 (.grp 2 false (.sq 3 7 .nil) 10 .nil))) (.cond (.seq (.reg (.sq 0 4 (.grp 3 true (.sq 4 3 .nil) 7 (.op 8 false (.grp 8 true (.sq 9 6 .nil) 15 (.op 16 false (.grp 16 true (.op 17 false .nil) 18 (.op 19 false .nil)))))))) (.leaf)) (.leaf))) (.seq (.reg (.sq 0 4 (.grp 3 true (.op 4 false (.op 5 false (.sq 7 6 (.alt 6 false (.op 13 true (.op 14 true (.op 15 true (.op 16 false .nil)))) (.op 13 true (.alt 6 false (.op 14 true (.op 15 true (.op 16 false .nil))) (.op 14 true (.alt 6 false (.op 15 true (.op 16 false .nil)) (.op 15 true (.op 6 false (.op 16 false .nil))))))))))) 17 (.op 18 false (.grp 18 true (.sq 19 3 .nil) 22 (.op 23 false (.grp 23 true (.op 24 false .nil) 25 (.op 26 false .nil)))))))) (.leaf))))))))))
theorem chk9 : chkC Tryz.prog (codeOf Tryz.f9) plan9 = true := by kernel_rfl
theorem n9 {t0 t1 t2 : Value} {w : World} {K : Value → World → Prop} {X : List PanicEntry → World → Prop} (h : N9 t0 t1 t2 w K X) : CAL Tryz.prog 9 #[t0, t1, t2] w K X :=
  cal (args := [t0, t1, t2]) plan9 Tryz.func9 rfl chk9 (by kernel_rfl) (R := N9 t0 t1 t2 w K X) (by kernel_rfl) h

/-- bellows/bellowslaw06.VmArrays -/
def N10 (t0 t1 t2 : Value) (w : World) (K : Value → World → Prop) (X : List PanicEntry → World → Prop) : Prop :=
  BOX t2 57 w fun t5 w1 =>
  CAL Tryz.prog 20 #[t0] w1 (fun t12 w2 =>
    CAL Tryz.prog 20 #[t1] w2 (fun t14 w3 =>
      IAA 2 1 t5 (.int .i64 0) fun t15 =>
      LD w3.drew t15 fun t16 =>
      IAA 2 1 t5 (.int .i64 1) fun t18 =>
      LD w3.drew t18 fun t19 =>
      CAL Tryz.prog 20 #[t16] w3.drew (fun t17 w4 =>
        (Keeps w3.drew w4 ∧ (
        CAL Tryz.prog 20 #[t19] w4 (fun t20 w5 =>
          JOIN (fun (J : Value → World → Prop) =>
            BIN .int .gtr t12 (.int .i64 60) fun t22 =>
            GRP t22 true (.bool false) w5 (fun J_1 =>
              BIN .int .leq t12 (.int .i64 65536) fun t25 =>
              J_1 t25 w5)
             (fun t26 w7 =>
              CND t26 (
                BIN .int .rem t12 (.int .i64 61) fun t28 =>
                J t28 w7) (
                J t12 w7)))
           (fun t0_1 w6 =>
            BLD Tryz.prog 30 [(0, (.int .i64 1)), (5, t0_1)] fun t30 =>
            BLD Tryz.prog 30 [(0, (.int .i64 1)), (1, (.int .i64 1)), (5, t17)] fun t32 =>
            BSLC Tryz.prog 28 1 [(0, (.int .i64 0))] w6 fun t33 w8 =>
            BLD Tryz.prog 30 [(0, (.int .i64 8)), (1, (.int .i64 2)), (2, (.int .i64 1)), (4, (.int .i64 1)), (8, t33)] fun t34 =>
            BLD Tryz.prog 30 [(0, (.int .i64 11)), (1, (.int .i64 1)), (2, (.int .i64 2))] fun t35 =>
            BLD Tryz.prog 30 [(0, (.int .i64 16)), (2, (.int .i64 1))] fun t36 =>
            BLD Tryz.prog 30 [(0, (.int .i64 1)), (1, (.int .i64 1)), (5, t20)] fun t38 =>
            BLD Tryz.prog 30 [(0, (.int .i64 1)), (5, t14)] fun t40 =>
            BLD Tryz.prog 30 [(0, (.int .i64 9)), (1, (.int .i64 3)), (2, (.int .i64 2))] fun t41 =>
            BLD Tryz.prog 30 [(0, (.int .i64 16)), (2, (.int .i64 3))] fun t42 =>
            BLD Tryz.prog 30 [(0, (.int .i64 10)), (2, (.int .i64 2)), (4, (.int .i64 1))] fun t43 =>
            BLD Tryz.prog 30 [(0, (.int .i64 9)), (1, (.int .i64 3)), (2, (.int .i64 2))] fun t44 =>
            BLD Tryz.prog 30 [(0, (.int .i64 16)), (2, (.int .i64 3))] fun t45 =>
            BSLC Tryz.prog 54 12 [(0, t30), (1, t32), (2, t34), (3, t35), (4, t36), (5, t38), (6, t40), (7, t41), (8, t42), (9, t43), (10, t44), (11, t45)] w8 fun t46 w9 =>
            CAL Tryz.prog 21 #[(.int .i64 4), (.slice none 0 0), t46] w9 (fun t48 w10 =>
              BLD Tryz.prog 37 [(1, (.int .i64 100)), (2, (.int .i64 100)), (3, (.int .i64 20))] fun t49 =>
              CAL Tryz.prog 17 #[t48, t49] w10 (fun t50 w11 =>
                AL Tryz.prog 44 w11 fun t10 w12 =>
                ST 5 w12 t10 t50 fun w13 =>
                BIN .int .lss t0_1 (.int .i64 0) fun t52 =>
                GRP t52 false (.bool true) w13 (fun J_2 =>
                  BIN .int .gtr t0_1 (.int .i64 65536) fun t55 =>
                  J_2 t55 w13)
                 (fun t56 w14 =>
                  CND t56 (
                    FA 0 t10 fun t57 =>
                    LD w14 t57 fun t58 =>
                    BIN .int .eql t58 (.int .i64 2) fun t59 =>
                    GRP t59 true (.bool false) w14 (fun J_3 =>
                      FA 2 t10 fun t61 =>
                      LD w14 t61 fun t62 =>
                      BIN .str .eql t62 (.string ⟨#[83, 105, 122, 101]⟩) fun t63 =>
                      J_3 t63 w14)
                     (fun t64 w15 =>
                      GRP t64 true (.bool false) w15 (fun J_4 =>
                        FA 1 t10 fun t66 =>
                        LD w15 t66 fun t67 =>
                        LEN (.sl 1) t67 fun t68 =>
                        BIN .int .eql t68 (.int .i64 0) fun t69 =>
                        J_4 t69 w15)
                       (fun t70 w16 =>
                        GRP t70 true (.bool false) w16 (fun J_5 =>
                          CAL Tryz.prog 16 #[] w16 (fun t72 w18 =>
                            J_5 t72 w18) X)
                         (fun t73 w17 =>
                          K t73 w17)))) (
                    BIN .int .lss t14 (.int .i64 0) fun t75 =>
                    GRP t75 false (.bool true) w14 (fun J_6 =>
                      BIN .int .geq t14 t0_1 fun t79 =>
                      J_6 t79 w14)
                     (fun t80 w19 =>
                      CND t80 (
                        FA 0 t10 fun t81 =>
                        LD w19 t81 fun t82 =>
                        BIN .int .eql t82 (.int .i64 2) fun t83 =>
                        GRP t83 true (.bool false) w19 (fun J_7 =>
                          FA 2 t10 fun t85 =>
                          LD w19 t85 fun t86 =>
                          BIN .str .eql t86 (.string ⟨#[83, 117, 98, 115, 99, 114, 105, 112, 116]⟩) fun t87 =>
                          J_7 t87 w19)
                         (fun t88 w20 =>
                          GRP t88 true (.bool false) w20 (fun J_8 =>
                            FA 1 t10 fun t90 =>
                            LD w20 t90 fun t91 =>
                            RUN Tryz.prog (convert 34 9 t91) w20 fun t92 w22 =>
                            CNV .u8 t0_1 fun t94 =>
                            BSLC Tryz.prog 34 1 [(0, t94)] w22 fun t95 w23 =>
                            RUN Tryz.prog (convert 34 9 t95) w23 fun t96 w24 =>
                            BIN .str .eql t92 t96 fun t97 =>
                            J_8 t97 w24)
                           (fun t98 w21 =>
                            GRP t98 true (.bool false) w21 (fun J_9 =>
                              CAL Tryz.prog 16 #[] w21 (fun t100 w26 =>
                                J_9 t100 w26) X)
                             (fun t101 w25 =>
                              K t101 w25)))) (
                        FA 0 t10 fun t102 =>
                        LD w19 t102 fun t103 =>
                        BIN .int .eql t103 (.int .i64 1) fun t104 =>
                        GRP t104 true (.bool false) w19 (fun J_10 =>
                          FA 1 t10 fun t106 =>
                          LD w19 t106 fun t107 =>
                          RUN Tryz.prog (convert 34 9 t107) w19 fun t108 w28 =>
                          CNV .u8 t0_1 fun t110 =>
                          CNV .u8 t17 fun t112 =>
                          CNV .u8 t20 fun t114 =>
                          BSLC Tryz.prog 34 3 [(0, t110), (1, t112), (2, t114)] w28 fun t115 w29 =>
                          RUN Tryz.prog (convert 34 9 t115) w29 fun t116 w30 =>
                          BIN .str .eql t108 t116 fun t117 =>
                          J_10 t117 w30)
                         (fun t118 w27 =>
                          GRP t118 true (.bool false) w27 (fun J_11 =>
                            CAL Tryz.prog 16 #[] w27 (fun t120 w32 =>
                              J_11 t120 w32) X)
                           (fun t121 w31 =>
                            K t121 w31))))))) X) X)) X))) X) X) X
def plan10 : Plan := .seq (.reg (.op 0 false (.op 1 false .nil))) (.seq (.reg (.sq 0 6 .nil)) (.seq (.reg (.op 0 false (.op 1 false (.op 3 false (.op 4 false (.op 2 true (.sq 5 3 .nil))))))) (.jseq [0] [1, 7, 8] (.seq (.reg (.sq 0 3 (.grp 2 true (.op 3 false (.op 4 false .nil)) 5 .nil))) (.cond (.reg (.sq 0 3 .nil)) (.leaf))) (.seq (.reg (.sq 0 19 .nil)) (.seq (.reg (.sq 0 6 .nil)) (.seq (.seq (.reg (.sq 0 3 (.grp 2 false (.op 3 false (.op 4 false .nil)) 5 .nil))) (.cond (.seq (.reg (.sq 0 4 (.grp 3 true (.sq 4 3 .nil) 7 (.op 8 false (.grp 8 true (.sq 9 4 .nil) 13 (.op 14 false (.grp 14 true (.op 15 false .nil) 16 (.op 17 false .nil)))))))) (.leaf)) (.leaf))) (.seq (.seq (.reg (.sq 0 3 (.grp 2 false (.sq 3 3 .nil) 6 .nil))) (.cond (.seq (.reg (.sq 0 4 (.grp 3 true (.sq 4 3 .nil) 7 (.op 8 false (.grp 8 true (.sq 9 8 .nil) 17 (.op 18 false (.grp 18 true (.op 19 false .nil) 20 (.op 21 false .nil)))))))) (.leaf)) (.leaf))) (.seq (.reg (.sq 0 4 (.grp 3 true (.sq 4 12 .nil) 16 (.op 17 false (.grp 17 true (.op 18 false .nil) 19 (.op 20 false .nil)))))) (.leaf)))))))))
theorem chk10 : chkC Tryz.prog (codeOf Tryz.f10) plan10 = true := by kernel_rfl
theorem n10 {t0 t1 t2 : Value} {w : World} {K : Value → World → Prop} {X : List PanicEntry → World → Prop} (h : N10 t0 t1 t2 w K X) : CAL Tryz.prog 10 #[t0, t1, t2] w K X :=
  cal (args := [t0, t1, t2]) plan10 Tryz.func10 rfl chk10 (by kernel_rfl) (R := N10 t0 t1 t2 w K X) (by kernel_rfl) h

/-- bellows/bellowslaw06.VmDeep -/
def N11 (t0 t1 t2 : Value) (w : World) (K : Value → World → Prop) (X : List PanicEntry → World → Prop) : Prop :=
  MIN [t0, (.int .i64 300)] fun t12 =>
  MAX [(.int .i64 0), t12] fun t13 =>
  MIN [t1, (.int .i64 3000)] fun t15 =>
  MAX [(.int .i64 0), t15] fun t16 =>
  MIN [t2, (.int .i64 20)] fun t18 =>
  MAX [(.int .i64 2), t18] fun t19 =>
  CAL Tryz.prog 22 #[] w (fun t20 w1 =>
    AL Tryz.prog 27 w1 fun t7 w2 =>
    ST 7 w2 t7 t20 fun w3 =>
    BSLC Tryz.prog 28 1 [(0, (.int .i64 0))] w3 fun t21 w4 =>
    LOOP1 t21 w4 fun t8 w5 back =>
      LEN (.sl 1) t8 fun t23 =>
      BIN .int .lss t23 t19 fun t25 =>
      CND t25 (
        BSLC Tryz.prog 28 1 [(0, (.int .i64 (-1)))] w5 fun t27 w6 =>
        RUN Tryz.prog (Builtin.append_ #[28, 28] 28 #[t8, t27]) w6 fun t28 w7 =>
        back t28 w7) (
        FA 4 t7 fun t29 =>
        LD w5 t29 fun t30 =>
        BSLC Tryz.prog 28 1 [(0, (.int .i64 0))] w5 fun t31 w8 =>
        BLD Tryz.prog 30 [(0, (.int .i64 19)), (3, (.int .i64 1)), (4, (.int .i64 2))] fun t34 =>
        BSLC Tryz.prog 54 1 [(0, t34)] w8 fun t35 w9 =>
        BLD Tryz.prog 61 [(0, t8), (1, t35)] fun t36 =>
        BLD Tryz.prog 30 [(0, (.int .i64 1)), (1, (.int .i64 1)), (5, (.int .i64 1))] fun t38 =>
        BLD Tryz.prog 30 [(0, (.int .i64 4)), (3, (.int .i64 1)), (5, (.int .i64 2))] fun t39 =>
        BSLC Tryz.prog 28 1 [(0, (.int .i64 0))] w9 fun t40 w10 =>
        BLD Tryz.prog 30 [(0, (.int .i64 17)), (2, (.int .i64 1)), (3, (.int .i64 (-1))), (6, t40)] fun t41 =>
        BLD Tryz.prog 30 [(0, (.int .i64 22))] fun t42 =>
        BSLC Tryz.prog 54 4 [(0, t38), (1, t39), (2, t41), (3, t42)] w10 fun t43 w11 =>
        BLD Tryz.prog 61 [(0, t8), (1, t43)] fun t44 =>
        BLD Tryz.prog 30 [(0, (.int .i64 22))] fun t46 =>
        BSLC Tryz.prog 54 1 [(0, t46)] w11 fun t47 w12 =>
        BLD Tryz.prog 61 [(0, t8), (1, t47)] fun t48 =>
        BSLC Tryz.prog 62 3 [(0, t36), (1, t44), (2, t48)] w12 fun t49 w13 =>
        BLD Tryz.prog 64 [(0, t31), (2, t19), (3, t49)] fun t50 =>
        BSLC Tryz.prog 25 1 [(0, t50)] w13 fun t51 w14 =>
        RUN Tryz.prog (Builtin.append_ #[25, 25] 25 #[t30, t51]) w14 fun t52 w15 =>
        FA 4 t7 fun t53 =>
        ST 1 w15 t53 t52 fun w16 =>
        FA 4 t7 fun t54 =>
        LD w16 t54 fun t55 =>
        IA 4 t55 (.int .i64 0) fun t56 =>
        FA 3 t56 fun t57 =>
        LD w16 t57 fun t58 =>
        BLD Tryz.prog 30 [(0, (.int .i64 1)), (5, t13)] fun t60 =>
        BSLC Tryz.prog 28 1 [(0, (.int .i64 0))] w16 fun t61 w17 =>
        BLD Tryz.prog 30 [(0, (.int .i64 17)), (2, (.int .i64 1)), (3, (.int .i64 (-1))), (6, t61)] fun t62 =>
        BLD Tryz.prog 30 [(0, (.int .i64 1)), (5, (.int .i64 2))] fun t63 =>
        BSLC Tryz.prog 28 1 [(0, (.int .i64 0))] w17 fun t64 w18 =>
        BLD Tryz.prog 30 [(0, (.int .i64 17)), (2, (.int .i64 1)), (3, (.int .i64 (-1))), (6, t64)] fun t65 =>
        BLD Tryz.prog 30 [(0, (.int .i64 16))] fun t66 =>
        BLD Tryz.prog 30 [(0, (.int .i64 22))] fun t67 =>
        BSLC Tryz.prog 54 6 [(0, t60), (1, t62), (2, t63), (3, t65), (4, t66), (5, t67)] w18 fun t68 w19 =>
        IA 2 t58 (.int .i64 0) fun t69 =>
        FA 1 t69 fun t70 =>
        ST 1 w19 t70 t68 fun w20 =>
        LDN 7 w20 t7 fun t71 =>
        BLD Tryz.prog 37 [(1, (.int .i64 5000)), (3, t16)] fun t73 =>
        CAL Tryz.prog 17 #[t71, t73] w20 (fun t74 w21 =>
          AL Tryz.prog 44 w21 fun t9 w22 =>
          ST 5 w22 t9 t74 fun w23 =>
          MAX [(.int .i64 2), t13] fun t76 =>
          BIN .int .add (.int .i64 1) t76 fun t77 =>
          BIN .int .add t19 (.int .i64 2) fun t79 =>
          BIN .int .mul t77 t79 fun t80 =>
          BIN .int .add (.int .i64 3) t80 fun t81 =>
          BIN .int .gtr t81 t16 fun t84 =>
          CND t84 (
            FA 0 t9 fun t85 =>
            LD w23 t85 fun t86 =>
            BIN .int .eql t86 (.int .i64 5) fun t87 =>
            GRP t87 true (.bool false) w23 (fun J =>
              FA 1 t9 fun t89 =>
              LD w23 t89 fun t90 =>
              LEN (.sl 1) t90 fun t91 =>
              BIN .int .eql t91 (.int .i64 0) fun t92 =>
              J t92 w23)
             (fun t93 w24 =>
              GRP t93 true (.bool false) w24 (fun J_1 =>
                CAL Tryz.prog 16 #[] w24 (fun t95 w26 =>
                  J_1 t95 w26) X)
               (fun t96 w25 =>
                K t96 w25))) (
            FA 0 t9 fun t97 =>
            LD w23 t97 fun t98 =>
            BIN .int .eql t98 (.int .i64 1) fun t99 =>
            GRP t99 true (.bool false) w23 (fun J_2 =>
              FA 1 t9 fun t101 =>
              LD w23 t101 fun t102 =>
              RUN Tryz.prog (convert 34 9 t102) w23 fun t103 w28 =>
              BIN .str .eql t103 (.string ⟨#[0]⟩) fun t104 =>
              J_2 t104 w28)
             (fun t105 w27 =>
              GRP t105 true (.bool false) w27 (fun J_3 =>
                CAL Tryz.prog 16 #[] w27 (fun t107 w30 =>
                  J_3 t107 w30) X)
               (fun t108 w29 =>
                K t108 w29)))) X)) X
def plan11 : Plan := .seq (.reg (.op 0 false .nil)) (.seq (.reg (.sq 0 12 .nil)) (.seq (.reg (.sq 0 3 .nil)) (.seq (.reg (.op 0 false (.op 1 false .nil))) (.seq (.block (.loop [8] [0, 1, 2, 7] (.seq (.seq (.reg (.sq 0 4 .nil)) (.cond (.leaf) (.leaf))) (.block (.reg (.sq 0 4 .nil)))))) (.seq (.reg (.sq 0 26 .nil)) (.seq (.reg (.sq 0 18 .nil)) (.seq (.reg (.sq 0 6 .nil)) (.seq (.reg (.sq 0 8 .nil)) (.seq (.seq (.reg (.sq 0 3 .nil)) (.cond (.seq (.reg (.sq 0 4 (.grp 3 true (.sq 4 4 .nil) 8 (.op 9 false (.grp 9 true (.op 10 false .nil) 11 (.op 12 false .nil)))))) (.leaf)) (.leaf))) (.seq (.reg (.sq 0 4 (.grp 3 true (.sq 4 4 .nil) 8 (.op 9 false (.grp 9 true (.op 10 false .nil) 11 (.op 12 false .nil)))))) (.leaf)))))))))))
theorem chk11 : chkC Tryz.prog (codeOf Tryz.f11) plan11 = true := by kernel_rfl
theorem n11 {t0 t1 t2 : Value} {w : World} {K : Value → World → Prop} {X : List PanicEntry → World → Prop} (h : N11 t0 t1 t2 w K X) : CAL Tryz.prog 11 #[t0, t1, t2] w K X :=
  cal (args := [t0, t1, t2]) plan11 Tryz.func11 rfl chk11 (by kernel_rfl) (R := N11 t0 t1 t2 w K X) (by kernel_rfl) h

/-- bellows/bellowslaw06.VmCoded -/
def N12 (t0 t1 : Value) (w : World) (K : Value → World → Prop) (X : List PanicEntry → World → Prop) : Prop :=
  BOX t0 27 w fun t2 w1 =>
  BOX t1 37 w1 fun t3 w2 =>
  LDN 7 w2 t2 fun t9 =>
  CAL Tryz.prog 23 #[t9] w2 (fun t10 w3 =>
    UN .not t10 fun t11 =>
    CND t11 (
      CAL Tryz.prog 16 #[] w3 (fun t12 w4 =>
        K t12 w4) X) (
      LDN 7 w3 t2 fun t14 =>
      CAL Tryz.prog 24 #[t14] w3 (fun t15 w5 =>
        EX t15 0 fun t16 =>
        EX t15 1 fun t17 =>
        BIN .int .neq t17 (.int .i64 0) fun t19 =>
        CND t19 (
          LDN 7 w5 t2 fun t20 =>
          LDN 5 w5 t3 fun t21 =>
          CAL Tryz.prog 17 #[t20, t21] w5 (fun t22 w6 =>
            FI (.one 0) t22 fun t23 =>
            BIN .int .eql t23 (.int .i64 6) fun t24 =>
            GRP t24 true (.bool false) w6 (fun J =>
              CAL Tryz.prog 16 #[] w6 (fun t26 w8 =>
                J t26 w8) X)
             (fun t27 w7 =>
              K t27 w7)) X) (
          CAL Tryz.prog 25 #[t16] w5 (fun t30 w9 =>
            EX t30 0 fun t31 =>
            EX t30 1 fun t32 =>
            AL Tryz.prog 27 w9 fun t7 w10 =>
            ST 7 w10 t7 t31 fun w11 =>
            LDN 5 w11 t3 fun t33 =>
            CAL Tryz.prog 18 #[t33] w11 (fun t34 w12 =>
              ST 5 w12 t3 t34 fun w13 =>
              BIN .int .eql t32 (.int .i64 0) fun t36 =>
              GRP t36 true (.bool false) w13.drew (fun J_1 =>
                LDN 7 w13.drew t7 fun t38 =>
                LDN 5 w13.drew t3 fun t39 =>
                LDN 7 w13.drew t2 fun t41 =>
                LDN 5 w13.drew t3 fun t42 =>
                CAL Tryz.prog 17 #[t38, t39] w13.drew (fun t40 w15 =>
                  (Keeps w13.drew w15 ∧ (
                  CAL Tryz.prog 17 #[t41, t42] w15 (fun t43 w16 =>
                    CAL Tryz.prog 19 #[t40, t43] w16 (fun t44 w17 =>
                      J_1 t44 w17) X) X))) X)
               (fun t45 w14 =>
                GRP t45 true (.bool false) w14 (fun J_2 =>
                  CAL Tryz.prog 16 #[] w14 (fun t47 w19 =>
                    J_2 t47 w19) X)
                 (fun t48 w18 =>
                  K t48 w18))) X) X)) X)) X
def plan12 : Plan := .seq (.reg (.sq 0 3 .nil)) (.seq (.seq (.reg (.sq 0 3 .nil)) (.cond (.seq (.reg (.op 0 false (.op 1 false .nil))) (.leaf)) (.leaf))) (.seq (.reg (.sq 0 7 .nil)) (.seq (.seq (.reg (.op 0 false (.op 1 false .nil))) (.cond (.seq (.reg (.sq 0 6 (.grp 5 true (.op 6 false .nil) 7 (.op 8 false .nil)))) (.leaf)) (.leaf))) (.seq (.reg (.sq 0 8 .nil)) (.seq (.reg (.sq 0 3 .nil)) (.seq (.reg (.sq 0 3 (.grp 2 true (.op 3 false (.op 4 false (.op 6 false (.op 7 false (.op 5 true (.op 8 false (.op 9 false .nil))))))) 10 (.op 11 false (.grp 11 true (.op 12 false .nil) 13 (.op 14 false .nil)))))) (.leaf)))))))
theorem chk12 : chkC Tryz.prog (codeOf Tryz.f12) plan12 = true := by kernel_rfl
theorem n12 {t0 t1 : Value} {w : World} {K : Value → World → Prop} {X : List PanicEntry → World → Prop} (h : N12 t0 t1 w K X) : CAL Tryz.prog 12 #[t0, t1] w K X :=
  cal (args := [t0, t1]) plan12 Tryz.func12 rfl chk12 (by kernel_rfl) (R := N12 t0 t1 w K X) (by kernel_rfl) h

/-- bellows/bellowslaw06.VmRuns -/
def N13 (t0 t1 : Value) (w : World) (K : Value → World → Prop) (X : List PanicEntry → World → Prop) : Prop :=
  BOX t0 27 w fun t2 w1 =>
  BOX t1 37 w1 fun t3 w2 =>
  LDN 7 w2 t2 fun t5 =>
  CAL Tryz.prog 23 #[t5] w2 (fun t6 w3 =>
    UN .not t6 fun t7 =>
    CND t7 (
      CAL Tryz.prog 16 #[] w3 (fun t8 w4 =>
        K t8 w4) X) (
      LDN 5 w3 t3 fun t9 =>
      CAL Tryz.prog 18 #[t9] w3 (fun t10 w5 =>
        ST 5 w5 t3 t10 fun w6 =>
        LDN 7 w6.drew t2 fun t11 =>
        LDN 5 w6.drew t3 fun t12 =>
        LDN 7 w6.drew t2 fun t14 =>
        LDN 5 w6.drew t3 fun t15 =>
        CAL Tryz.prog 17 #[t11, t12] w6.drew (fun t13 w7 =>
          (Keeps w6.drew w7 ∧ (
          CAL Tryz.prog 26 #[t14, t15] w7 (fun t16 w8 =>
            CAL Tryz.prog 19 #[t13, t16] w8 (fun t17 w9 =>
              GRP t17 true (.bool false) w9 (fun J =>
                CAL Tryz.prog 16 #[] w9 (fun t19 w11 =>
                  J t19 w11) X)
               (fun t20 w10 =>
                K t20 w10)) X) X))) X) X)) X
def plan13 : Plan := .seq (.reg (.sq 0 3 .nil)) (.seq (.seq (.reg (.sq 0 3 .nil)) (.cond (.seq (.reg (.op 0 false (.op 1 false .nil))) (.leaf)) (.leaf))) (.seq (.reg (.sq 0 3 .nil)) (.seq (.reg (.op 0 false (.op 1 false (.op 3 false (.op 4 false (.op 2 true (.sq 5 3 (.grp 7 true (.op 8 false .nil) 9 (.op 10 false .nil))))))))) (.leaf))))
theorem chk13 : chkC Tryz.prog (codeOf Tryz.f13) plan13 = true := by kernel_rfl
theorem n13 {t0 t1 : Value} {w : World} {K : Value → World → Prop} {X : List PanicEntry → World → Prop} (h : N13 t0 t1 w K X) : CAL Tryz.prog 13 #[t0, t1] w K X :=
  cal (args := [t0, t1]) plan13 Tryz.func13 rfl chk13 (by kernel_rfl) (R := N13 t0 t1 w K X) (by kernel_rfl) h

/-- bellows/bellowslaw05.Put -/
def N14 (t0 t1 t2 : Value) (w : World) (K : Value → World → Prop) (_X : List PanicEntry → World → Prop) : Prop :=
  BOX t0 27 w fun t3 w1 =>
  BOX t1 30 w1 fun t4 w2 =>
  AL Tryz.prog 27 w2 fun t6 w3 =>
  FA 4 t3 fun t17 =>
  LD w3 t17 fun t18 =>
  LEN (.sl 4) t18 fun t19 =>
  LOOP2 (.int .u64 0) (.int .i64 0) w3 fun t7 t20 w4 back =>
    BIN .int .lss t20 t19 fun t21 =>
    CND t21 (
      IA 4 t18 t20 fun t22 =>
      LDN 4 w4 t22 fun t23 =>
      AL Tryz.prog 64 w4 fun t9 w5 =>
      ST 4 w5 t9 t23 fun w6 =>
      FA 3 t9 fun t24 =>
      LD w6 t24 fun t25 =>
      LEN (.sl 2) t25 fun t26 =>
      LOOP2 t7 (.int .i64 0) w6 fun t7_1 t27 w7 back_1 =>
        BIN .int .lss t27 t26 fun t28 =>
        CND t28 (
          IA 2 t25 t27 fun t29 =>
          LDN 2 w7 t29 fun t30 =>
          AL Tryz.prog 61 w7 fun t11 w8 =>
          ST 2 w8 t11 t30 fun w9 =>
          FA 1 t11 fun t32 =>
          LD w9 t32 fun t33 =>
          LEN (.sl 9) t33 fun t34 =>
          CNV .u64 t34 fun t35 =>
          BIN .int .add t7_1 t35 fun t36 =>
          BIN .int .add t27 (.int .i64 1) fun t37 =>
          back_1 t36 t37 w9) (
          BIN .int .add t20 (.int .i64 1) fun t38 =>
          back t7_1 t38 w7)) (
      BIN .int .eql t7 (.int .u64 0) fun t40 =>
      CND t40 (
        LDN 7 w4 t3 fun t41 =>
        ST 7 w4 t6 t41 fun w10 =>
        LDN 7 w10 t6 fun r =>
        K r w10) (
        BIN .int .rem t2 t7 fun t44 =>
        BSLC Tryz.prog 25 0 [] w4 fun t45 w11 =>
        FA 4 t3 fun t46 =>
        LD w11 t46 fun t47 =>
        RUN Tryz.prog (Builtin.append_ #[25, 25] 25 #[t45, t47]) w11 fun t48 w12 =>
        FA 4 t3 fun t49 =>
        ST 1 w12 t49 t48 fun w13 =>
        FA 4 t3 fun t50 =>
        LD w13 t50 fun t51 =>
        LEN (.sl 4) t51 fun t52 =>
        LOOP2 t44 (.int .i64 0) w13 fun t2_1 t53 w14 back_2 =>
          BIN .int .lss t53 t52 fun t54 =>
          CND t54 (
            IA 4 t51 t53 fun t56 =>
            LDN 4 w14 t56 fun t57 =>
            AL Tryz.prog 64 w14 fun t13 w15 =>
            ST 4 w15 t13 t57 fun w16 =>
            FA 3 t13 fun t58 =>
            LD w16 t58 fun t59 =>
            LEN (.sl 2) t59 fun t60 =>
            LOOP2 t2_1 (.int .i64 0) w16 fun t2_2 t61 w17 back_3 =>
              BIN .int .lss t61 t60 fun t62 =>
              CND t62 (
                IA 2 t59 t61 fun t64 =>
                LDN 2 w17 t64 fun t65 =>
                AL Tryz.prog 61 w17 fun t15 w18 =>
                ST 2 w18 t15 t65 fun w19 =>
                FA 1 t15 fun t67 =>
                LD w19 t67 fun t68 =>
                LEN (.sl 9) t68 fun t69 =>
                CNV .u64 t69 fun t70 =>
                BIN .int .lss t2_2 t70 fun t71 =>
                CND t71 (
                  BSLC Tryz.prog 54 0 [] w19 fun t72 w20 =>
                  FA 1 t15 fun t73 =>
                  LD w20 t73 fun t74 =>
                  RUN Tryz.prog (Builtin.append_ #[54, 54] 54 #[t72, t74]) w20 fun t75 w21 =>
                  LDN 9 w21 t4 fun t78 =>
                  IA 9 t75 t2_2 fun t79 =>
                  ST 9 w21 t79 t78 fun w22 =>
                  FA 4 t3 fun t80 =>
                  LD w22.drew t80 fun t81 =>
                  FA 3 t13 fun t84 =>
                  LD w22.drew t84 fun t85 =>
                  BSLC Tryz.prog 62 0 [] w22.drew fun t83 w23 =>
                  (Keeps w22.drew w23 ∧ (
                  RUN Tryz.prog (Builtin.append_ #[62, 62] 62 #[t83, t85]) w23 fun t86 w24 =>
                  (Keeps w23 w24 ∧ (
                  IA 4 t81 t53 fun t87 =>
                  FA 3 t87 fun t88 =>
                  ST 1 w24 t88 t86 fun w25 =>
                  FA 4 t3 fun t89 =>
                  LD w25 t89 fun t90 =>
                  IA 4 t90 t53 fun t92 =>
                  FA 3 t92 fun t93 =>
                  LD w25 t93 fun t94 =>
                  IA 2 t94 t61 fun t97 =>
                  FA 1 t97 fun t98 =>
                  ST 1 w25 t98 t75 fun w26 =>
                  LDN 7 w26 t3 fun t99 =>
                  ST 7 w26 t6 t99 fun w27 =>
                  LDN 7 w27 t6 fun r_1 =>
                  K r_1 w27))))) (
                  FA 1 t15 fun t101 =>
                  LD w19 t101 fun t102 =>
                  LEN (.sl 9) t102 fun t103 =>
                  CNV .u64 t103 fun t104 =>
                  BIN .int .sub t2_2 t104 fun t105 =>
                  BIN .int .add t61 (.int .i64 1) fun t106 =>
                  back_3 t105 t106 w19)) (
                BIN .int .add t53 (.int .i64 1) fun t107 =>
                back_2 t2_2 t107 w17)) (
            LDN 7 w14 t3 fun t108 =>
            ST 7 w14 t6 t108 fun w28 =>
            LDN 7 w28 t6 fun r_2 =>
            K r_2 w28)))
def plan14 : Plan := .seq (.reg (.sq 0 3 .nil)) (.seq (.reg (.op 0 false .nil)) (.seq (.seq (.reg (.sq 0 4 .nil)) (.block (.loop [7, 20] [2, 3, 4, 6, 18, 19] (.seq (.reg (.op 0 false .nil)) (.seq (.cond (.leaf) (.leaf)) (.seq (.block (.seq (.reg (.sq 0 4 .nil)) (.seq (.reg (.sq 0 4 .nil)) (.block (.loop [7, 27] [2, 3, 4, 6, 18, 19, 20, 25, 26] (.seq (.reg (.op 0 false .nil)) (.seq (.cond (.leaf) (.leaf)) (.seq (.block (.seq (.reg (.sq 0 4 .nil)) (.reg (.sq 0 7 .nil)))) (.reg (.op 0 false (.op 1 false .nil))))))))))) (.reg (.op 0 false (.op 1 false .nil))))))))) (.seq (.seq (.reg (.op 0 false (.op 1 false .nil))) (.cond (.seq (.reg (.op 0 false (.op 1 false .nil))) (.leaf)) (.leaf))) (.seq (.reg (.sq 0 4 .nil)) (.seq (.reg (.sq 0 6 .nil)) (.seq (.seq (.reg (.sq 0 4 .nil)) (.block (.loop [2, 53] [3, 4, 6, 51, 52] (.seq (.reg (.op 0 false .nil)) (.seq (.cond (.leaf) (.leaf)) (.seq (.block (.seq (.reg (.sq 0 6 .nil)) (.seq (.reg (.sq 0 4 .nil)) (.block (.loop [2, 61] [3, 4, 6, 12, 13, 51, 52, 53, 59, 60] (.seq (.reg (.op 0 false .nil)) (.seq (.cond (.leaf) (.leaf)) (.seq (.block (.seq (.reg (.sq 0 6 .nil)) (.seq (.seq (.reg (.sq 0 6 .nil)) (.cond (.seq (.reg (.sq 0 5 .nil)) (.seq (.reg (.sq 0 5 .nil)) (.seq (.reg (.sq 0 3 (.op 4 false (.op 5 false (.op 3 true (.op 6 true (.sq 7 3 .nil))))))) (.seq (.reg (.sq 0 11 .nil)) (.seq (.reg (.op 0 false (.op 1 false .nil))) (.leaf)))))) (.leaf))) (.reg (.sq 0 7 .nil))))) (.reg (.op 0 false (.op 1 false .nil))))))))))) (.reg (.op 0 false (.op 1 false .nil))))))))) (.seq (.reg (.op 0 false (.op 1 false .nil))) (.leaf))))))))
theorem chk14 : chkC Tryz.prog (codeOf Tryz.f14) plan14 = true := by kernel_rfl
theorem n14 {t0 t1 t2 : Value} {w : World} {K : Value → World → Prop} {X : List PanicEntry → World → Prop} (h : N14 t0 t1 t2 w K X) : CAL Tryz.prog 14 #[t0, t1, t2] w K X :=
  cal (args := [t0, t1, t2]) plan14 Tryz.func14 rfl chk14 (by kernel_rfl) (R := N14 t0 t1 t2 w K X) (by kernel_rfl) h

/-- bellows/bellowslaw06.runs -/
def N15 (t0 : Value) (w : World) (K : Value → World → Prop) (X : List PanicEntry → World → Prop) : Prop :=
  BOX t0 27 w fun t1 w1 =>
  LDN 7 w1 t1 fun t7 =>
  CAL Tryz.prog 23 #[t7] w1 (fun t8 w2 =>
    UN .not t8 fun t9 =>
    CND t9 (
      K (.bool false) w2) (
      LDN 7 w2 t1 fun t11 =>
      CAL Tryz.prog 27 #[t11] w2 (fun t12 w3 =>
        EX t12 0 fun _ =>
        EX t12 1 fun _ =>
        EX t12 2 fun _ =>
        EX t12 3 fun t16 =>
        K t16 w3) X)) X
def plan15 : Plan := .seq (.reg (.op 0 false (.op 1 false .nil))) (.seq (.seq (.reg (.sq 0 3 .nil)) (.cond (.seq (.reg (.op 0 false .nil)) (.leaf)) (.leaf))) (.seq (.reg (.sq 0 11 .nil)) (.seq (.reg (.op 0 false (.op 1 false .nil))) (.leaf))))
theorem chk15 : chkC Tryz.prog (codeOf Tryz.f15) plan15 = true := by kernel_rfl
theorem n15 {t0 : Value} {w : World} {K : Value → World → Prop} {X : List PanicEntry → World → Prop} (h : N15 t0 w K X) : CAL Tryz.prog 15 #[t0] w K X :=
  cal (args := [t0]) plan15 Tryz.func15 rfl chk15 (by kernel_rfl) (R := N15 t0 w K X) (by kernel_rfl) h

/-- bellows/bellowslaw06.lives -/
def N16 (w : World) (K : Value → World → Prop) (X : List PanicEntry → World → Prop) : Prop :=
  CAL Tryz.prog 22 #[] w (fun t5 w1 =>
    AL Tryz.prog 27 w1 fun t1 w2 =>
    ST 7 w2 t1 t5 fun w3 =>
    FA 4 t1 fun t6 =>
    LD w3 t6 fun t7 =>
    IA 4 t7 (.int .i64 0) fun t8 =>
    FA 3 t8 fun t9 =>
    LD w3 t9 fun t10 =>
    BLD Tryz.prog 30 [(0, (.int .i64 1)), (5, (.int .i64 72))] fun t11 =>
    BLD Tryz.prog 30 [(0, (.int .i64 16))] fun t12 =>
    BLD Tryz.prog 30 [(0, (.int .i64 22))] fun t13 =>
    BSLC Tryz.prog 54 3 [(0, t11), (1, t12), (2, t13)] w3 fun t14 w4 =>
    IA 2 t10 (.int .i64 0) fun t15 =>
    FA 1 t15 fun t16 =>
    ST 1 w4 t16 t14 fun w5 =>
    LDN 7 w5 t1 fun t17 =>
    BLD Tryz.prog 37 [(1, (.int .i64 9)), (3, (.int .i64 9))] fun t18 =>
    CAL Tryz.prog 17 #[t17, t18] w5 (fun t19 w6 =>
      AL Tryz.prog 44 w6 fun t2 w7 =>
      ST 5 w7 t2 t19 fun w8 =>
      LDN 7 w8 t1 fun t20 =>
      BLD Tryz.prog 37 [(1, (.int .i64 2)), (3, (.int .i64 9))] fun t21 =>
      CAL Tryz.prog 17 #[t20, t21] w8 (fun t22 w9 =>
        AL Tryz.prog 44 w9 fun t3 w10 =>
        ST 5 w10 t3 t22 fun w11 =>
        LDN 7 w11 t1 fun t23 =>
        BLD Tryz.prog 37 [(1, (.int .i64 9)), (3, (.int .i64 2))] fun t24 =>
        CAL Tryz.prog 17 #[t23, t24] w11 (fun t25 w12 =>
          AL Tryz.prog 44 w12 fun t4 w13 =>
          ST 5 w13 t4 t25 fun w14 =>
          FA 0 t2 fun t26 =>
          LD w14 t26 fun t27 =>
          BIN .int .eql t27 (.int .i64 1) fun t28 =>
          GRP t28 true (.bool false) w14 (fun J =>
            FA 1 t2 fun t30 =>
            LD w14 t30 fun t31 =>
            RUN Tryz.prog (convert 34 9 t31) w14 fun t32 w16 =>
            BIN .str .eql t32 (.string ⟨#[72]⟩) fun t33 =>
            J t33 w16)
           (fun t34 w15 =>
            GRP t34 true (.bool false) w15 (fun J_1 =>
              FA 3 t2 fun t36 =>
              LD w15 t36 fun t37 =>
              BIN .int .eql t37 (.int .i64 3) fun t38 =>
              J_1 t38 w15)
             (fun t39 w17 =>
              GRP t39 true (.bool false) w17 (fun J_2 =>
                FA 0 t3 fun t41 =>
                LD w17 t41 fun t42 =>
                BIN .int .eql t42 (.int .i64 3) fun t43 =>
                J_2 t43 w17)
               (fun t44 w18 =>
                GRP t44 true (.bool false) w18 (fun J_3 =>
                  FA 1 t3 fun t46 =>
                  LD w18 t46 fun t47 =>
                  RUN Tryz.prog (convert 34 9 t47) w18 fun t48 w20 =>
                  BIN .str .eql t48 (.string ⟨#[72]⟩) fun t49 =>
                  J_3 t49 w20)
                 (fun t50 w19 =>
                  GRP t50 true (.bool false) w19 (fun J_4 =>
                    FA 0 t4 fun t52 =>
                    LD w19 t52 fun t53 =>
                    BIN .int .eql t53 (.int .i64 5) fun t54 =>
                    J_4 t54 w19)
                   (fun t55 w21 =>
                    GRP t55 true (.bool false) w21 (fun J_5 =>
                      FA 3 t4 fun t57 =>
                      LD w21 t57 fun t58 =>
                      BIN .int .eql t58 (.int .i64 0) fun t59 =>
                      J_5 t59 w21)
                     (fun t60 w22 =>
                      K t60 w22))))))) X) X) X) X
def plan16 : Plan := .seq (.reg (.op 0 false .nil)) (.seq (.reg (.sq 0 3 .nil)) (.seq (.reg (.sq 0 12 .nil)) (.seq (.reg (.sq 0 5 .nil)) (.seq (.reg (.sq 0 5 .nil)) (.seq (.reg (.sq 0 5 .nil)) (.seq (.reg (.sq 0 4 (.grp 3 true (.sq 4 4 .nil) 8 (.op 9 false (.grp 9 true (.sq 10 3 .nil) 13 (.op 14 false (.grp 14 true (.sq 15 3 .nil) 18 (.op 19 false (.grp 19 true (.sq 20 4 .nil) 24 (.op 25 false (.grp 25 true (.sq 26 3 .nil) 29 (.op 30 false (.grp 30 true (.sq 31 3 .nil) 34 (.op 35 false .nil)))))))))))))) (.leaf)))))))
theorem chk16 : chkC Tryz.prog (codeOf Tryz.f16) plan16 = true := by kernel_rfl
theorem n16 {w : World} {K : Value → World → Prop} {X : List PanicEntry → World → Prop} (h : N16 w K X) : CAL Tryz.prog 16 #[] w K X :=
  cal (args := []) plan16 Tryz.func16 rfl chk16 (by kernel_rfl) (R := N16 w K X) (by kernel_rfl) h

/-- bellows/bellowslaw06.Cut -/
def N18 (t0 : Value) (w : World) (K : Value → World → Prop) (_X : List PanicEntry → World → Prop) : Prop :=
  BOX t0 37 w fun t1 w1 =>
  AL Tryz.prog 37 w1 fun t2 w2 =>
  FA 1 t1 fun t3 =>
  LD w2 t3 fun t4 =>
  MIN [t4, (.int .i64 3000)] fun t5 =>
  FA 1 t1 fun t6 =>
  ST 1 w2 t6 t5 fun w3 =>
  FA 2 t1 fun t7 =>
  LD w3 t7 fun t8 =>
  MIN [t8, (.int .i64 3000)] fun t9 =>
  FA 2 t1 fun t10 =>
  ST 1 w3 t10 t9 fun w4 =>
  JOIN (fun (J : World → Prop) =>
    FA 4 t1 fun t11 =>
    LD w4 t11 fun t12 =>
    LEN (.sl 1) t12 fun t13 =>
    BIN .int .gtr t13 (.int .i64 3000) fun t14 =>
    CND t14 (
      FA 4 t1 fun t15 =>
      LD w4 t15 fun t16 =>
      SLC (.sl 1) t16 none (some (.int .i64 3000)) fun t17 =>
      FA 4 t1 fun t18 =>
      ST 1 w4 t18 t17 fun w6 =>
      J  w6) (
      J  w4))
   (fun  w5 =>
    LDN 5 w5 t1 fun t19 =>
    ST 5 w5 t2 t19 fun w7 =>
    LDN 5 w7 t2 fun r =>
    K r w7)
def plan18 : Plan := .seq (.reg (.op 0 false (.op 1 false .nil))) (.seq (.reg (.sq 0 5 .nil)) (.seq (.reg (.sq 0 5 .nil)) (.jseq [] [1, 2] (.seq (.reg (.sq 0 4 .nil)) (.cond (.reg (.sq 0 5 .nil)) (.leaf))) (.seq (.reg (.op 0 false (.op 1 false .nil))) (.leaf)))))
theorem chk18 : chkC Tryz.prog (codeOf Tryz.f18) plan18 = true := by kernel_rfl
theorem n18 {t0 : Value} {w : World} {K : Value → World → Prop} {X : List PanicEntry → World → Prop} (h : N18 t0 w K X) : CAL Tryz.prog 18 #[t0] w K X :=
  cal (args := [t0]) plan18 Tryz.func18 rfl chk18 (by kernel_rfl) (R := N18 t0 w K X) (by kernel_rfl) h

/-- bellows/bellowslaw06.Same -/
def N19 (t0 t1 : Value) (w : World) (K : Value → World → Prop) (_X : List PanicEntry → World → Prop) : Prop :=
  BOX t0 44 w fun t2 w1 =>
  BOX t1 44 w1 fun t3 w2 =>
  FA 0 t2 fun t5 =>
  LD w2 t5 fun t6 =>
  FA 0 t3 fun t7 =>
  LD w2 t7 fun t8 =>
  BIN .int .eql t6 t8 fun t9 =>
  GRP t9 true (.bool false) w2 (fun J =>
    FA 1 t2 fun t11 =>
    LD w2 t11 fun t12 =>
    RUN Tryz.prog (convert 34 9 t12) w2 fun t13 w4 =>
    FA 1 t3 fun t14 =>
    LD w4 t14 fun t15 =>
    RUN Tryz.prog (convert 34 9 t15) w4 fun t16 w5 =>
    BIN .str .eql t13 t16 fun t17 =>
    J t17 w5)
   (fun t18 w3 =>
    GRP t18 true (.bool false) w3 (fun J_1 =>
      FA 2 t2 fun t20 =>
      LD w3 t20 fun t21 =>
      FA 2 t3 fun t22 =>
      LD w3 t22 fun t23 =>
      BIN .str .eql t21 t23 fun t24 =>
      J_1 t24 w3)
     (fun t25 w6 =>
      GRP t25 true (.bool false) w6 (fun J_2 =>
        FA 3 t2 fun t27 =>
        LD w6 t27 fun t28 =>
        FA 3 t3 fun t29 =>
        LD w6 t29 fun t30 =>
        BIN .int .eql t28 t30 fun t31 =>
        J_2 t31 w6)
       (fun t32 w7 =>
        GRP t32 true (.bool false) w7 (fun J_3 =>
          FA 4 t2 fun t34 =>
          LD w7 t34 fun t35 =>
          FA 4 t3 fun t36 =>
          LD w7 t36 fun t37 =>
          BIN .int .eql t35 t37 fun t38 =>
          J_3 t38 w7)
         (fun t39 w8 =>
          K t39 w8))))
def plan19 : Plan := .seq (.reg (.sq 0 3 .nil)) (.seq (.reg (.sq 0 6 (.grp 5 true (.sq 6 7 .nil) 13 (.op 14 false (.grp 14 true (.sq 15 5 .nil) 20 (.op 21 false (.grp 21 true (.sq 22 5 .nil) 27 (.op 28 false (.grp 28 true (.sq 29 5 .nil) 34 (.op 35 false .nil)))))))))) (.leaf))
theorem chk19 : chkC Tryz.prog (codeOf Tryz.f19) plan19 = true := by kernel_rfl
theorem n19 {t0 t1 : Value} {w : World} {K : Value → World → Prop} {X : List PanicEntry → World → Prop} (h : N19 t0 t1 w K X) : CAL Tryz.prog 19 #[t0, t1] w K X :=
  cal (args := [t0, t1]) plan19 Tryz.func19 rfl chk19 (by kernel_rfl) (R := N19 t0 t1 w K X) (by kernel_rfl) h

/-- bellows/bellowslaw06.main1 -/
def N21 (t0 t1 t2 : Value) (w : World) (K : Value → World → Prop) (X : List PanicEntry → World → Prop) : Prop :=
  AL Tryz.prog 27 w fun t6 w1 =>
  CAL Tryz.prog 22 #[] w1 (fun t9 w2 =>
    AL Tryz.prog 27 w2 fun t7 w3 =>
    ST 7 w3 t7 t9 fun w4 =>
    FA 1 t7 fun t10 =>
    LD w4 t10 fun t11 =>
    BSLC Tryz.prog 28 1 [(0, (.int .i64 0))] w4 fun t12 w5 =>
    BLD Tryz.prog 82 [(0, (.int .i64 2)), (1, t12)] fun t13 =>
    BSLC Tryz.prog 23 1 [(0, t13)] w5 fun t14 w6 =>
    RUN Tryz.prog (Builtin.append_ #[23, 23] 23 #[t11, t14]) w6 fun t15 w7 =>
    FA 1 t7 fun t16 =>
    ST 1 w7 t16 t15 fun w8 =>
    FA 2 t7 fun t18 =>
    ST 1 w8 t18 t1 fun w9 =>
    BSLC Tryz.prog 24 4 [(0, (.string ⟨#[77, 97, 116, 99, 104]⟩)), (1, (.string ⟨#[68, 105, 118]⟩)), (2, (.string ⟨#[83, 117, 98, 115, 99, 114, 105, 112, 116]⟩)), (3, (.string ⟨#[83, 105, 122, 101]⟩))] w9 fun t19 w10 =>
    FA 3 t7 fun t20 =>
    ST 1 w10 t20 t19 fun w11 =>
    BLD Tryz.prog 30 [(0, (.int .i64 1))] fun t22 =>
    BLD Tryz.prog 30 [(0, (.int .i64 22))] fun t23 =>
    BSLC Tryz.prog 54 2 [(0, t22), (1, t23)] w11 fun t24 w12 =>
    RUN Tryz.prog (Builtin.append_ #[54, 54] 54 #[t2, t24]) w12 fun t25 w13 =>
    BLD Tryz.prog 61 [(1, t25)] fun t26 =>
    AL Tryz.prog 61 w13 fun t8 w14 =>
    ST 2 w14 t8 t26 fun w15 =>
    LOOP1 (.int .i64 0) w15 fun t28 w16 back =>
      BIN .int .lss t28 t0 fun t29 =>
      CND t29 (
        FA 0 t8 fun t30 =>
        LD w16 t30 fun t31 =>
        BSLC Tryz.prog 28 1 [(0, (.int .i64 (-1)))] w16 fun t32 w17 =>
        RUN Tryz.prog (Builtin.append_ #[28, 28] 28 #[t31, t32]) w17 fun t33 w18 =>
        FA 0 t8 fun t34 =>
        ST 1 w18 t34 t33 fun w19 =>
        BIN .int .add t28 (.int .i64 1) fun t35 =>
        back t35 w19) (
        FA 4 t7 fun t36 =>
        LD w16 t36 fun t37 =>
        LDN 2 w16 t8 fun t39 =>
        BSLC Tryz.prog 62 1 [(0, t39)] w16 fun t40 w20 =>
        BLD Tryz.prog 64 [(2, t0), (3, t40)] fun t41 =>
        IA 4 t37 (.int .i64 0) fun t42 =>
        ST 4 w20 t42 t41 fun w21 =>
        LDN 7 w21 t7 fun t43 =>
        ST 7 w21 t6 t43 fun w22 =>
        LDN 7 w22 t6 fun r =>
        K r w22)) X
def plan21 : Plan := .seq (.reg (.op 0 false .nil)) (.seq (.reg (.sq 0 3 .nil)) (.seq (.reg (.sq 0 8 .nil)) (.seq (.reg (.sq 0 3 .nil)) (.seq (.reg (.sq 0 3 .nil)) (.seq (.reg (.sq 0 8 .nil)) (.seq (.seq (.reg (.op 0 false (.op 1 false .nil))) (.block (.loop [28] [0, 6, 7, 8, 27] (.seq (.reg (.op 0 false .nil)) (.seq (.cond (.leaf) (.leaf)) (.seq (.block (.reg (.sq 0 6 .nil))) (.reg (.op 0 false (.op 1 false .nil))))))))) (.seq (.reg (.sq 0 8 .nil)) (.seq (.reg (.op 0 false (.op 1 false .nil))) (.leaf)))))))))
theorem chk21 : chkC Tryz.prog (codeOf Tryz.f21) plan21 = true := by kernel_rfl
theorem n21 {t0 t1 t2 : Value} {w : World} {K : Value → World → Prop} {X : List PanicEntry → World → Prop} (h : N21 t0 t1 t2 w K X) : CAL Tryz.prog 21 #[t0, t1, t2] w K X :=
  cal (args := [t0, t1, t2]) plan21 Tryz.func21 rfl chk21 (by kernel_rfl) (R := N21 t0 t1 t2 w K X) (by kernel_rfl) h

/-- bellows/bellowslaw05.Least -/
def N22 (w : World) (K : Value → World → Prop) (_X : List PanicEntry → World → Prop) : Prop :=
  AL Tryz.prog 27 w fun t0 w1 =>
  BLD Tryz.prog 84 [(0, (.bool true))] fun t1 =>
  BSLC Tryz.prog 28 1 [(0, (.int .i64 0))] w1 fun t2 w2 =>
  BLD Tryz.prog 84 [(1, t2)] fun t3 =>
  BSLC Tryz.prog 22 2 [(0, t1), (1, t3)] w2 fun t4 w3 =>
  BLD Tryz.prog 82 [(0, (.int .i64 3))] fun t5 =>
  BSLC Tryz.prog 23 1 [(0, t5)] w3 fun t6 w4 =>
  BSLC Tryz.prog 28 1 [(0, (.int .i64 (-1)))] w4 fun t7 w5 =>
  BLD Tryz.prog 30 [(0, (.int .i64 1)), (5, (.int .i64 5))] fun t8 =>
  BLD Tryz.prog 30 [(0, (.int .i64 22))] fun t9 =>
  BSLC Tryz.prog 54 2 [(0, t8), (1, t9)] w5 fun t10 w6 =>
  BLD Tryz.prog 61 [(0, t7), (1, t10)] fun t11 =>
  BSLC Tryz.prog 62 1 [(0, t11)] w6 fun t12 w7 =>
  BLD Tryz.prog 64 [(2, (.int .i64 1)), (3, t12)] fun t13 =>
  BSLC Tryz.prog 25 1 [(0, t13)] w7 fun t14 w8 =>
  BLD Tryz.prog 27 [(0, t4), (1, t6), (4, t14)] fun t15 =>
  ST 7 w8 t0 t15 fun w9 =>
  LDN 7 w9 t0 fun r =>
  K r w9
def plan22 : Plan := .seq (.reg (.op 0 false .nil)) (.seq (.reg (.sq 0 16 .nil)) (.leaf))
theorem chk22 : chkC Tryz.prog (codeOf Tryz.f22) plan22 = true := by kernel_rfl
theorem n22 {w : World} {K : Value → World → Prop} {X : List PanicEntry → World → Prop} (h : N22 w K X) : CAL Tryz.prog 22 #[] w K X :=
  cal (args := []) plan22 Tryz.func22 rfl chk22 (by kernel_rfl) (R := N22 w K X) (by kernel_rfl) h

/-- bellows/bellowslaw04.Light -/
def N23 (t0 : Value) (w : World) (K : Value → World → Prop) (_X : List PanicEntry → World → Prop) : Prop :=
  BOX t0 27 w fun t1 w1 =>
  FA 0 t1 fun t16 =>
  LD w1 t16 fun t17 =>
  LEN (.sl 2) t17 fun t18 =>
  BIN .int .sub (.int .i64 40000) t18 fun t19 =>
  FA 1 t1 fun t20 =>
  LD w1 t20 fun t21 =>
  LEN (.sl 3) t21 fun t22 =>
  BIN .int .sub t19 t22 fun t23 =>
  FA 2 t1 fun t24 =>
  LD w1 t24 fun t25 =>
  LEN (.sl 1) t25 fun t26 =>
  BIN .int .sub t23 t26 fun t27 =>
  FA 3 t1 fun t28 =>
  LD w1 t28 fun t29 =>
  LEN (.sl 1) t29 fun t30 =>
  BIN .int .sub t27 t30 fun t31 =>
  FA 4 t1 fun t32 =>
  LD w1 t32 fun t33 =>
  LEN (.sl 4) t33 fun t34 =>
  BIN .int .sub t31 t34 fun t35 =>
  FA 0 t1 fun t36 =>
  LD w1 t36 fun t37 =>
  LEN (.sl 2) t37 fun t38 =>
  LOOP2 t35 (.int .i64 0) w1 fun t3 t39 w2 back =>
    BIN .int .lss t39 t38 fun t40 =>
    CND t40 (
      IA 2 t37 t39 fun t41 =>
      LDN 2 w2 t41 fun t42 =>
      AL Tryz.prog 84 w2 fun t5 w3 =>
      ST 2 w3 t5 t42 fun w4 =>
      FA 1 t5 fun t44 =>
      LD w4 t44 fun t45 =>
      LEN (.sl 1) t45 fun t46 =>
      BIN .int .sub t3 t46 fun t47 =>
      BIN .int .lss t47 (.int .i64 0) fun t49 =>
      CND t49 (
        K (.bool false) w4) (
        BIN .int .add t39 (.int .i64 1) fun t50 =>
        back t47 t50 w4)) (
      FA 1 t1 fun t51 =>
      LD w2 t51 fun t52 =>
      LEN (.sl 3) t52 fun t53 =>
      LOOP2 t3 (.int .i64 0) w2 fun t3_1 t54 w5 back_1 =>
        BIN .int .lss t54 t53 fun t55 =>
        CND t55 (
          IA 3 t52 t54 fun t56 =>
          LDN 3 w5 t56 fun t57 =>
          AL Tryz.prog 82 w5 fun t7 w6 =>
          ST 3 w6 t7 t57 fun w7 =>
          FA 1 t7 fun t59 =>
          LD w7 t59 fun t60 =>
          LEN (.sl 1) t60 fun t61 =>
          FA 2 t7 fun t62 =>
          LD w7 t62 fun t63 =>
          LEN .str t63 fun t64 =>
          BIN .int .add t61 t64 fun t65 =>
          BIN .int .sub t3_1 t65 fun t66 =>
          BIN .int .lss t66 (.int .i64 0) fun t68 =>
          CND t68 (
            K (.bool false) w7) (
            BIN .int .add t54 (.int .i64 1) fun t69 =>
            back_1 t66 t69 w7)) (
          FA 2 t1 fun t71 =>
          LD w5.drew t71 fun t72 =>
          FA 3 t1 fun t74 =>
          LD w5.drew t74 fun t75 =>
          BSLC Tryz.prog 24 0 [] w5.drew fun t70 w8 =>
          (Keeps w5.drew w8 ∧ (
          RUN Tryz.prog (Builtin.append_ #[24, 24] 24 #[t70, t72]) w8 fun t73 w9 =>
          (Keeps w8 w9 ∧ (
          RUN Tryz.prog (Builtin.append_ #[24, 24] 24 #[t73, t75]) w9 fun t76 w10 =>
          LEN (.sl 1) t76 fun t77 =>
          LOOP2 t3_1 (.int .i64 0) w10 fun t3_2 t78 w11 back_2 =>
            BIN .int .lss t78 t77 fun t79 =>
            CND t79 (
              IA 1 t76 t78 fun t80 =>
              LD w11 t80 fun t81 =>
              LEN .str t81 fun t84 =>
              BIN .int .sub t3_2 t84 fun t85 =>
              BIN .int .lss t85 (.int .i64 0) fun t87 =>
              CND t87 (
                K (.bool false) w11) (
                BIN .int .add t78 (.int .i64 1) fun t88 =>
                back_2 t85 t88 w11)) (
              FA 4 t1 fun t89 =>
              LD w11 t89 fun t90 =>
              LEN (.sl 4) t90 fun t91 =>
              LOOP2 t3_2 (.int .i64 0) w11 fun t3_3 t92 w12 back_3 =>
                BIN .int .lss t92 t91 fun t93 =>
                CND t93 (
                  IA 4 t90 t92 fun t94 =>
                  LDN 4 w12 t94 fun t95 =>
                  AL Tryz.prog 64 w12 fun t11 w13 =>
                  ST 4 w13 t11 t95 fun w14 =>
                  FA 0 t11 fun t97 =>
                  LD w14 t97 fun t98 =>
                  LEN (.sl 1) t98 fun t99 =>
                  FA 3 t11 fun t100 =>
                  LD w14 t100 fun t101 =>
                  LEN (.sl 2) t101 fun t102 =>
                  BIN .int .add t99 t102 fun t103 =>
                  BIN .int .sub t3_3 t103 fun t104 =>
                  BIN .int .lss t104 (.int .i64 0) fun t106 =>
                  CND t106 (
                    K (.bool false) w14) (
                    FA 3 t11 fun t107 =>
                    LD w14 t107 fun t108 =>
                    LEN (.sl 2) t108 fun t109 =>
                    LOOP2 t104 (.int .i64 0) w14 fun t3_4 t110 w15 back_4 =>
                      BIN .int .lss t110 t109 fun t111 =>
                      CND t111 (
                        IA 2 t108 t110 fun t112 =>
                        LDN 2 w15 t112 fun t113 =>
                        AL Tryz.prog 61 w15 fun t13 w16 =>
                        ST 2 w16 t13 t113 fun w17 =>
                        FA 0 t13 fun t115 =>
                        LD w17 t115 fun t116 =>
                        LEN (.sl 1) t116 fun t117 =>
                        FA 1 t13 fun t118 =>
                        LD w17 t118 fun t119 =>
                        LEN (.sl 9) t119 fun t120 =>
                        BIN .int .add t117 t120 fun t121 =>
                        BIN .int .sub t3_4 t121 fun t122 =>
                        BIN .int .lss t122 (.int .i64 0) fun t124 =>
                        CND t124 (
                          K (.bool false) w17) (
                          FA 1 t13 fun t125 =>
                          LD w17 t125 fun t126 =>
                          LEN (.sl 9) t126 fun t127 =>
                          LOOP2 t122 (.int .i64 0) w17 fun t3_5 t128 w18 back_5 =>
                            BIN .int .lss t128 t127 fun t129 =>
                            CND t129 (
                              IA 9 t126 t128 fun t130 =>
                              LDN 9 w18 t130 fun t131 =>
                              AL Tryz.prog 30 w18 fun t15 w19 =>
                              ST 9 w19 t15 t131 fun w20 =>
                              FA 6 t15 fun t133 =>
                              LD w20 t133 fun t134 =>
                              LEN (.sl 1) t134 fun t135 =>
                              FA 7 t15 fun t136 =>
                              LD w20 t136 fun t137 =>
                              LEN (.sl 1) t137 fun t138 =>
                              BIN .int .add t135 t138 fun t139 =>
                              FA 8 t15 fun t140 =>
                              LD w20 t140 fun t141 =>
                              LEN (.sl 1) t141 fun t142 =>
                              BIN .int .add t139 t142 fun t143 =>
                              BIN .int .sub t3_5 t143 fun t144 =>
                              BIN .int .lss t144 (.int .i64 0) fun t146 =>
                              CND t146 (
                                K (.bool false) w20) (
                                BIN .int .add t128 (.int .i64 1) fun t147 =>
                                back_5 t144 t147 w20)) (
                              BIN .int .add t110 (.int .i64 1) fun t148 =>
                              back_4 t3_5 t148 w18))) (
                        BIN .int .add t92 (.int .i64 1) fun t149 =>
                        back_3 t3_4 t149 w15))) (
                  BIN .int .geq t3_3 (.int .i64 0) fun t151 =>
                  K t151 w12))))))))
def plan23 : Plan := .seq (.reg (.op 0 false (.op 1 false .nil))) (.seq (.reg (.sq 0 21 .nil)) (.seq (.seq (.reg (.sq 0 4 .nil)) (.block (.loop [3, 39] [1, 37, 38] (.seq (.reg (.op 0 false .nil)) (.seq (.cond (.leaf) (.leaf)) (.seq (.block (.seq (.reg (.sq 0 4 .nil)) (.seq (.reg (.sq 0 6 .nil)) (.seq (.reg (.op 0 false (.op 1 false .nil))) (.cond (.seq (.reg (.op 0 false .nil)) (.leaf)) (.leaf)))))) (.reg (.op 0 false (.op 1 false .nil))))))))) (.seq (.seq (.reg (.sq 0 4 .nil)) (.block (.loop [3, 54] [1, 52, 53] (.seq (.reg (.op 0 false .nil)) (.seq (.cond (.leaf) (.leaf)) (.seq (.block (.seq (.reg (.sq 0 4 .nil)) (.seq (.reg (.sq 0 10 .nil)) (.seq (.reg (.op 0 false (.op 1 false .nil))) (.cond (.seq (.reg (.op 0 false .nil)) (.leaf)) (.leaf)))))) (.reg (.op 0 false (.op 1 false .nil))))))))) (.seq (.seq (.reg (.op 1 false (.op 2 false (.op 4 false (.op 5 false (.op 8 false (.op 0 true (.op 3 true (.op 6 false (.op 7 false .nil)))))))))) (.block (.loop [3, 78] [1, 76, 77] (.seq (.reg (.op 0 false .nil)) (.seq (.cond (.leaf) (.leaf)) (.seq (.block (.seq (.reg (.sq 0 3 .nil)) (.seq (.reg (.sq 0 5 .nil)) (.seq (.reg (.op 0 false (.op 1 false .nil))) (.cond (.seq (.reg (.op 0 false .nil)) (.leaf)) (.leaf)))))) (.reg (.op 0 false (.op 1 false .nil))))))))) (.seq (.seq (.reg (.sq 0 4 .nil)) (.block (.loop [3, 92] [90, 91] (.seq (.reg (.op 0 false .nil)) (.seq (.cond (.leaf) (.leaf)) (.seq (.block (.seq (.reg (.sq 0 4 .nil)) (.seq (.seq (.reg (.sq 0 10 .nil)) (.seq (.reg (.op 0 false (.op 1 false .nil))) (.cond (.seq (.reg (.op 0 false .nil)) (.leaf)) (.leaf)))) (.seq (.reg (.sq 0 4 .nil)) (.block (.loop [3, 110] [90, 91, 92, 108, 109] (.seq (.reg (.op 0 false .nil)) (.seq (.cond (.leaf) (.leaf)) (.seq (.block (.seq (.reg (.sq 0 4 .nil)) (.seq (.seq (.reg (.sq 0 10 .nil)) (.seq (.reg (.op 0 false (.op 1 false .nil))) (.cond (.seq (.reg (.op 0 false .nil)) (.leaf)) (.leaf)))) (.seq (.reg (.sq 0 4 .nil)) (.block (.loop [3, 128] [90, 91, 92, 108, 109, 110, 126, 127] (.seq (.reg (.op 0 false .nil)) (.seq (.cond (.leaf) (.leaf)) (.seq (.block (.seq (.reg (.sq 0 4 .nil)) (.seq (.reg (.sq 0 14 .nil)) (.seq (.reg (.op 0 false (.op 1 false .nil))) (.cond (.seq (.reg (.op 0 false .nil)) (.leaf)) (.leaf)))))) (.reg (.op 0 false (.op 1 false .nil)))))))))))) (.reg (.op 0 false (.op 1 false .nil)))))))))))) (.reg (.op 0 false (.op 1 false .nil))))))))) (.seq (.reg (.sq 0 3 .nil)) (.leaf)))))))
theorem chk23 : chkC Tryz.prog (codeOf Tryz.f23) plan23 = true := by kernel_rfl
theorem n23 {t0 : Value} {w : World} {K : Value → World → Prop} {X : List PanicEntry → World → Prop} (h : N23 t0 w K X) : CAL Tryz.prog 23 #[t0] w K X :=
  cal (args := [t0]) plan23 Tryz.func23 rfl chk23 (by kernel_rfl) (R := N23 t0 w K X) (by kernel_rfl) h

end Go.Proofs.YtgnfodphfgmdlaaGreat
/- Images that the laws build: their parts, laid anew; the least image. -/
namespace Go.GX
open Go

abbrev nilS : Value := .slice none 0 0
def insV (x : InstrS) (l : Value) : Value := .agg #[vInt x.op, vInt x.d, vInt x.a, vInt x.b, vInt x.c, vInt x.n, l, nilS, nilS]
def blkV (i c : Value) : Value := .agg #[i, c]
def funV (p : Value) (r s : Int) (b : Value) : Value := .agg #[p, vInt r, vInt s, b]

theorem Sl.nil {α : Type} {sz : Nat} {R : Addr → α → Prop} : Sl sz R nilS ([] : List α) := ⟨by unfold LenOk; simp, none, 0, rfl, .inl rfl⟩
theorem Sl.of_at {α : Type} {sz : Nat} {R : Addr → α → Prop} {b c n : Nat} {l : List α} (hn : l.length = n) (hl : LenOk l.length) (h : ∀ (i : Nat) x, l[i]? = some x → R ⟨b, i * sz, none⟩ x) : Sl sz R (.slice (some ⟨b, 0, none⟩) n c) l := by
  subst hn
  exact ⟨hl, _, c, rfl, .inr ⟨b, 0, rfl, fun i x hx => by rw [Nat.zero_add]; exact h i x hx⟩⟩

/-- An instruction that a law writes. -/
structure InsOk (w : World) (x : InstrS) (l : Value) : Prop where
  nums : I64 x.op ∧ I64 x.d ∧ I64 x.a ∧ I64 x.b ∧ I64 x.c ∧ I64 x.n
  m : x.m = []
  live : x.live = []
  l : Sl 1 (IntAt w) l x.l

section
variable {w w' : World}
theorem Sl.ints (e : Ext w w') {v : Value} {l : List Int} (h : Sl 1 (IntAt w) v l) : Sl 1 (IntAt w') v l := Sl.mono (fun _ _ h => IntAt.ext e h) h
theorem InsOk.ext (e : Ext w w') {x : InstrS} {l : Value} (h : InsOk w x l) : InsOk w' x l := ⟨h.nums, h.m, h.live, h.l.ints e⟩
theorem InsOk.at {x : InstrS} {l : Value} (h : InsOk w x l) {b o : Nat} (hc : ∀ (j : Nat) u, [vInt x.op, vInt x.d, vInt x.a, vInt x.b, vInt x.c, vInt x.n, l, nilS, nilS][j]? = some u → w.cell? ⟨b, o + j, none⟩ = some u) : InstrAt w ⟨b, o, none⟩ x :=
  ⟨⟨hc 0 _ rfl, h.nums.1⟩, ⟨hc 1 _ rfl, h.nums.2.1⟩, ⟨hc 2 _ rfl, h.nums.2.2.1⟩, ⟨hc 3 _ rfl, h.nums.2.2.2.1⟩, ⟨hc 4 _ rfl, h.nums.2.2.2.2.1⟩, ⟨hc 5 _ rfl, h.nums.2.2.2.2.2⟩,
    ⟨l, hc 6 _ rfl, h.l⟩, ⟨nilS, hc 7 _ rfl, by rw [h.m]; exact Sl.nil⟩, ⟨nilS, hc 8 _ rfl, by rw [h.live]; exact Sl.nil⟩⟩
end

end Go.GX
namespace Go.Proofs.YtgnfodphfgmdlaaGreat
open Go Go.GX
set_option maxRecDepth 20000

theorem bt22 : bslP Tryz.prog 22 = some (.mk 84 2 [.bool false, .slice none 0 0]) := by kernel_rfl
theorem bt23 : bslP Tryz.prog 23 = some (.mk 82 3 [vInt 0, .slice none 0 0, .string ByteArray.empty]) := by kernel_rfl
theorem bt28 : bslP Tryz.prog 28 = some (.mk 3 1 [vInt 0]) := by kernel_rfl
theorem bt54 : bslP Tryz.prog 54 = some (.mk 30 9 [vInt 0,vInt 0,vInt 0,vInt 0,vInt 0,vInt 0,.slice none 0 0,.slice none 0 0,.slice none 0 0]) := by kernel_rfl
theorem bt62 : bslP Tryz.prog 62 = some (.mk 61 2 [.slice none 0 0,.slice none 0 0]) := by kernel_rfl
theorem bt25 : bslP Tryz.prog 25 = some (.mk 64 4 [.slice none 0 0,vInt 0, vInt 0,.slice none 0 0]) := by kernel_rfl
theorem elem25 : Elem Tryz.prog 25 64 4 64 := Elem.of (z := .agg #[.slice none 0 0,vInt 0, vInt 0,.slice none 0 0]) (by kernel_rfl) (by kernel_rfl) rfl
theorem elem28 : Elem Tryz.prog 28 3 1 8 := Elem.of (z := vInt 0) (by kernel_rfl) (by kernel_rfl) rfl
section
variable (K : Value → Prop)
theorem bi0 (op : Int) : BLD Tryz.prog 30 [(0, vInt op)] K = K (insV ⟨op, 0, 0, 0, 0, 0, [], [], []⟩ nilS) := by kernel_rfl
theorem bi05 (op n : Int) : BLD Tryz.prog 30 [(0, vInt op), (5, vInt n)] K = K (insV ⟨op, 0, 0, 0, 0, n, [], [], []⟩ nilS) := by kernel_rfl
theorem bi015 (op d n : Int) : BLD Tryz.prog 30 [(0, vInt op), (1, vInt d), (5, vInt n)] K = K (insV ⟨op, d, 0, 0, 0, n, [], [], []⟩ nilS) := by kernel_rfl
theorem bi035 (op b n : Int) : BLD Tryz.prog 30 [(0, vInt op), (3, vInt b), (5, vInt n)] K = K (insV ⟨op, 0, 0, b, 0, n, [], [], []⟩ nilS) := by kernel_rfl
theorem bi034 (op b c : Int) : BLD Tryz.prog 30 [(0, vInt op), (3, vInt b), (4, vInt c)] K = K (insV ⟨op, 0, 0, b, c, 0, [], [], []⟩ nilS) := by kernel_rfl
theorem bi0236 (op a b : Int) (l : List Int) (x : Option Addr) (n c : Nat) : BLD Tryz.prog 30 [(0, vInt op), (2, vInt a), (3, vInt b), (6, .slice x n c)] K = K (insV ⟨op, 0, a, b, 0, 0, l, [], []⟩ (.slice x n c)) := by kernel_rfl
theorem bb01 (x y : Option Addr) (n c m d : Nat) : BLD Tryz.prog 61 [(0, .slice x n c), (1, .slice y m d)] K = K (blkV (.slice x n c) (.slice y m d)) := by kernel_rfl
theorem bf23 (s : Int) (y : Option Addr) (m d : Nat) : BLD Tryz.prog 64 [(2, vInt s), (3, .slice y m d)] K = K (funV nilS 0 s (.slice y m d)) := by kernel_rfl
theorem bf023 (s : Int) (x y : Option Addr) (n c m d : Nat) : BLD Tryz.prog 64 [(0, .slice x n c), (2, vInt s), (3, .slice y m d)] K = K (funV (.slice x n c) 0 s (.slice y m d)) := by kernel_rfl
theorem bty0 (b : Bool) : BLD Tryz.prog 84 [(0, .bool b)] K = K (.agg #[.bool b, nilS]) := by kernel_rfl
theorem bty1 (y : Option Addr) (m d : Nat) : BLD Tryz.prog 84 [(1, .slice y m d)] K = K (.agg #[.bool false, .slice y m d]) := by kernel_rfl
theorem bsh0 (k : Int) : BLD Tryz.prog 82 [(0, vInt k)] K = K (.agg #[vInt k, nilS, .string ByteArray.empty]) := by kernel_rfl
theorem bim (x y z : Option Addr) (n c m d k e : Nat) : BLD Tryz.prog 27 [(0, .slice x n c), (1, .slice y m d), (4, .slice z k e)] K = K (.agg #[.slice x n c, .slice y m d, nilS, nilS, .slice z k e, vInt 0, vInt 0]) := by kernel_rfl
theorem bsc13 (f s : Int) : BLD Tryz.prog 37 [(1, vInt f), (3, vInt s)] K = K (.agg #[nilS, vInt f, vInt 0, vInt s, nilS]) := by kernel_rfl
theorem zero27 : zlen (zeroB Tryz.prog 27) 7 = true := by kernel_rfl
end

section
variable {w : World} {K : Value → World → Prop}

def codeC (xs : List (InstrS × Value)) : List Value := (xs.map fun p => insV p.1 p.2).flatMap fun v => v.cells.toList

theorem code_at {b : Nat} {xs : List (InstrS × Value)} (hb : Blk w b 30 (codeC xs)) (hx : ∀ p ∈ xs, InsOk w p.1 p.2) (hn : xs.length ≤ 1000) {n c : Nat} (hnn : n = xs.length) : Sl 9 (InstrAt w) (.slice (some ⟨b, 0, none⟩) n c) (xs.map (·.1)) := by
  have hv : ∀ v ∈ (xs.map fun p => insV p.1 p.2), v.cells.toList.length = 9 := fun v hv => by
    obtain ⟨p, _, rfl⟩ := List.mem_map.1 hv; rfl
  refine Sl.of_at (by simp [hnn]) (by unfold LenOk; simp; omega) fun i x hi => ?_
  rw [List.getElem?_map, Option.map_eq_some_iff] at hi
  obtain ⟨p, hp, rfl⟩ := hi
  have hiv : (xs.map fun p => insV p.1 p.2)[i]? = some (insV p.1 p.2) := by rw [List.getElem?_map, hp]; rfl
  refine (hx p (List.mem_of_getElem? hp)).at fun j u hj => ?_
  have hj9 : j < 9 := (List.getElem?_eq_some_iff.1 hj).1
  unfold codeC at hb
  rw [hb.cell, flat_get 9 _ i _ hv hiv j hj9]
  exact hj

/-- Code that is laid. -/
theorem code_new (xs : List (InstrS × Value)) (hx : ∀ p ∈ xs, InsOk w p.1 p.2) (hn : xs.length ≤ 1000)
    (hK : ∀ w' n c, Ext w w' → w'.heap.size = w.heap.size + 1 → n = xs.length → Blk w' w.heap.size 30 (codeC xs) → Sl 9 (InstrAt w') (.slice (some ⟨w.heap.size, 0, none⟩) n c) (xs.map (·.1)) → K (.slice (some ⟨w.heap.size, 0, none⟩) n c) w') : BSLC Tryz.prog 54 xs.length (partsFrom 0 (xs.map fun p => insV p.1 p.2)) w K := by
  have hv : ∀ v ∈ (xs.map fun p => insV p.1 p.2), v.cells.toList.length = 9 := fun v hv => by
    obtain ⟨p, _, rfl⟩ := List.mem_map.1 hv; rfl
  have := BSLC_all (K := K) (w := w) bt54 (xs.map fun (p : InstrS × Value) => insV p.1 p.2) hv (by simp; omega) fun w' e1 hb hs =>
    hK w' _ _ e1 hs (by simp) hb (code_at hb (fun p hp => (hx p hp).ext e1) hn (by simp))
  rw [List.length_map] at this
  exact this

/-- Numbers that are laid. -/
theorem ints_new (xs : List Int) (hx : ∀ x ∈ xs, I64 x) (hn : xs.length ≤ 1000)
    (hK : ∀ w' n c, Ext w w' → w'.heap.size = w.heap.size + 1 → Blk w' w.heap.size 3 (xs.map vInt) → Sl 1 (IntAt w') (.slice (some ⟨w.heap.size, 0, none⟩) n c) xs → n = xs.length → c = xs.length → K (.slice (some ⟨w.heap.size, 0, none⟩) n c) w') : BSLC Tryz.prog 28 xs.length (partsFrom 0 (xs.map vInt)) w K := by
  have := BSLC_all (K := K) (w := w) bt28 (xs.map vInt) (fun v hv => by obtain ⟨p, _, rfl⟩ := List.mem_map.1 hv; rfl) (by simp; omega) fun w' e1 hb hs => by
    have hf : ((xs.map vInt).flatMap fun v => v.cells.toList) = xs.map vInt := by
      clear hb hK hn hx
      induction xs with
      | nil => rfl
      | cons x r ih => rw [List.map_cons, List.flatMap_cons, ih]; rfl
    rw [hf] at hb
    refine hK w' _ _ e1 hs hb (Sl.of_at (by simp) (by unfold LenOk; omega) fun i x hi => ⟨?_, hx x (List.mem_of_getElem? hi)⟩) (by simp) (by simp)
    rw [hb.cell, Nat.mul_one, List.getElem?_map, hi]; rfl
  rw [List.length_map] at this
  exact this

def blkC (xs : List (BlockS × Value × Value)) : List Value := (xs.map fun p => blkV p.2.1 p.2.2).flatMap fun v => v.cells.toList

theorem blks_at {b : Nat} {xs : List (BlockS × Value × Value)} (hb : Blk w b 61 (blkC xs)) (hx : ∀ p ∈ xs, Sl 1 (IntAt w) p.2.1 p.1.inn ∧ Sl 9 (InstrAt w) p.2.2 p.1.code) (hn : xs.length ≤ 1000) {n c : Nat} (hnn : n = xs.length) : Sl 2 (BlockAt w) (.slice (some ⟨b, 0, none⟩) n c) (xs.map (·.1)) := by
  have hv : ∀ v ∈ (xs.map fun p => blkV p.2.1 p.2.2), v.cells.toList.length = 2 := fun v hv => by
    obtain ⟨p, _, rfl⟩ := List.mem_map.1 hv; rfl
  refine Sl.of_at (by simp [hnn]) (by unfold LenOk; simp; omega) fun i x hi => ?_
  rw [List.getElem?_map, Option.map_eq_some_iff] at hi
  obtain ⟨p, hp, rfl⟩ := hi
  have hiv : (xs.map fun p => blkV p.2.1 p.2.2)[i]? = some (blkV p.2.1 p.2.2) := by rw [List.getElem?_map, hp]; rfl
  have hh := hx p (List.mem_of_getElem? hp)
  have c0 := flat_get 2 _ i _ hv hiv 0 (by omega)
  have c1 := flat_get 2 _ i _ hv hiv 1 (by omega)
  unfold blkC at hb
  refine ⟨⟨p.2.1, ?_, hh.1⟩, ⟨p.2.2, ?_, hh.2⟩⟩
  · show w.cell? ⟨b, i * 2 + 0, none⟩ = _
    rw [hb.cell, c0]; rfl
  · show w.cell? ⟨b, i * 2 + 1, none⟩ = _
    rw [hb.cell, c1]; rfl

/-- Blocks that are laid. -/
theorem blks_new (xs : List (BlockS × Value × Value)) (hn : xs.length ≤ 1000)
    (hK : ∀ w' n c, Ext w w' → w'.heap.size = w.heap.size + 1 → n = xs.length → Blk w' w.heap.size 61 (blkC xs) → K (.slice (some ⟨w.heap.size, 0, none⟩) n c) w') : BSLC Tryz.prog 62 xs.length (partsFrom 0 (xs.map fun p => blkV p.2.1 p.2.2)) w K := by
  have hv : ∀ v ∈ (xs.map fun p => blkV p.2.1 p.2.2), v.cells.toList.length = 2 := fun v hv => by
    obtain ⟨p, _, rfl⟩ := List.mem_map.1 hv; rfl
  have := BSLC_all (K := K) (w := w) bt62 (xs.map fun (p : BlockS × Value × Value) => blkV p.2.1 p.2.2) hv (by simp; omega) fun w' e1 hb hs =>
    hK w' _ _ e1 hs (by simp) hb
  rw [List.length_map] at this
  exact this

theorem ints_at {b : Nat} {xs : List Int} {j : List Value} (hb : Blk w b 3 (xs.map vInt ++ j)) (hx : ∀ x ∈ xs, I64 x) (hn : xs.length ≤ 1000) {n c : Nat} (hnn : n = xs.length) : Sl 1 (IntAt w) (.slice (some ⟨b, 0, none⟩) n c) xs := by
  refine Sl.of_at hnn.symm (by unfold LenOk; omega) fun i x hi => ⟨?_, hx x (List.mem_of_getElem? hi)⟩
  rw [hb.cell, Nat.mul_one, List.getElem?_append_left (by simp; exact (List.getElem?_eq_some_iff.1 hi).1), List.getElem?_map, hi]; rfl
end

/-! ### The least image -/

def least0 (code : List InstrS) : FuncS := { params := [], result := 0, slots := 1, blocks := [{ inn := [-1], code := code }] }
def leastIm (fs : List FuncS) : ImageS := { types := [⟨true, []⟩, ⟨false, [0]⟩], shapes := [⟨3, [], ByteArray.empty⟩], strings := [], names := [], funcs := fs, main := 0, exn := 0 }

/-- What bellowslaw05.Least leaves: its blocks, with this for code. -/
structure LeastAt (w : World) (n : Nat) (cv : Value) : Prop where
  b1 : Blk w (n + 1) 3 [vInt 0]
  b2 : Blk w (n + 2) 84 [.bool true, nilS, .bool false, .slice (some ⟨n + 1, 0, none⟩) 1 1]
  b3 : Blk w (n + 3) 82 [vInt 3, nilS, .string ByteArray.empty]
  b4 : Blk w (n + 4) 3 [vInt (-1)]
  b6 : Blk w (n + 6) 61 [.slice (some ⟨n + 4, 0, none⟩) 1 1, cv]

theorem LeastAt.same {w w' : World} {n : Nat} {cv : Value} (h : LeastAt w n cv) (e : ∀ i, i ≤ n + 6 → n < i → w'.heap[i]? = w.heap[i]?) : LeastAt w' n cv :=
  ⟨h.b1.same (e _ (by omega) (by omega)), h.b2.same (e _ (by omega) (by omega)), h.b3.same (e _ (by omega) (by omega)), h.b4.same (e _ (by omega) (by omega)), h.b6.same (e _ (by omega) (by omega))⟩

def fun0C (n : Nat) : List Value := [nilS, vInt 0, vInt 1, .slice (some ⟨n + 6, 0, none⟩) 1 1]
def leastC (n : Nat) (fv : Value) : List Value := [.slice (some ⟨n + 2, 0, none⟩) 2 2, .slice (some ⟨n + 3, 0, none⟩) 1 1, nilS, nilS, fv, vInt 0, vInt 0]

section
variable {w : World} {n : Nat} {cv : Value} (h : LeastAt w n cv)
include h

theorem LeastAt.types : Sl 2 (TypeAt w) (.slice (some ⟨n + 2, 0, none⟩) 2 2) [⟨true, []⟩, ⟨false, [0]⟩] := by
  refine Sl.of_at rfl (by unfold LenOk; decide) fun i x hi => ?_
  match i, hi with
  | 0, hi => cases hi; exact ⟨by show w.cell? _ = _; rw [off, h.b2.cell]; rfl, nilS, by show w.cell? _ = _; rw [off, h.b2.cell]; rfl, Sl.nil⟩
  | 1, hi =>
    cases hi
    refine ⟨by show w.cell? _ = _; rw [off, h.b2.cell]; rfl, _, (by show w.cell? _ = some (.slice (some ⟨n + 1, 0, none⟩) 1 1); rw [off, h.b2.cell]; rfl), Sl.of_at rfl (by unfold LenOk; decide) fun i x hi => ?_⟩
    match i, hi with
    | 0, hi => cases hi; exact ⟨by rw [h.b1.cell]; rfl, by unfold I64; decide⟩

theorem LeastAt.shapes : Sl 3 (ShapeAt w) (.slice (some ⟨n + 3, 0, none⟩) 1 1) [⟨3, [], ByteArray.empty⟩] := by
  refine Sl.of_at rfl (by unfold LenOk; decide) fun i x hi => ?_
  match i, hi with
  | 0, hi => cases hi; exact ⟨⟨by rw [off, h.b3.cell]; rfl, by unfold I64; decide⟩, ⟨nilS, by rw [off, h.b3.cell]; rfl, Sl.nil⟩, ⟨by rw [off, h.b3.cell]; rfl, by unfold LenOk; decide⟩⟩

theorem LeastAt.fun0 {code : List InstrS} (hc : Sl 9 (InstrAt w) cv code) {b o : Nat} (hf : ∀ (j : Nat) u, (fun0C n)[j]? = some u → w.cell? ⟨b, o + j, none⟩ = some u) : FuncAt w ⟨b, o, none⟩ (least0 code) := by
  refine ⟨⟨nilS, hf 0 _ rfl, Sl.nil⟩, ⟨hf 1 _ rfl, show I64 0 by unfold I64; decide⟩, ⟨hf 2 _ rfl, show I64 1 by unfold I64; decide⟩, ⟨_, hf 3 _ rfl, Sl.of_at rfl (show LenOk 1 by unfold LenOk; decide) fun i x hi => ?_⟩⟩
  match i, hi with
  | 0, hi =>
    cases hi
    refine ⟨⟨_, (by show w.cell? _ = some (.slice (some ⟨n + 4, 0, none⟩) 1 1); rw [off, h.b6.cell]; rfl), Sl.of_at rfl (show LenOk 1 by unfold LenOk; decide) fun i x hi => ?_⟩, ⟨cv, by rw [off, h.b6.cell]; rfl, hc⟩⟩
    match i, hi with
    | 0, hi => cases hi; exact ⟨by rw [h.b4.cell]; rfl, by unfold I64; decide⟩

theorem LeastAt.img {fv : Value} {fs : List FuncS} (hf : Sl 4 (FuncAt w) fv fs) : ImgV w (leastC n fv) (leastIm fs) :=
  ⟨⟨_, _, _, _, _, rfl, h.types, h.shapes, Sl.nil, Sl.nil, hf⟩, show I64 0 by unfold I64; decide, show I64 0 by unfold I64; decide⟩

end
section
variable {w : World} {K : Value → World → Prop} {X : List PanicEntry → World → Prop}

/-- bellowslaw05.Least -/
theorem c22 (hK : ∀ w' cv, Ext w w' → w'.heap.size = w.heap.size + 8 → LeastAt w' w.heap.size cv → Blk w' (w.heap.size + 7) 64 (fun0C w.heap.size) →
      Sl 9 (InstrAt w') cv [⟨1, 0, 0, 0, 0, 5, [], [], []⟩, ⟨22, 0, 0, 0, 0, 0, [], [], []⟩] → K (.agg (leastC w.heap.size (.slice (some ⟨w.heap.size + 7, 0, none⟩) 1 1)).toArray) w') : CAL Tryz.prog 22 #[] w K X := n22 <| by
  unfold N22
  obtain ⟨z, hz, hzl⟩ := zlen_get zero27
  refine AL_new hz fun w1 e1 b0 s1 => ?_
  rw [bty0]
  refine BSLC_all bt28 [vInt 0] (fun v hv => by simp at hv; subst hv; rfl) (by simp) fun w2 e2 b1 s2 => ?_
  rw [bty1]
  refine BSLC_all bt22 [.agg #[.bool true, nilS], .agg #[.bool false, .slice (some ⟨w1.heap.size, 0, none⟩) 1 1]] (fun v hv => by simp at hv; rcases hv with rfl | rfl <;> rfl) (by simp) fun w3 e3 b2 s3 => ?_
  rw [bsh0]
  refine BSLC_all bt23 [.agg #[vInt 3, nilS, .string ByteArray.empty]] (fun v hv => by simp at hv; subst hv; rfl) (by simp) fun w4 e4 b3 s4 => ?_
  refine BSLC_all bt28 [vInt (-1)] (fun v hv => by simp at hv; subst hv; rfl) (by simp) fun w5 e5 b4 s5 => ?_
  rw [bi05, bi0]
  refine code_new [(⟨1, 0, 0, 0, 0, 5, [], [], []⟩, nilS), (⟨22, 0, 0, 0, 0, 0, [], [], []⟩, nilS)] (fun p hp => ?_) (by simp) fun w6 cn cc e6 s6 hcn b5 hcode => ?_
  · simp at hp
    rcases hp with rfl | rfl <;> exact ⟨by unfold I64; decide, rfl, rfl, Sl.nil⟩
  rw [bb01]
  refine BSLC_all bt62 [blkV (.slice (some ⟨w4.heap.size, 0, none⟩) 1 1) (.slice (some ⟨w5.heap.size, 0, none⟩) cn cc)] (fun v hv => by simp at hv; subst hv; rfl) (by simp) fun w7 e7 b6 s7 => ?_
  rw [bf23]
  refine BSLC_all bt25 [funV nilS 0 1 (.slice (some ⟨w6.heap.size, 0, none⟩) 1 1)] (fun v hv => by simp at hv; subst hv; rfl) (by simp) fun w8 e8 b7 s8 => ?_
  rw [bim]
  have E8 := e8
  have E7 := e7.trans e8
  have E6 := e6.trans E7
  have E5 := e5.trans E6
  have E4 := e4.trans E5
  have E3 := e3.trans E4
  have E2 := e2.trans E3
  rw [s1] at b1 s2
  rw [s2] at b2 s3
  rw [s3] at b3 s4
  rw [s4] at b4 s5
  rw [s5] at b5 s6
  rw [s6] at b6 s7
  rw [s7] at b7 s8
  refine ST_all (vs := [.slice (some ⟨w2.heap.size, 0, none⟩) 2 2, .slice (some ⟨w3.heap.size, 0, none⟩) 1 1, nilS, nilS, .slice (some ⟨w7.heap.size, 0, none⟩) 1 1, vInt 0, vInt 0]) (b0.ext E2) rfl (by rw [hzl]; rfl) (fun v hv => by simp at hv; rcases hv with rfl | rfl | rfl | rfl | rfl | rfl | rfl <;> rfl) fun w9 b9 s9 o9 => ?_
  refine LDN_at (vs := [.slice (some ⟨w2.heap.size, 0, none⟩) 2 2, .slice (some ⟨w3.heap.size, 0, none⟩) 1 1, nilS, nilS, .slice (some ⟨w7.heap.size, 0, none⟩) 1 1, vInt 0, vInt 0]) rfl (fun j v hj => by rw [b9.cell, Nat.zero_add]; exact hj) ?_
  rw [s2, s3, s7]
  have hne : ∀ i, i ≠ w.heap.size → w9.heap[i]? = w8.heap[i]? := o9
  refine hK w9 (.slice (some ⟨w5.heap.size, 0, none⟩) cn cc) ⟨by omega, fun i hi => by rw [o9 i (by omega)]; exact (e1.trans E2).same i hi⟩ (by omega) ⟨?_, ?_, ?_, ?_, ?_⟩ ?_ ?_
  · exact (b1.ext E3).same (hne _ (by omega))
  · have := (b2.ext E4).same (hne _ (by omega)); rw [s1] at this; exact this
  · exact (b3.ext E5).same (hne _ (by omega))
  · exact (b4.ext E6).same (hne _ (by omega))
  · have := (b6.ext E8).same (hne _ (by omega)); rw [s4] at this; exact this
  · have := b7.same (hne _ (by omega)); rw [s6] at this; exact this
  · rw [s5]
    refine code_at (xs := [(⟨1, 0, 0, 0, 0, 5, [], [], []⟩, nilS), (⟨22, 0, 0, 0, 0, 0, [], [], []⟩, nilS)]) ((b5.ext E7).same (hne _ (by omega))) (fun p hp => ?_) (by simp) hcn
    simp at hp
    rcases hp with rfl | rfl <;> exact ⟨by unfold I64; decide, rfl, rfl, Sl.nil⟩
end
end Go.Proofs.YtgnfodphfgmdlaaGreat
/- Runs of the images of VmDeep, as plain law. -/
namespace Go.GX
open Go

/-- Some steps lead from a state to another. -/
def Leads (c : Cx) (s s' : Vm) : Prop := ∃ n, runP c n s = .ok () s'
/-- Some steps lead from a state to an end. -/
def Ends (c : Cx) (s : Vm) (k : Int) (s' : Vm) : Prop := ∃ n, runP c n s = .stop k s'

theorem runP_add (c : Cx) : ∀ (n m : Nat) (s : Vm), runP c (n + m) s = (runP c n s).bind fun _ s => runP c m s
  | 0, m, s => by simp [runP]
  | n + 1, m, s => by
    rw [show n + 1 + m = (n + m) + 1 by omega]
    show (stepP c s).bind (fun _ s => runP c (n + m) s) = ((stepP c s).bind fun _ s => runP c n s).bind _
    cases stepP c s with
    | bad => rfl
    | stop => rfl
    | ok u s1 => simp only [Res.bind_ok]; exact runP_add c n m s1

theorem Leads.refl (c : Cx) (s : Vm) : Leads c s s := ⟨0, rfl⟩
theorem Leads.step {c : Cx} {s s1 s2 : Vm} (h : stepP c s = .ok () s1) (h' : Leads c s1 s2) : Leads c s s2 := by
  obtain ⟨n, hn⟩ := h'
  exact ⟨n + 1, by show (stepP c s).bind _ = _; rw [h]; exact hn⟩
theorem Leads.trans {c : Cx} {s s1 s2 : Vm} (h : Leads c s s1) (h' : Leads c s1 s2) : Leads c s s2 := by
  obtain ⟨n, hn⟩ := h; obtain ⟨m, hm⟩ := h'
  exact ⟨n + m, by rw [runP_add, hn]; exact hm⟩
theorem Ends.step {c : Cx} {s s1 s2 : Vm} {k : Int} (h : stepP c s = .ok () s1) (h' : Ends c s1 k s2) : Ends c s k s2 := by
  obtain ⟨n, hn⟩ := h'
  exact ⟨n + 1, by show (stepP c s).bind _ = _; rw [h]; exact hn⟩
theorem Ends.now {c : Cx} {s s1 : Vm} {k : Int} (h : stepP c s = .stop k s1) : Ends c s k s1 :=
  ⟨1, by show (stepP c s).bind _ = _; rw [h]; rfl⟩
theorem Leads.ends {c : Cx} {s s1 s2 : Vm} {k : Int} (h : Leads c s s1) (h' : Ends c s1 k s2) : Ends c s k s2 := by
  obtain ⟨n, hn⟩ := h; obtain ⟨m, hm⟩ := h'
  exact ⟨n + m, by rw [runP_add, hn]; exact hm⟩

/-- No run of this goes on beyond an end, and none is bad. -/
theorem Ends.notbad {c : Cx} {s s1 : Vm} {k : Int} (h : Ends c s k s1) (n : Nat) : runP c n s ≠ .bad := by
  obtain ⟨m, hm⟩ := h
  intro hb
  rcases Nat.le_total n m with hl | hl
  · obtain ⟨d, rfl⟩ := Nat.exists_eq_add_of_le hl
    rw [runP_add, hb] at hm; cases hm
  · obtain ⟨d, rfl⟩ := Nat.exists_eq_add_of_le hl
    rw [runP_add, hm] at hb; cases hb
theorem Ends.same {c : Cx} {s s1 s2 : Vm} {k k' : Int} {n : Nat} (h : Ends c s k s1) (h' : runP c n s = .stop k' s2) : k' = k ∧ s2 = s1 := by
  obtain ⟨m, hm⟩ := h
  rcases Nat.le_total n m with hl | hl
  · obtain ⟨d, rfl⟩ := Nat.exists_eq_add_of_le hl
    rw [runP_add, h'] at hm; cases hm; exact ⟨rfl, rfl⟩
  · obtain ⟨d, rfl⟩ := Nat.exists_eq_add_of_le hl
    rw [runP_add, hm] at h'; cases h'; exact ⟨rfl, rfl⟩

def ins (op d a b c n : Int) (l : List Int) : InstrS := { op := op, d := d, a := a, b := b, c := c, n := n, l := l, m := [], live := [] }

def deepF (k : Nat) : FuncS :=
  { params := [0], result := 0, slots := (2 + k : Nat), blocks := [
    { inn := 0 :: List.replicate (1 + k) (-1), code := [ins 19 0 0 1 2 0 []] },
    { inn := 0 :: List.replicate (1 + k) (-1), code := [ins 1 1 0 0 0 1 [], ins 4 0 0 1 0 2 [], ins 17 0 1 (-1) 0 0 [0], ins 22 0 0 0 0 0 []] },
    { inn := 0 :: List.replicate (1 + k) (-1), code := [ins 22 0 0 0 0 0 []] }] }

def deepMain (n : Int) : FuncS :=
  { params := [], result := 0, slots := 1, blocks := [
    { inn := [-1], code := [ins 1 0 0 0 0 n [], ins 17 0 1 (-1) 0 0 [0], ins 1 0 0 0 0 2 [], ins 17 0 1 (-1) 0 0 [0], ins 16 0 0 0 0 0 [], ins 22 0 0 0 0 0 []] }] }

def deepIm (n : Int) (k : Nat) : ImageS :=
  { types := [⟨true, []⟩, ⟨false, [0]⟩], shapes := [⟨3, [], ByteArray.empty⟩], strings := [], names := [], funcs := [deepMain n, deepF k], main := 0, exn := 0 }

/-- A state of such a run. -/
def dSt (h : Hp) (frs : List Fr) (words : Int) (out : List Nat) (steps : Int) : Vm :=
  { frs := frs, words := words, inp := 0, made := 0, kind := 0, output := out, exn := ByteArray.empty, steps := steps, swept := 0, hp := h }

section
variable {c : Cx} {n : Int} {k : Nat} (him : c.im = deepIm n k) {h : Hp} {o : List Nat}
include him

theorem dIf (m : Nat) (hm : m ≤ 1000) {fs : List Fr} {W t : Int} (ht : t ≠ c.fuel) {x : Nat} :
    stepP c (dSt h (⟨deepF k, 0, 0, wImm m :: x :: List.replicate k 1⟩ :: fs) W o t) =
      .ok () (dSt h (⟨deepF k, if m = 0 then 2 else 1, 0, wImm m :: x :: List.replicate k 1⟩ :: fs) W o (t + 1)) := by
  have h1 : wImm (m : Int) % 2 = 1 := by unfold wImm; omega
  have h2 : wInt (wImm (m : Int)) = m := by unfold wInt wImm; split <;> omega
  simp only [stepP, dSt, deepF, nth, ins, lastP, numP, getP, Res.bind, jumpP]
  simp [ht, h1, h2]
  by_cases e : m = 0
  · simp [e]
  · simp [e]
end

end Go.GX
/- Runs whose end is known; the example that lives in package bellowslaw06. -/
namespace Go.GX
open Go

/-- A whole run of so many steps. -/
def finP (c : Cx) (n : Nat) : Res Unit := (startP c).bind fun _ s => runP c n s

theorem fin_end {c : Cx} {n : Nat} {k : Int} {s : Vm} (h : finP c n = .stop k s) : ∀ k' s', EndP c k' s' → k' = k ∧ s' = s := by
  intro k' s' he
  unfold finP at h
  rcases he with he | ⟨s0, m, h0, hm⟩
  · rw [he] at h; cases h; exact ⟨rfl, rfl⟩
  · rw [h0, Res.bind_ok] at h
    exact Ends.same ⟨n, h⟩ hm
theorem fin_ok {c : Cx} {n : Nat} {k : Int} {s : Vm} (h : finP c n = .stop k s) : ∀ s0, startP c = .ok () s0 → ∀ m, runP c m s0 ≠ .bad := by
  intro s0 h0 m
  unfold finP at h
  rw [h0, Res.bind_ok] at h
  exact Ends.notbad ⟨n, h⟩ m

def scr (im : ImageS) (fuel stack : Int) : Cx := { im := im, input := [], fuel := fuel, heap := 0, stack := stack, collect := [], gc := fun _ _ => none }

def tells (r : Res Unit) (k : Int) (o : List Nat) (steps : Int) : Bool :=
  match r with
  | .stop k' s => decide (k' = k) && decide (s.output = o) && decide (s.steps = steps)
  | _ => false
end Go.GX
namespace Go.Proofs.YtgnfodphfgmdlaaGreat
open Go Go.GX
set_option maxRecDepth 20000
def liveIm : ImageS := leastIm [least0 [⟨1, 0, 0, 0, 0, 72, [], [], []⟩, ⟨16, 0, 0, 0, 0, 0, [], [], []⟩, ⟨22, 0, 0, 0, 0, 0, [], [], []⟩]]

theorem live1 : tells (finP (scr liveIm 9 9) 9) 1 [72] 3 = true := by kernel_rfl
theorem live2 : tells (finP (scr liveIm 2 9) 9) 3 [72] 2 = true := by kernel_rfl
theorem live3 : tells (finP (scr liveIm 9 2) 9) 5 [] 0 = true := by kernel_rfl
end Go.Proofs.YtgnfodphfgmdlaaGreat
namespace Go.Proofs.YtgnfodphfgmdlaaGreat
open Go Go.GX
set_option maxRecDepth 20000
section
variable {w : World} {K : Value → World → Prop} {X : List PanicEntry → World → Prop}

theorem str_sl {v : Value} {l : List Nat} (h : Sl 1 (ByteAt w) v l) (hK : K (.string (strOf l)) w) : RUN Tryz.prog (convert 34 9 v) w K := by
  obtain ⟨hl, a, c, rfl, hh⟩ := h
  rcases hh with rfl | ⟨b, o, rfl, hx⟩
  · have hr : (convert 34 9 (.slice a ([] : List Nat).length c)).run Tryz.prog w = .ok (.string (strOf [])) w := by
      cases a with
      | none =>
        have h1 : Tryz.prog.underlying 34 = some (.slice 5) := by kernel_rfl
        have h2 : Tryz.prog.underlying 9 = some .string := by kernel_rfl
        have h3 : Tryz.prog.underlying 5 = some (.int .u8) := by kernel_rfl
        simp [convert, run_underlying h1, run_underlying h2, run_underlying h3]
        rfl
      | some p => exact run_convert_bytes_back (P := Tryz.prog) w 34 9 5 p c [] (by kernel_rfl) (by kernel_rfl) (by kernel_rfl) (fun j hj => by simp at hj)
    unfold RUN; rw [hr]; exact ⟨Io.refl _, hK⟩
  · have hr := run_convert_bytes_back (P := Tryz.prog) w 34 9 5 ⟨b, o, none⟩ c (l.map UInt8.ofNat) (by kernel_rfl) (by kernel_rfl) (by kernel_rfl) (fun j hj => by
      have hj' : j < l.length := by simpa using hj
      have h1 := hx j _ (List.getElem?_eq_getElem hj')
      rw [Nat.mul_one] at h1
      rw [add_lit, h1.1]
      simp only [List.getElem_map, UInt8.toNat_ofNat']
      congr 3
      have := h1.2
      omega)
    rw [List.length_map] at hr
    unfold RUN
    rw [hr]; exact ⟨Io.refl _, hK⟩

theorem zero_bools {w : World} : Sl 1 (BoolAt w) nilS [] := Sl.nil

/-- Run, where the end is known. -/
theorem run_fin {cs : List Value} {im : ImageS} {fu st : Int} {n : Nat} {k : Int} {s : Vm} (hI : ImgV w cs im) (hfin : finP (scr im (clampI fu 16777216) (clampI st 65536)) n = .stop k s)
    (hK : ∀ ov w', Ext w w' → Sl 1 (ByteAt w') ov s.output → K (.agg (outC k ov s).toArray) w') : CAL Tryz.prog 17 #[.agg cs.toArray, .agg #[nilS, vInt fu, vInt 0, vInt st, nilS]] w K X := by
  refine c17 (gc := fun _ _ => none) hI Sl.nil Sl.nil (fun c hc => SweepOk.none hc) (fun s0 h0 m => fin_ok hfin s0 h0 m) fun k' s' ov w' he e hs => ?_
  obtain ⟨rfl, rfl⟩ := fin_end hfin k' s' he
  exact hK ov w' e hs

theorem tells_of {r : Res Unit} {k : Int} {o : List Nat} {t : Int} (h : tells r k o t = true) : ∃ s, r = .stop k s ∧ s.output = o ∧ s.steps = t := by
  cases r with
  | ok _ _ => cases h
  | bad => cases h
  | stop k' s =>
    simp only [tells, Bool.and_eq_true, decide_eq_true_eq] at h
    obtain ⟨⟨rfl, h2⟩, h3⟩ := h
    exact ⟨s, rfl, h2, h3⟩

end
end Go.Proofs.YtgnfodphfgmdlaaGreat
namespace Go.Proofs.YtgnfodphfgmdlaaGreat
open Go Go.GX
set_option maxRecDepth 20000
section
variable {w : World} {n : Nat} {cv : Value}

theorem LeastAt.setCode (h : LeastAt w n cv) (v : Value) : LeastAt (w.setCell ⟨n + 6, 1, none⟩ v) n v :=
  ⟨h.b1.other (by show n + 6 ≠ n + 1; omega) _, h.b2.other (by show n + 6 ≠ n + 2; omega) _, h.b3.other (by show n + 6 ≠ n + 3; omega) _, h.b4.other (by show n + 6 ≠ n + 4; omega) _, h.b6.set v⟩

theorem LeastAt.ext {w' : World} (h : LeastAt w n cv) (e : Ext w w') : LeastAt w' n cv :=
  ⟨h.b1.ext e, h.b2.ext e, h.b3.ext e, h.b4.ext e, h.b6.ext e⟩

theorem LeastAt.single (h : LeastAt w n cv) (b7 : Blk w (n + 7) 64 (fun0C n)) {code : List InstrS} (hc : Sl 9 (InstrAt w) cv code) : ImgV w (leastC n (.slice (some ⟨n + 7, 0, none⟩) 1 1)) (leastIm [least0 code]) := by
  refine h.img (Sl.of_at rfl (show LenOk 1 by unfold LenOk; decide) fun i x hi => ?_)
  match i, hi with
  | 0, hi => cases hi; exact h.fun0 hc fun j u hj => by rw [b7.cell, Nat.zero_mul, Nat.zero_add]; exact hj

end
section
variable {w : World} {K : Value → World → Prop} {X : List PanicEntry → World → Prop}

theorem oneC (n : Nat) (x : Option Addr) (k c : Nat) : ∀ v ∈ leastC n (.slice x k c), v.oneCell' = true := fun v hv => by
  simp [leastC] at hv
  rcases hv with rfl | rfl | rfl | rfl | rfl <;> rfl

/-- An outcome is put into a variable. -/
theorem put_out {k : Int} {ov : Value} {s : Vm} {l : List Nat} (hs : Sl 1 (ByteAt w) ov l) {K : Value → World → Prop} (hK : ∀ w', Ext w w' → w'.heap.size = w.heap.size + 1 → Blk w' w.heap.size 44 (outC k ov s) → K (vPtr w.heap.size) w') :
    AL Tryz.prog 44 w fun t w1 => GX.ST 5 w1 t (.agg (outC k ov s).toArray) fun w2 => K t w2 := by
  obtain ⟨z, hz, hzl⟩ := zlen_get zero44
  refine AL_new hz fun w1 e1 b1 s1 => ?_
  obtain ⟨_, a, c, rfl, _⟩ := hs
  refine ST_all (vs := outC k _ s) b1 rfl (by rw [hzl]; rfl) (fun v hv => by simp [outC] at hv; rcases hv with rfl | rfl | rfl | rfl | rfl <;> rfl) fun w2 b2 s2 o2 => ?_
  exact hK w2 ⟨by omega, fun i hi => by rw [o2 i (by omega)]; exact e1.same i hi⟩ (by omega) b2

/-- lives of package bellowslaw06 -/
theorem c16 (hK : ∀ w', Ext w w' → K (.bool true) w') : CAL Tryz.prog 16 #[] w K X := n16 <| by
  unfold N16
  refine c22 fun w1 cv e1 s1 hl b7 _ => ?_
  obtain ⟨z, hz, hzl⟩ := zlen_get zero27
  refine AL_new hz fun w2 e2 b2 s2 => ?_
  have hm : w1.heap.size = w.heap.size + 8 := s1
  refine ST_all (vs := leastC w.heap.size (.slice (some ⟨w.heap.size + 7, 0, none⟩) 1 1)) b2 rfl (by rw [hzl]; rfl) (oneC _ _ _ _) fun w3 b3 s3 o3 => ?_
  have e13 : Ext w1 w3 := ⟨by omega, fun i hi => by rw [o3 i (by omega)]; exact e2.same i hi⟩
  have hl3 := hl.ext e13
  have b73 := b7.ext e13
  rw [FA_at]
  refine LD_blk b3 (v := .slice (some ⟨w.heap.size + 7, 0, none⟩) 1 1) rfl ?_
  rw [IA_slice]
  refine ⟨by omega, ?_⟩
  rw [add_lit]
  show FA 3 (.pointer (some ⟨w.heap.size + 7, 0, none⟩)) _
  rw [FA_at]
  refine LD_blk b73 (v := .slice (some ⟨w.heap.size + 6, 0, none⟩) 1 1) rfl ?_
  rw [bi05, bi0, bi0]
  refine code_new [(⟨1, 0, 0, 0, 0, 72, [], [], []⟩, nilS), (⟨16, 0, 0, 0, 0, 0, [], [], []⟩, nilS), (⟨22, 0, 0, 0, 0, 0, [], [], []⟩, nilS)] (fun p hp => ?_) (by simp) fun w4 cn cc e4 s4 hcn bc hcode => ?_
  · simp at hp
    rcases hp with rfl | rfl | rfl <;> exact ⟨by unfold I64; decide, rfl, rfl, Sl.nil⟩
  rw [IA_slice]
  refine ⟨by omega, ?_⟩
  rw [add_lit]
  show FA 1 (.pointer (some ⟨w.heap.size + 6, 0, none⟩)) _
  rw [FA_at]
  have hl4 := hl3.ext e4
  refine ST_one hl4.b6 (by simp) rfl rfl ?_
  have hl5 := hl4.setCode (.slice (some ⟨w3.heap.size, 0, none⟩) cn cc)
  have b75 := (b73.ext e4).other (x := ⟨w.heap.size + 6, 0 + 1, none⟩) (by show w.heap.size + 6 ≠ w.heap.size + 7; omega) (.slice (some ⟨w3.heap.size, 0, none⟩) cn cc)
  have b35 := (b3.ext e4).other (x := ⟨w.heap.size + 6, 0 + 1, none⟩) (by show w.heap.size + 6 ≠ w1.heap.size; omega) (.slice (some ⟨w3.heap.size, 0, none⟩) cn cc)
  have bc5 := bc.other (x := ⟨w.heap.size + 6, 0 + 1, none⟩) (by show w.heap.size + 6 ≠ w3.heap.size; omega) (.slice (some ⟨w3.heap.size, 0, none⟩) cn cc)
  have e5 : Ext w (w4.setCell ⟨w.heap.size + 6, 0 + 1, none⟩ (.slice (some ⟨w3.heap.size, 0, none⟩) cn cc)) := ((e1.trans e13).trans e4).setCell (by show w.heap.size ≤ w.heap.size + 6; omega) _
  generalize w4.setCell ⟨w.heap.size + 6, 0 + 1, none⟩ (.slice (some ⟨w3.heap.size, 0, none⟩) cn cc) = w5 at *
  have hcd := code_at (xs := [(⟨1, 0, 0, 0, 0, 72, [], [], []⟩, nilS), (⟨16, 0, 0, 0, 0, 0, [], [], []⟩, nilS), (⟨22, 0, 0, 0, 0, 0, [], [], []⟩, nilS)]) (n := cn) (c := cc) bc5 (fun p hp => by
    simp at hp
    rcases hp with rfl | rfl | rfl <;> exact ⟨by unfold I64; decide, rfl, rfl, Sl.nil⟩) (by simp) hcn
  have hI : ImgV w5 (leastC w.heap.size (.slice (some ⟨w.heap.size + 7, 0, none⟩) 1 1)) liveIm := hl5.single b75 hcd
  have ld : ∀ w', Ext w5 w' → ∀ K, K (.agg (leastC w.heap.size (.slice (some ⟨w.heap.size + 7, 0, none⟩) 1 1)).toArray) → LDN 7 w' (.pointer (some ⟨w1.heap.size, 0, none⟩)) K := fun w' e K hK =>
    LDN_at (vs := leastC w.heap.size (.slice (some ⟨w.heap.size + 7, 0, none⟩) 1 1)) rfl (fun j v hj => by rw [(b35.ext e).cell, Nat.zero_add]; exact hj) hK
  refine ld w5 (Ext.refl _) _ ?_
  rw [bsc13]
  obtain ⟨sa, ha, ha1, ha2⟩ := tells_of live1
  obtain ⟨sb, hb, hb1, hb2⟩ := tells_of live2
  obtain ⟨sc, hc, hc1, hc2⟩ := tells_of live3
  refine run_fin (n := 9) (k := 1) (s := sa) hI ha fun ova w6 e6 hova => ?_
  refine put_out hova fun w8 e8 s8 ba => ?_
  refine ld w8 (e6.trans e8) _ ?_
  rw [bsc13]
  refine run_fin (n := 9) (k := 3) (s := sb) (hI.ext (e6.trans e8)) hb fun ovb w9 e9 hovb => ?_
  refine put_out hovb fun w11 e11 s11 bb => ?_
  have e5b := ((e6.trans e8).trans e9).trans e11
  refine ld w11 e5b _ ?_
  rw [bsc13]
  refine run_fin (n := 9) (k := 5) (s := sc) (hI.ext e5b) hc fun ovc w12 e12 hovc => ?_
  refine put_out hovc fun w14 e14 s14 bcc => ?_
  have ea := ((e9.trans e11).trans e12).trans e14
  have eb := e12.trans e14
  have ba' := ba.ext ea
  have bb' := bb.ext eb
  have hova' : Sl 1 (ByteAt w14) ova [72] := by rw [← ha1]; exact Sl.mono (fun _ _ h => ByteAt.ext (e8.trans ea) h) hova
  have hovb' : Sl 1 (ByteAt w14) ovb [72] := by rw [← hb1]; exact Sl.mono (fun _ _ h => ByteAt.ext (e11.trans eb) h) hovb
  have hstr : ((strOf [72]).toList == (⟨#[72]⟩ : ByteArray).toList) = true := by
    rw [show strOf [72] = ⟨#[72]⟩ from rfl]; simp
  rw [FA_at]
  refine LD_blk ba' (v := vInt 1) rfl ?_
  rw [BIN_eql, GRP_and, if_pos (by decide), FA_at]
  refine LD_blk ba' (v := ova) rfl ?_
  refine str_sl hova' ?_
  rw [BIN_streql, hstr]
  show GRP _ _ _ _ _ _
  rw [GRP_and, if_pos rfl, FA_at]
  refine LD_blk ba' (v := vInt sa.steps) rfl ?_
  rw [BIN_eql, ha2]
  show GRP _ _ _ _ _ _
  rw [GRP_and, if_pos (by decide), FA_at]
  refine LD_blk bb' (v := vInt 3) rfl ?_
  rw [BIN_eql]
  show GRP _ _ _ _ _ _
  rw [GRP_and, if_pos (by decide), FA_at]
  refine LD_blk bb' (v := ovb) rfl ?_
  refine str_sl hovb' ?_
  rw [BIN_streql, hstr]
  show GRP _ _ _ _ _ _
  rw [GRP_and, if_pos rfl, FA_at]
  refine LD_blk bcc (v := vInt 5) rfl ?_
  rw [BIN_eql]
  show GRP _ _ _ _ _ _
  rw [GRP_and, if_pos (by decide), FA_at]
  refine LD_blk bcc (v := vInt sc.steps) rfl ?_
  rw [BIN_eql, hc2]
  exact hK w14 ((e5.trans e5b).trans eb)
end
end Go.Proofs.YtgnfodphfgmdlaaGreat
