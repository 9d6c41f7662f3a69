/- VmDeep answers true at every input and leaves its arguments as they were; no condition: text 8 of 12. -/
import Derived.Test.YtgnfodphfgmdlaaGreatDeep07
set_option linter.all false
/- The plain forms of functions of the program, printed by a program of this session (gen.py) and checked by the kernel against the loaded code. -/
namespace Go.Proofs.YtgnfodphfgmdlaaGreat
open Go Go.GX
set_option maxRecDepth 100000

/-- bellows/code.Check -/
def N31 (t0 : Value) (w : World) (K : Value → World → Prop) (X : List PanicEntry → World → Prop) : Prop :=
  BOX t0 27 w fun t1 w1 =>
  LDN 7 w1 t1 fun t7 =>
  CAL Tryz.prog 63 #[t7] w1 (fun t8 w2 =>
    CND t8 (
      K (.int .i64 2) w2) (
      FA 4 t1 fun t9 =>
      LD w2 t9 fun t10 =>
      LEN (.sl 4) t10 fun t11 =>
      LOOP1 (.int .i64 0) w2 fun t12 w3 back =>
        BIN .int .lss t12 t11 fun t13 =>
        CND t13 (
          IA 4 t10 t12 fun t14 =>
          LDN 4 w3 t14 fun t15 =>
          AL Tryz.prog 64 w3 fun t4 w4 =>
          ST 4 w4 t4 t15 fun w5 =>
          FA 3 t4 fun t16 =>
          LD w5 t16 fun t17 =>
          LEN (.sl 2) t17 fun t18 =>
          LOOP1 (.int .i64 0) w5 fun t19 w6 back_1 =>
            BIN .int .lss t19 t18 fun t20 =>
            CND t20 (
              IA 2 t17 t19 fun t21 =>
              LDN 2 w6 t21 fun t22 =>
              AL Tryz.prog 61 w6 fun t6 w7 =>
              ST 2 w7 t6 t22 fun w8 =>
              FA 1 t6 fun t23 =>
              LD w8 t23 fun t24 =>
              CAL Tryz.prog 64 #[t24, (.func (.func 65) #[] #[])] w8 (fun t25 w9 =>
                CND t25 (
                  K (.int .i64 1) w9) (
                  BIN .int .add t19 (.int .i64 1) fun t26 =>
                  back_1 t26 w9)) X) (
              BIN .int .add t12 (.int .i64 1) fun t27 =>
              back t27 w6)) (
          K (.int .i64 0) w3))) X
def plan31 : Plan := .seq (.reg (.op 0 false (.op 1 false .nil))) (.seq (.seq (.reg (.op 0 false (.op 1 false .nil))) (.cond (.seq (.reg (.op 0 false .nil)) (.leaf)) (.leaf))) (.seq (.seq (.reg (.sq 0 4 .nil)) (.block (.loop [12] [10, 11] (.seq (.reg (.op 0 false .nil)) (.seq (.cond (.leaf) (.leaf)) (.seq (.block (.seq (.reg (.sq 0 4 .nil)) (.seq (.reg (.sq 0 4 .nil)) (.block (.loop [19] [10, 11, 12, 17, 18] (.seq (.reg (.op 0 false .nil)) (.seq (.cond (.leaf) (.leaf)) (.seq (.block (.seq (.reg (.sq 0 4 .nil)) (.seq (.reg (.sq 0 3 .nil)) (.cond (.seq (.reg (.op 0 false .nil)) (.leaf)) (.leaf))))) (.reg (.op 0 false (.op 1 false .nil))))))))))) (.reg (.op 0 false (.op 1 false .nil))))))))) (.seq (.reg (.op 0 false .nil)) (.leaf))))
theorem chk31 : chkC Tryz.prog (codeOf Tryz.f31) plan31 = true := by kernel_rfl
theorem n31 {t0 : Value} {w : World} {K : Value → World → Prop} {X : List PanicEntry → World → Prop} (h : N31 t0 w K X) : CAL Tryz.prog 31 #[t0] w K X :=
  cal (args := [t0]) plan31 Tryz.func31 rfl chk31 (by kernel_rfl) (R := N31 t0 w K X) (by kernel_rfl) h

/-- bellows/code.big -/
def N63 (t0 : Value) (w : World) (K : Value → World → Prop) (X : List PanicEntry → World → Prop) : Prop :=
  BOX t0 27 w fun t1 w1 =>
  FA 0 t1 fun t14 =>
  LD w1 t14 fun t15 =>
  BSLC Tryz.prog 244 1 [(0, t15)] w1 fun t16 w2 =>
  CAL Tryz.prog 106 #[(.int .i64 1024), t16] w2 (fun t17 w3 =>
    GRP t17 false (.bool true) w3 (fun J =>
      FA 1 t1 fun t19 =>
      LD w3 t19 fun t20 =>
      BSLC Tryz.prog 247 1 [(0, t20)] w3 fun t21 w5 =>
      CAL Tryz.prog 107 #[(.int .i64 512), t21] w5 (fun t22 w6 =>
        J t22 w6) X)
     (fun t23 w4 =>
      GRP t23 false (.bool true) w4 (fun J_1 =>
        FA 2 t1 fun t25 =>
        LD w4 t25 fun t26 =>
        FA 3 t1 fun t27 =>
        LD w4 t27 fun t28 =>
        BSLC Tryz.prog 250 2 [(0, t26), (1, t28)] w4 fun t29 w8 =>
        CAL Tryz.prog 108 #[(.int .i64 256), t29] w8 (fun t30 w9 =>
          J_1 t30 w9) X)
       (fun t31 w7 =>
        GRP t31 false (.bool true) w7 (fun J_2 =>
          FA 4 t1 fun t33 =>
          LD w7 t33 fun t34 =>
          BSLC Tryz.prog 253 1 [(0, t34)] w7 fun t35 w11 =>
          CAL Tryz.prog 109 #[(.int .i64 1024), t35] w11 (fun t36 w12 =>
            J_2 t36 w12) X)
         (fun t37 w10 =>
          GRP t37 false (.bool true) w10 (fun J_3 =>
            FA 2 t1 fun t39 =>
            LD w10 t39 fun t40 =>
            CAL Tryz.prog 110 #[t40] w10 (fun t41 w14 =>
              J_3 t41 w14) X)
           (fun t42 w13 =>
            GRP t42 false (.bool true) w13 (fun J_4 =>
              FA 3 t1 fun t44 =>
              LD w13 t44 fun t45 =>
              CAL Tryz.prog 110 #[t45] w13 (fun t46 w16 =>
                J_4 t46 w16) X)
             (fun t47 w15 =>
              CND t47 (
                K (.bool true) w15) (
                FA 0 t1 fun t48 =>
                LD w15 t48 fun t49 =>
                LEN (.sl 2) t49 fun t50 =>
                LOOP1 (.int .i64 0) w15 fun t51 w17 back =>
                  BIN .int .lss t51 t50 fun t52 =>
                  CND t52 (
                    IA 2 t49 t51 fun t53 =>
                    LDN 2 w17 t53 fun t54 =>
                    AL Tryz.prog 84 w17 fun t4 w18 =>
                    ST 2 w18 t4 t54 fun w19 =>
                    FA 1 t4 fun t55 =>
                    LD w19 t55 fun t56 =>
                    BSLC Tryz.prog 258 1 [(0, t56)] w19 fun t57 w20 =>
                    CAL Tryz.prog 111 #[(.int .i64 512), t57] w20 (fun t58 w21 =>
                      CND t58 (
                        K (.bool true) w21) (
                        BIN .int .add t51 (.int .i64 1) fun t59 =>
                        back t59 w21)) X) (
                    FA 1 t1 fun t60 =>
                    LD w17 t60 fun t61 =>
                    LEN (.sl 3) t61 fun t62 =>
                    LOOP1 (.int .i64 0) w17 fun t63 w22 back_1 =>
                      BIN .int .lss t63 t62 fun t64 =>
                      CND t64 (
                        IA 3 t61 t63 fun t65 =>
                        LDN 3 w22 t65 fun t66 =>
                        AL Tryz.prog 82 w22 fun t6 w23 =>
                        ST 3 w23 t6 t66 fun w24 =>
                        FA 1 t6 fun t67 =>
                        LD w24 t67 fun t68 =>
                        BSLC Tryz.prog 258 1 [(0, t68)] w24 fun t69 w25 =>
                        CAL Tryz.prog 111 #[(.int .i64 200), t69] w25 (fun t70 w26 =>
                          GRP t70 false (.bool true) w26 (fun J_5 =>
                            FA 2 t6 fun t72 =>
                            LD w26 t72 fun t73 =>
                            BSLC Tryz.prog 24 1 [(0, t73)] w26 fun t74 w28 =>
                            CAL Tryz.prog 110 #[t74] w28 (fun t75 w29 =>
                              J_5 t75 w29) X)
                           (fun t76 w27 =>
                            CND t76 (
                              K (.bool true) w27) (
                              BIN .int .add t63 (.int .i64 1) fun t77 =>
                              back_1 t77 w27))) X) (
                        FA 4 t1 fun t78 =>
                        LD w22 t78 fun t79 =>
                        LEN (.sl 4) t79 fun t80 =>
                        LOOP2 (.int .i64 20000) (.int .i64 0) w22 fun t7 t81 w30 back_2 =>
                          BIN .int .lss t81 t80 fun t82 =>
                          CND t82 (
                            IA 4 t79 t81 fun t83 =>
                            LDN 4 w30 t83 fun t84 =>
                            AL Tryz.prog 64 w30 fun t9 w31 =>
                            ST 4 w31 t9 t84 fun w32 =>
                            FA 2 t9 fun t85 =>
                            LD w32 t85 fun t86 =>
                            BIN .int .gtr t86 (.int .i64 200) fun t87 =>
                            GRP t87 false (.bool true) w32 (fun J_6 =>
                              FA 0 t9 fun t89 =>
                              LD w32 t89 fun t90 =>
                              BSLC Tryz.prog 258 1 [(0, t90)] w32 fun t91 w34 =>
                              CAL Tryz.prog 111 #[(.int .i64 200), t91] w34 (fun t92 w35 =>
                                J_6 t92 w35) X)
                             (fun t93 w33 =>
                              GRP t93 false (.bool true) w33 (fun J_7 =>
                                FA 3 t9 fun t95 =>
                                LD w33 t95 fun t96 =>
                                BSLC Tryz.prog 260 1 [(0, t96)] w33 fun t97 w37 =>
                                CAL Tryz.prog 112 #[(.int .i64 2000), t97] w37 (fun t98 w38 =>
                                  J_7 t98 w38) X)
                               (fun t99 w36 =>
                                CND t99 (
                                  K (.bool true) w36) (
                                  FA 3 t9 fun t100 =>
                                  LD w36 t100 fun t101 =>
                                  LEN (.sl 2) t101 fun t102 =>
                                  LOOP2 t7 (.int .i64 0) w36 fun t7_1 t103 w39 back_3 =>
                                    BIN .int .lss t103 t102 fun t104 =>
                                    CND t104 (
                                      IA 2 t101 t103 fun t105 =>
                                      LDN 2 w39 t105 fun t106 =>
                                      AL Tryz.prog 61 w39 fun t11 w40 =>
                                      ST 2 w40 t11 t106 fun w41 =>
                                      FA 1 t11 fun t108 =>
                                      LD w41 t108 fun t109 =>
                                      LEN (.sl 9) t109 fun t110 =>
                                      BIN .int .sub t7_1 t110 fun t111 =>
                                      BIN .int .lss t111 (.int .i64 0) fun t113 =>
                                      GRP t113 false (.bool true) w41 (fun J_8 =>
                                        FA 0 t11 fun t115 =>
                                        LD w41 t115 fun t116 =>
                                        BSLC Tryz.prog 258 1 [(0, t116)] w41 fun t117 w43 =>
                                        CAL Tryz.prog 111 #[(.int .i64 200), t117] w43 (fun t118 w44 =>
                                          J_8 t118 w44) X)
                                       (fun t119 w42 =>
                                        CND t119 (
                                          K (.bool true) w42) (
                                          FA 1 t11 fun t120 =>
                                          LD w42 t120 fun t121 =>
                                          LEN (.sl 9) t121 fun t122 =>
                                          LOOP1 (.int .i64 0) w42 fun t123 w45 back_4 =>
                                            BIN .int .lss t123 t122 fun t124 =>
                                            CND t124 (
                                              IA 9 t121 t123 fun t125 =>
                                              LDN 9 w45 t125 fun t126 =>
                                              AL Tryz.prog 30 w45 fun t13 w46 =>
                                              ST 9 w46 t13 t126 fun w47 =>
                                              FA 6 t13 fun t127 =>
                                              LD w47 t127 fun t128 =>
                                              FA 7 t13 fun t129 =>
                                              LD w47 t129 fun t130 =>
                                              BSLC Tryz.prog 258 2 [(0, t128), (1, t130)] w47 fun t131 w48 =>
                                              CAL Tryz.prog 111 #[(.int .i64 1024), t131] w48 (fun t132 w49 =>
                                                GRP t132 false (.bool true) w49 (fun J_9 =>
                                                  FA 8 t13 fun t134 =>
                                                  LD w49 t134 fun t135 =>
                                                  BSLC Tryz.prog 258 1 [(0, t135)] w49 fun t136 w51 =>
                                                  CAL Tryz.prog 111 #[(.int .i64 200), t136] w51 (fun t137 w52 =>
                                                    J_9 t137 w52) X)
                                                 (fun t138 w50 =>
                                                  CND t138 (
                                                    K (.bool true) w50) (
                                                    BIN .int .add t123 (.int .i64 1) fun t139 =>
                                                    back_4 t139 w50))) X) (
                                              BIN .int .add t103 (.int .i64 1) fun t140 =>
                                              back_3 t111 t140 w45)))) (
                                      BIN .int .add t81 (.int .i64 1) fun t141 =>
                                      back_2 t7_1 t141 w39))))) (
                            K (.bool false) w30)))))))))) X
def plan63 : Plan := .seq (.reg (.op 0 false (.op 1 false .nil))) (.seq (.seq (.reg (.sq 0 5 (.grp 4 false (.sq 5 4 .nil) 9 (.op 10 false (.grp 10 false (.sq 11 6 .nil) 17 (.op 18 false (.grp 18 false (.sq 19 4 .nil) 23 (.op 24 false (.grp 24 false (.sq 25 3 .nil) 28 (.op 29 false (.grp 29 false (.sq 30 3 .nil) 33 .nil))))))))))) (.cond (.seq (.reg (.op 0 false .nil)) (.leaf)) (.leaf))) (.seq (.seq (.reg (.sq 0 4 .nil)) (.block (.loop [51] [1, 49, 50] (.seq (.reg (.op 0 false .nil)) (.seq (.cond (.leaf) (.leaf)) (.seq (.block (.seq (.reg (.sq 0 4 .nil)) (.seq (.reg (.sq 0 4 .nil)) (.cond (.seq (.reg (.op 0 false .nil)) (.leaf)) (.leaf))))) (.reg (.op 0 false (.op 1 false .nil))))))))) (.seq (.seq (.reg (.sq 0 4 .nil)) (.block (.loop [63] [1, 61, 62] (.seq (.reg (.op 0 false .nil)) (.seq (.cond (.leaf) (.leaf)) (.seq (.block (.seq (.reg (.sq 0 4 .nil)) (.seq (.reg (.sq 0 5 (.grp 4 false (.sq 5 4 .nil) 9 .nil))) (.cond (.seq (.reg (.op 0 false .nil)) (.leaf)) (.leaf))))) (.reg (.op 0 false (.op 1 false .nil))))))))) (.seq (.reg (.op 0 false .nil)) (.seq (.seq (.reg (.sq 0 4 .nil)) (.block (.loop [7, 81] [79, 80] (.seq (.reg (.op 0 false .nil)) (.seq (.cond (.leaf) (.leaf)) (.seq (.block (.seq (.reg (.sq 0 4 .nil)) (.seq (.seq (.reg (.sq 0 4 (.grp 3 false (.sq 4 4 .nil) 8 (.op 9 false (.grp 9 false (.sq 10 4 .nil) 14 .nil))))) (.cond (.seq (.reg (.op 0 false .nil)) (.leaf)) (.leaf))) (.seq (.reg (.sq 0 4 .nil)) (.block (.loop [7, 103] [79, 80, 81, 101, 102] (.seq (.reg (.op 0 false .nil)) (.seq (.cond (.leaf) (.leaf)) (.seq (.block (.seq (.reg (.sq 0 4 .nil)) (.seq (.seq (.reg (.sq 0 6 .nil)) (.seq (.reg (.sq 0 3 (.grp 2 false (.sq 3 4 .nil) 7 .nil))) (.cond (.seq (.reg (.op 0 false .nil)) (.leaf)) (.leaf)))) (.seq (.reg (.sq 0 4 .nil)) (.block (.loop [123] [7, 79, 80, 81, 101, 102, 103, 121, 122] (.seq (.reg (.op 0 false .nil)) (.seq (.cond (.leaf) (.leaf)) (.seq (.block (.seq (.reg (.sq 0 4 .nil)) (.seq (.reg (.sq 0 7 (.grp 6 false (.sq 7 4 .nil) 11 .nil))) (.cond (.seq (.reg (.op 0 false .nil)) (.leaf)) (.leaf))))) (.reg (.op 0 false (.op 1 false .nil)))))))))))) (.reg (.op 0 false (.op 1 false .nil)))))))))))) (.reg (.op 0 false (.op 1 false .nil))))))))) (.seq (.reg (.op 0 false .nil)) (.leaf)))))))
theorem chk63 : chkC Tryz.prog (codeOf Tryz.f63) plan63 = true := by kernel_rfl
theorem n63 {t0 : Value} {w : World} {K : Value → World → Prop} {X : List PanicEntry → World → Prop} (h : N63 t0 w K X) : CAL Tryz.prog 63 #[t0] w K X :=
  cal (args := [t0]) plan63 Tryz.func63 rfl chk63 (by kernel_rfl) (R := N63 t0 w K X) (by kernel_rfl) h

/-- slices.ContainsFunc[[]bellows/api.Instr,bellows/api.Instr] -/
def N64 (t0 t1 : Value) (w : World) (K : Value → World → Prop) (X : List PanicEntry → World → Prop) : Prop :=
  CAL Tryz.prog 113 #[t0, t1] w (fun t7 w1 =>
    BIN .int .geq t7 (.int .i64 0) fun t8 =>
    K t8 w1) X
def plan64 : Plan := .seq (.reg (.op 0 false .nil)) (.seq (.reg (.sq 0 5 .nil)) (.leaf))
theorem chk64 : chkC Tryz.prog (codeOf Tryz.f64) plan64 = true := by kernel_rfl
theorem n64 {t0 t1 : Value} {w : World} {K : Value → World → Prop} {X : List PanicEntry → World → Prop} (h : N64 t0 t1 w K X) : CAL Tryz.prog 64 #[t0, t1] w K X :=
  cal (args := [t0, t1]) plan64 Tryz.func64 rfl chk64 (by kernel_rfl) (R := N64 t0 t1 w K X) (by kernel_rfl) h

/-- bellows/code.Check$1 -/
def N65 (t0 : Value) (w : World) (K : Value → World → Prop) (X : List PanicEntry → World → Prop) : Prop :=
  BOX t0 30 w fun t1 w1 =>
  LDN 9 w1 t1 fun t3 =>
  CAL Tryz.prog 66 #[t3] w1 (fun t4 w2 =>
    UN .not t4 fun t5 =>
    K t5 w2) X
def plan65 : Plan := .seq (.reg (.op 0 false (.op 1 false .nil))) (.seq (.reg (.sq 0 4 .nil)) (.leaf))
theorem chk65 : chkC Tryz.prog (codeOf Tryz.f65) plan65 = true := by kernel_rfl
theorem n65 {t0 : Value} {w : World} {K : Value → World → Prop} {X : List PanicEntry → World → Prop} (h : N65 t0 w K X) : CAL Tryz.prog 65 #[t0] w K X :=
  cal (args := [t0]) plan65 Tryz.func65 rfl chk65 (by kernel_rfl) (R := N65 t0 w K X) (by kernel_rfl) h

/-- bellows/code.Plain -/
def N66 (t0 : Value) (w : World) (K : Value → World → Prop) (X : List PanicEntry → World → Prop) : Prop :=
  BOX t0 30 w fun t1 w1 =>
  LDN 9 w1 t1 fun t8 =>
  AL Tryz.prog 30 w1 fun t3 w2 =>
  ST 9 w2 t3 t8 fun w3 =>
  FA 0 t1 fun t9 =>
  LD w3 t9 fun t10 =>
  CAL Tryz.prog 114 #[t10] w3 (fun t11 w4 =>
    RUN Tryz.prog (convert 9 34 t11) w4 fun t13 w5 =>
    LEN (.sl 1) t13 fun t14 =>
    LOOP1 (.int .i64 0) w5 fun t15 w6 back =>
      BIN .int .lss t15 t14 fun t16 =>
      CND t16 (
        JOIN (fun (J : World → Prop) =>
          IA 1 t13 t15 fun t17 =>
          LD w6 t17 fun t18 =>
          BIN .int .eql t18 (.int .u8 78) fun t20 =>
          CND t20 (
            FA 5 t3 fun t21 =>
            ST 1 w6 t21 (.int .i64 0) fun w8 =>
            J  w8) (
            CAL Tryz.prog 115 #[t3, t18] w6 (fun t23 w9 =>
              BIN .ptr .neq t23 (.pointer none) fun t25 =>
              CND t25 (
                NC t23 fun t27 =>
                ST 1 w9 t27 (.int .i64 0) fun w10 =>
                J  w10) (
                CAL Tryz.prog 116 #[t3, t18] w9 (fun t29 w11 =>
                  NC t29 fun t30 =>
                  ST 1 w11 t30 (.slice none 0 0) fun w12 =>
                  J  w12) X)) X))
         (fun  w7 =>
          BIN .int .add t15 (.int .i64 1) fun t31 =>
          back t31 w7)) (
        BIN .str .neq t11 (.string ⟨#[]⟩) fun t33 =>
        GRP t33 true (.bool false) w6 (fun J_1 =>
          FA 1 t3 fun t35 =>
          LD w6 t35 fun t36 =>
          BIN .int .eql t36 (.int .i64 0) fun t37 =>
          J_1 t37 w6)
         (fun t38 w13 =>
          GRP t38 true (.bool false) w13 (fun J_2 =>
            FA 2 t3 fun t40 =>
            LD w13 t40 fun t41 =>
            BIN .int .eql t41 (.int .i64 0) fun t42 =>
            J_2 t42 w13)
           (fun t43 w14 =>
            GRP t43 true (.bool false) w14 (fun J_3 =>
              FA 3 t3 fun t45 =>
              LD w14 t45 fun t46 =>
              BIN .int .eql t46 (.int .i64 0) fun t47 =>
              J_3 t47 w14)
             (fun t48 w15 =>
              GRP t48 true (.bool false) w15 (fun J_4 =>
                FA 4 t3 fun t50 =>
                LD w15 t50 fun t51 =>
                BIN .int .eql t51 (.int .i64 0) fun t52 =>
                J_4 t52 w15)
               (fun t53 w16 =>
                GRP t53 true (.bool false) w16 (fun J_5 =>
                  FA 5 t3 fun t55 =>
                  LD w16 t55 fun t56 =>
                  BIN .int .eql t56 (.int .i64 0) fun t57 =>
                  J_5 t57 w16)
                 (fun t58 w17 =>
                  GRP t58 true (.bool false) w17 (fun J_6 =>
                    FA 6 t3 fun t60 =>
                    LD w17 t60 fun t61 =>
                    LEN (.sl 1) t61 fun t62 =>
                    BIN .int .eql t62 (.int .i64 0) fun t63 =>
                    J_6 t63 w17)
                   (fun t64 w18 =>
                    GRP t64 true (.bool false) w18 (fun J_7 =>
                      FA 7 t3 fun t66 =>
                      LD w18 t66 fun t67 =>
                      LEN (.sl 1) t67 fun t68 =>
                      BIN .int .eql t68 (.int .i64 0) fun t69 =>
                      J_7 t69 w18)
                     (fun t70 w19 =>
                      GRP t70 true (.bool false) w19 (fun J_8 =>
                        FA 8 t3 fun t72 =>
                        LD w19 t72 fun t73 =>
                        LEN (.sl 1) t73 fun t74 =>
                        BIN .int .eql t74 (.int .i64 0) fun t75 =>
                        J_8 t75 w19)
                       (fun t76 w20 =>
                        K t76 w20)))))))))) X
def plan66 : Plan := .seq (.reg (.op 0 false (.op 1 false .nil))) (.seq (.reg (.sq 0 3 .nil)) (.seq (.reg (.sq 0 4 .nil)) (.seq (.seq (.reg (.sq 0 4 .nil)) (.block (.loop [15] [3, 4, 13, 14] (.seq (.reg (.op 0 false .nil)) (.seq (.cond (.leaf) (.leaf)) (.seq (.jblock [] [3, 4, 13, 14, 15] (.seq (.reg (.sq 0 3 .nil)) (.seq (.reg (.op 0 false (.op 1 false .nil))) (.cond (.reg (.op 0 false (.op 1 false .nil))) (.seq (.reg (.sq 0 3 .nil)) (.seq (.reg (.op 0 false (.op 1 false .nil))) (.cond (.reg (.sq 0 3 .nil)) (.reg (.sq 0 4 .nil))))))))) (.reg (.op 0 false (.op 1 false .nil))))))))) (.seq (.reg (.sq 0 3 (.grp 2 true (.sq 3 3 .nil) 6 (.op 7 false (.grp 7 true (.sq 8 3 .nil) 11 (.op 12 false (.grp 12 true (.sq 13 3 .nil) 16 (.op 17 false (.grp 17 true (.sq 18 3 .nil) 21 (.op 22 false (.grp 22 true (.sq 23 3 .nil) 26 (.op 27 false (.grp 27 true (.sq 28 4 .nil) 32 (.op 33 false (.grp 33 true (.sq 34 4 .nil) 38 (.op 39 false (.grp 39 true (.sq 40 4 .nil) 44 (.op 45 false .nil)))))))))))))))))) (.leaf)))))
theorem chk66 : chkC Tryz.prog (codeOf Tryz.f66) plan66 = true := by kernel_rfl
theorem n66 {t0 : Value} {w : World} {K : Value → World → Prop} {X : List PanicEntry → World → Prop} (h : N66 t0 w K X) : CAL Tryz.prog 66 #[t0] w K X :=
  cal (args := [t0]) plan66 Tryz.func66 rfl chk66 (by kernel_rfl) (R := N66 t0 w K X) (by kernel_rfl) h

/-- bellows/code.over[bellows/api.Type] -/
def N106 (t0 t1 : Value) (w : World) (K : Value → World → Prop) (X : List PanicEntry → World → Prop) : Prop :=
  BOX t0 3 w fun t2 w1 =>
  CAL Tryz.prog 173 #[t1, (.func (.func 174) #[] #[t2])] w1 (fun t7 w2 =>
    K t7 w2) X
def plan106 : Plan := .seq (.reg (.op 0 false (.op 1 false .nil))) (.seq (.reg (.sq 0 4 .nil)) (.leaf))
theorem chk106 : chkC Tryz.prog (codeOf Tryz.f106) plan106 = true := by kernel_rfl
theorem n106 {t0 t1 : Value} {w : World} {K : Value → World → Prop} {X : List PanicEntry → World → Prop} (h : N106 t0 t1 w K X) : CAL Tryz.prog 106 #[t0, t1] w K X :=
  cal (args := [t0, t1]) plan106 Tryz.func106 rfl chk106 (by kernel_rfl) (R := N106 t0 t1 w K X) (by kernel_rfl) h

/-- bellows/code.over[bellows/api.Shape] -/
def N107 (t0 t1 : Value) (w : World) (K : Value → World → Prop) (X : List PanicEntry → World → Prop) : Prop :=
  BOX t0 3 w fun t2 w1 =>
  CAL Tryz.prog 175 #[t1, (.func (.func 176) #[] #[t2])] w1 (fun t7 w2 =>
    K t7 w2) X
def plan107 : Plan := .seq (.reg (.op 0 false (.op 1 false .nil))) (.seq (.reg (.sq 0 4 .nil)) (.leaf))
theorem chk107 : chkC Tryz.prog (codeOf Tryz.f107) plan107 = true := by kernel_rfl
theorem n107 {t0 t1 : Value} {w : World} {K : Value → World → Prop} {X : List PanicEntry → World → Prop} (h : N107 t0 t1 w K X) : CAL Tryz.prog 107 #[t0, t1] w K X :=
  cal (args := [t0, t1]) plan107 Tryz.func107 rfl chk107 (by kernel_rfl) (R := N107 t0 t1 w K X) (by kernel_rfl) h

/-- bellows/code.over[string] -/
def N108 (t0 t1 : Value) (w : World) (K : Value → World → Prop) (X : List PanicEntry → World → Prop) : Prop :=
  BOX t0 3 w fun t2 w1 =>
  CAL Tryz.prog 177 #[t1, (.func (.func 178) #[] #[t2])] w1 (fun t7 w2 =>
    K t7 w2) X
def plan108 : Plan := .seq (.reg (.op 0 false (.op 1 false .nil))) (.seq (.reg (.sq 0 4 .nil)) (.leaf))
theorem chk108 : chkC Tryz.prog (codeOf Tryz.f108) plan108 = true := by kernel_rfl
theorem n108 {t0 t1 : Value} {w : World} {K : Value → World → Prop} {X : List PanicEntry → World → Prop} (h : N108 t0 t1 w K X) : CAL Tryz.prog 108 #[t0, t1] w K X :=
  cal (args := [t0, t1]) plan108 Tryz.func108 rfl chk108 (by kernel_rfl) (R := N108 t0 t1 w K X) (by kernel_rfl) h

/-- bellows/code.over[bellows/api.Func] -/
def N109 (t0 t1 : Value) (w : World) (K : Value → World → Prop) (X : List PanicEntry → World → Prop) : Prop :=
  BOX t0 3 w fun t2 w1 =>
  CAL Tryz.prog 179 #[t1, (.func (.func 180) #[] #[t2])] w1 (fun t7 w2 =>
    K t7 w2) X
def plan109 : Plan := .seq (.reg (.op 0 false (.op 1 false .nil))) (.seq (.reg (.sq 0 4 .nil)) (.leaf))
theorem chk109 : chkC Tryz.prog (codeOf Tryz.f109) plan109 = true := by kernel_rfl
theorem n109 {t0 t1 : Value} {w : World} {K : Value → World → Prop} {X : List PanicEntry → World → Prop} (h : N109 t0 t1 w K X) : CAL Tryz.prog 109 #[t0, t1] w K X :=
  cal (args := [t0, t1]) plan109 Tryz.func109 rfl chk109 (by kernel_rfl) (R := N109 t0 t1 w K X) (by kernel_rfl) h

/-- bellows/code.wide -/
def N110 (t0 : Value) (w : World) (K : Value → World → Prop) (X : List PanicEntry → World → Prop) : Prop :=
  CAL Tryz.prog 181 #[t0, (.func (.func 182) #[] #[])] w (fun t4 w1 =>
    K t4 w1) X
def plan110 : Plan := .seq (.reg (.op 0 false .nil)) (.seq (.reg (.sq 0 3 .nil)) (.leaf))
theorem chk110 : chkC Tryz.prog (codeOf Tryz.f110) plan110 = true := by kernel_rfl
theorem n110 {t0 : Value} {w : World} {K : Value → World → Prop} {X : List PanicEntry → World → Prop} (h : N110 t0 w K X) : CAL Tryz.prog 110 #[t0] w K X :=
  cal (args := [t0]) plan110 Tryz.func110 rfl chk110 (by kernel_rfl) (R := N110 t0 w K X) (by kernel_rfl) h

/-- bellows/code.over[int] -/
def N111 (t0 t1 : Value) (w : World) (K : Value → World → Prop) (X : List PanicEntry → World → Prop) : Prop :=
  BOX t0 3 w fun t2 w1 =>
  CAL Tryz.prog 183 #[t1, (.func (.func 184) #[] #[t2])] w1 (fun t7 w2 =>
    K t7 w2) X
def plan111 : Plan := .seq (.reg (.op 0 false (.op 1 false .nil))) (.seq (.reg (.sq 0 4 .nil)) (.leaf))
theorem chk111 : chkC Tryz.prog (codeOf Tryz.f111) plan111 = true := by kernel_rfl
theorem n111 {t0 t1 : Value} {w : World} {K : Value → World → Prop} {X : List PanicEntry → World → Prop} (h : N111 t0 t1 w K X) : CAL Tryz.prog 111 #[t0, t1] w K X :=
  cal (args := [t0, t1]) plan111 Tryz.func111 rfl chk111 (by kernel_rfl) (R := N111 t0 t1 w K X) (by kernel_rfl) h

/-- bellows/code.over[bellows/api.Block] -/
def N112 (t0 t1 : Value) (w : World) (K : Value → World → Prop) (X : List PanicEntry → World → Prop) : Prop :=
  BOX t0 3 w fun t2 w1 =>
  CAL Tryz.prog 185 #[t1, (.func (.func 186) #[] #[t2])] w1 (fun t7 w2 =>
    K t7 w2) X
def plan112 : Plan := .seq (.reg (.op 0 false (.op 1 false .nil))) (.seq (.reg (.sq 0 4 .nil)) (.leaf))
theorem chk112 : chkC Tryz.prog (codeOf Tryz.f112) plan112 = true := by kernel_rfl
theorem n112 {t0 t1 : Value} {w : World} {K : Value → World → Prop} {X : List PanicEntry → World → Prop} (h : N112 t0 t1 w K X) : CAL Tryz.prog 112 #[t0, t1] w K X :=
  cal (args := [t0, t1]) plan112 Tryz.func112 rfl chk112 (by kernel_rfl) (R := N112 t0 t1 w K X) (by kernel_rfl) h

/-- slices.IndexFunc[[]bellows/api.Instr,bellows/api.Instr] -/
def N113 (t0 t1 : Value) (w : World) (K : Value → World → Prop) (X : List PanicEntry → World → Prop) : Prop :=
  LEN (.sl 9) t0 fun t7 =>
  LOOP1 (.int .i64 0) w fun t8 w1 back =>
    BIN .int .lss t8 t7 fun t9 =>
    CND t9 (
      IA 9 t0 t8 fun t14 =>
      LDN 9 w1 t14 fun t15 =>
      CALV Tryz.prog ent t1 [t15] w1 (fun t16 w2 =>
        CND t16 (
          K t8 w2) (
          BIN .int .add t8 (.int .i64 1) fun t18 =>
          back t18 w2)) X) (
      K (.int .i64 (-1)) w1)
def plan113 : Plan := .seq (.reg (.op 0 false .nil)) (.seq (.seq (.reg (.sq 0 3 .nil)) (.block (.loop [8] [0, 1, 7] (.seq (.reg (.op 0 false .nil)) (.seq (.cond (.leaf) (.leaf)) (.seq (.block (.seq (.reg (.op 0 false (.op 1 false .nil))) (.seq (.reg (.sq 0 6 .nil)) (.cond (.seq (.reg (.op 0 false (.op 1 false .nil))) (.leaf)) (.leaf))))) (.reg (.op 0 false (.op 1 false .nil))))))))) (.seq (.reg (.op 0 false .nil)) (.leaf)))
theorem chk113 : chkC Tryz.prog (codeOf Tryz.f113) plan113 = true := by kernel_rfl
theorem n113 {t0 t1 : Value} {w : World} {K : Value → World → Prop} {X : List PanicEntry → World → Prop} (h : N113 t0 t1 w K X) : CAL Tryz.prog 113 #[t0, t1] w K X :=
  cal (args := [t0, t1]) plan113 Tryz.func113 rfl chk113 (by kernel_rfl) (R := N113 t0 t1 w K X) (by kernel_rfl) h

/-- bellows/code.Uses -/
def N114 (t0 : Value) (w : World) (K : Value → World → Prop) (_X : List PanicEntry → World → Prop) : Prop :=
  BIN .int .eql t0 (.int .i64 1) fun t5 =>
  CND t5 (
    K (.string ⟨#[68, 78]⟩) w) (
    BIN .int .eql t0 (.int .i64 2) fun t7 =>
    CND t7 (
      K (.string ⟨#[68, 65, 108]⟩) w) (
      JOIN (fun (J : Value → World → Prop) =>
        BIN .int .eql t0 (.int .i64 3) fun t9 =>
        CND t9 (
          J t9 w) (
          BIN .int .eql t0 (.int .i64 11) fun t10 =>
          J t10 w))
       (fun t8 w1 =>
        CND t8 (
          K (.string ⟨#[68, 65]⟩) w1) (
          BIN .int .eql t0 (.int .i64 4) fun t12 =>
          CND t12 (
            K (.string ⟨#[68, 65, 66, 78]⟩) w1) (
            BIN .int .eql t0 (.int .i64 5) fun t14 =>
            CND t14 (
              K (.string ⟨#[68, 65, 76, 108]⟩) w1) (
              JOIN (fun (J_1 : Value → World → Prop) =>
                BIN .int .eql t0 (.int .i64 6) fun t16 =>
                CND t16 (
                  J_1 t16 w1) (
                  BIN .int .eql t0 (.int .i64 9) fun t17 =>
                  CND t17 (
                    J_1 t17 w1) (
                    BIN .int .eql t0 (.int .i64 12) fun t18 =>
                    CND t18 (
                      J_1 t18 w1) (
                      BIN .int .eql t0 (.int .i64 14) fun t19 =>
                      J_1 t19 w1))))
               (fun t15 w2 =>
                CND t15 (
                  K (.string ⟨#[68, 65, 66]⟩) w2) (
                  JOIN (fun (J_2 : Value → World → Prop) =>
                    BIN .int .eql t0 (.int .i64 7) fun t21 =>
                    CND t21 (
                      J_2 t21 w2) (
                      BIN .int .eql t0 (.int .i64 10) fun t22 =>
                      CND t22 (
                        J_2 t22 w2) (
                        BIN .int .eql t0 (.int .i64 19) fun t23 =>
                        J_2 t23 w2)))
                   (fun t20 w3 =>
                    CND t20 (
                      K (.string ⟨#[65, 66, 67]⟩) w3) (
                      BIN .int .eql t0 (.int .i64 8) fun t25 =>
                      CND t25 (
                        K (.string ⟨#[68, 65, 66, 67, 108]⟩) w3) (
                        BIN .int .eql t0 (.int .i64 13) fun t27 =>
                        CND t27 (
                          K (.string ⟨#[68, 65, 66, 108]⟩) w3) (
                          BIN .int .eql t0 (.int .i64 15) fun t29 =>
                          CND t29 (
                            K (.string ⟨#[68]⟩) w3) (
                            JOIN (fun (J_3 : Value → World → Prop) =>
                              BIN .int .eql t0 (.int .i64 16) fun t31 =>
                              CND t31 (
                                J_3 t31 w3) (
                                BIN .int .eql t0 (.int .i64 18) fun t32 =>
                                CND t32 (
                                  J_3 t32 w3) (
                                  BIN .int .eql t0 (.int .i64 22) fun t33 =>
                                  CND t33 (
                                    J_3 t33 w3) (
                                    BIN .int .eql t0 (.int .i64 23) fun t34 =>
                                    J_3 t34 w3))))
                             (fun t30 w4 =>
                              CND t30 (
                                K (.string ⟨#[65]⟩) w4) (
                                BIN .int .eql t0 (.int .i64 17) fun t36 =>
                                CND t36 (
                                  K (.string ⟨#[68, 65, 66, 67, 76, 108]⟩) w4) (
                                  BIN .int .eql t0 (.int .i64 20) fun t38 =>
                                  CND t38 (
                                    K (.string ⟨#[65, 76, 77, 66]⟩) w4) (
                                    BIN .int .eql t0 (.int .i64 21) fun t40 =>
                                    CND t40 (
                                      K (.string ⟨#[65, 76]⟩) w4) (
                                      K (.string ⟨#[]⟩) w4))))))))))))))))))
def plan114 : Plan := .seq (.reg (.op 0 false .nil)) (.seq (.seq (.reg (.op 0 false .nil)) (.block (.seq (.reg (.op 0 false (.op 1 false .nil))) (.cond (.seq (.reg (.op 0 false .nil)) (.leaf)) (.seq (.reg (.op 0 false (.op 1 false .nil))) (.cond (.seq (.reg (.op 0 false .nil)) (.leaf)) (.jseq [8] [3] (.seq (.reg (.op 0 false (.op 1 false .nil))) (.cond (.leaf) (.reg (.op 0 false (.op 1 false .nil))))) (.cond (.seq (.reg (.op 0 false .nil)) (.leaf)) (.seq (.reg (.op 0 false (.op 1 false .nil))) (.cond (.seq (.reg (.op 0 false .nil)) (.leaf)) (.seq (.reg (.op 0 false (.op 1 false .nil))) (.cond (.seq (.reg (.op 0 false .nil)) (.leaf)) (.jseq [15] [3] (.seq (.reg (.op 0 false (.op 1 false .nil))) (.cond (.leaf) (.seq (.reg (.op 0 false (.op 1 false .nil))) (.cond (.leaf) (.seq (.reg (.op 0 false (.op 1 false .nil))) (.cond (.leaf) (.reg (.op 0 false (.op 1 false .nil))))))))) (.cond (.seq (.reg (.op 0 false .nil)) (.leaf)) (.jseq [20] [3] (.seq (.reg (.op 0 false (.op 1 false .nil))) (.cond (.leaf) (.seq (.reg (.op 0 false (.op 1 false .nil))) (.cond (.leaf) (.reg (.op 0 false (.op 1 false .nil))))))) (.cond (.seq (.reg (.op 0 false .nil)) (.leaf)) (.seq (.reg (.op 0 false (.op 1 false .nil))) (.cond (.seq (.reg (.op 0 false .nil)) (.leaf)) (.seq (.reg (.op 0 false (.op 1 false .nil))) (.cond (.seq (.reg (.op 0 false .nil)) (.leaf)) (.seq (.reg (.op 0 false (.op 1 false .nil))) (.cond (.seq (.reg (.op 0 false .nil)) (.leaf)) (.jseq [30] [3] (.seq (.reg (.op 0 false (.op 1 false .nil))) (.cond (.leaf) (.seq (.reg (.op 0 false (.op 1 false .nil))) (.cond (.leaf) (.seq (.reg (.op 0 false (.op 1 false .nil))) (.cond (.leaf) (.reg (.op 0 false (.op 1 false .nil))))))))) (.cond (.seq (.reg (.op 0 false .nil)) (.leaf)) (.seq (.reg (.op 0 false (.op 1 false .nil))) (.cond (.seq (.reg (.op 0 false .nil)) (.leaf)) (.seq (.reg (.op 0 false (.op 1 false .nil))) (.cond (.seq (.reg (.op 0 false .nil)) (.leaf)) (.seq (.reg (.op 0 false (.op 1 false .nil))) (.cond (.seq (.reg (.op 0 false .nil)) (.leaf)) (.leaf))))))))))))))))))))))))))))))) (.seq (.reg (.op 0 false .nil)) (.leaf)))
theorem chk114 : chkC Tryz.prog (codeOf Tryz.f114) plan114 = true := by kernel_rfl
theorem n114 {t0 : Value} {w : World} {K : Value → World → Prop} {X : List PanicEntry → World → Prop} (h : N114 t0 w K X) : CAL Tryz.prog 114 #[t0] w K X :=
  cal (args := [t0]) plan114 Tryz.func114 rfl chk114 (by kernel_rfl) (R := N114 t0 w K X) (by kernel_rfl) h

/-- bellows/code.number -/
def N115 (t0 t1 : Value) (w : World) (K : Value → World → Prop) (_X : List PanicEntry → World → Prop) : Prop :=
  BIN .int .eql t1 (.int .u8 68) fun t7 =>
  CND t7 (
    NC t0 fun t9 =>
    FA 1 t9 fun t10 =>
    K t10 w) (
    BIN .int .eql t1 (.int .u8 65) fun t12 =>
    CND t12 (
      NC t0 fun t14 =>
      FA 2 t14 fun t15 =>
      K t15 w) (
      BIN .int .eql t1 (.int .u8 66) fun t17 =>
      CND t17 (
        NC t0 fun t19 =>
        FA 3 t19 fun t20 =>
        K t20 w) (
        BIN .int .eql t1 (.int .u8 67) fun t22 =>
        CND t22 (
          NC t0 fun t24 =>
          FA 4 t24 fun t25 =>
          K t25 w) (
          K (.pointer none) w))))
def plan115 : Plan := .seq (.reg (.op 0 false .nil)) (.seq (.seq (.reg (.op 0 false .nil)) (.block (.seq (.reg (.op 0 false (.op 1 false .nil))) (.cond (.seq (.reg (.sq 0 4 .nil)) (.leaf)) (.seq (.reg (.op 0 false (.op 1 false .nil))) (.cond (.seq (.reg (.sq 0 4 .nil)) (.leaf)) (.seq (.reg (.op 0 false (.op 1 false .nil))) (.cond (.seq (.reg (.sq 0 4 .nil)) (.leaf)) (.seq (.reg (.op 0 false (.op 1 false .nil))) (.cond (.seq (.reg (.sq 0 4 .nil)) (.leaf)) (.leaf))))))))))) (.seq (.reg (.op 0 false .nil)) (.leaf)))
theorem chk115 : chkC Tryz.prog (codeOf Tryz.f115) plan115 = true := by kernel_rfl
theorem n115 {t0 t1 : Value} {w : World} {K : Value → World → Prop} {X : List PanicEntry → World → Prop} (h : N115 t0 t1 w K X) : CAL Tryz.prog 115 #[t0, t1] w K X :=
  cal (args := [t0, t1]) plan115 Tryz.func115 rfl chk115 (by kernel_rfl) (R := N115 t0 t1 w K X) (by kernel_rfl) h

/-- bellows/code.list -/
def N116 (t0 t1 : Value) (w : World) (K : Value → World → Prop) (_X : List PanicEntry → World → Prop) : Prop :=
  BIN .int .eql t1 (.int .u8 76) fun t7 =>
  CND t7 (
    NC t0 fun t9 =>
    FA 6 t9 fun t10 =>
    K t10 w) (
    BIN .int .eql t1 (.int .u8 77) fun t12 =>
    CND t12 (
      NC t0 fun t14 =>
      FA 7 t14 fun t15 =>
      K t15 w) (
      NC t0 fun t17 =>
      FA 8 t17 fun t18 =>
      K t18 w))
def plan116 : Plan := .seq (.reg (.op 0 false .nil)) (.seq (.seq (.reg (.op 0 false .nil)) (.block (.seq (.reg (.op 0 false (.op 1 false .nil))) (.cond (.seq (.reg (.sq 0 4 .nil)) (.leaf)) (.seq (.reg (.op 0 false (.op 1 false .nil))) (.cond (.seq (.reg (.sq 0 4 .nil)) (.leaf)) (.leaf))))))) (.seq (.reg (.sq 0 4 .nil)) (.leaf)))
theorem chk116 : chkC Tryz.prog (codeOf Tryz.f116) plan116 = true := by kernel_rfl
theorem n116 {t0 t1 : Value} {w : World} {K : Value → World → Prop} {X : List PanicEntry → World → Prop} (h : N116 t0 t1 w K X) : CAL Tryz.prog 116 #[t0, t1] w K X :=
  cal (args := [t0, t1]) plan116 Tryz.func116 rfl chk116 (by kernel_rfl) (R := N116 t0 t1 w K X) (by kernel_rfl) h

/-- slices.ContainsFunc[[][]bellows/api.Type,[]bellows/api.Type] -/
def N173 (t0 t1 : Value) (w : World) (K : Value → World → Prop) (X : List PanicEntry → World → Prop) : Prop :=
  CAL Tryz.prog 213 #[t0, t1] w (fun t7 w1 =>
    BIN .int .geq t7 (.int .i64 0) fun t8 =>
    K t8 w1) X
def plan173 : Plan := .seq (.reg (.op 0 false .nil)) (.seq (.reg (.sq 0 5 .nil)) (.leaf))
theorem chk173 : chkC Tryz.prog (codeOf Tryz.f173) plan173 = true := by kernel_rfl
theorem n173 {t0 t1 : Value} {w : World} {K : Value → World → Prop} {X : List PanicEntry → World → Prop} (h : N173 t0 t1 w K X) : CAL Tryz.prog 173 #[t0, t1] w K X :=
  cal (args := [t0, t1]) plan173 Tryz.func173 rfl chk173 (by kernel_rfl) (R := N173 t0 t1 w K X) (by kernel_rfl) h

/-- bellows/code.over[bellows/api.Type]$1 -/
def N174 (t0 t1 : Value) (w : World) (K : Value → World → Prop) (_X : List PanicEntry → World → Prop) : Prop :=
  LEN (.sl 2) t0 fun t5 =>
  LD w t1 fun t6 =>
  BIN .int .gtr t5 t6 fun t7 =>
  K t7 w
def plan174 : Plan := .seq (.reg (.op 0 false .nil)) (.seq (.reg (.sq 0 5 .nil)) (.leaf))
theorem chk174 : chkC Tryz.prog (codeOf Tryz.f174) plan174 = true := by kernel_rfl
theorem n174 {t0 t1 : Value} {w : World} {K : Value → World → Prop} {X : List PanicEntry → World → Prop} (h : N174 t0 t1 w K X) : CAL Tryz.prog 174 #[t0, t1] w K X :=
  cal (args := [t0, t1]) plan174 Tryz.func174 rfl chk174 (by kernel_rfl) (R := N174 t0 t1 w K X) (by kernel_rfl) h

/-- slices.ContainsFunc[[][]bellows/api.Shape,[]bellows/api.Shape] -/
def N175 (t0 t1 : Value) (w : World) (K : Value → World → Prop) (X : List PanicEntry → World → Prop) : Prop :=
  CAL Tryz.prog 214 #[t0, t1] w (fun t7 w1 =>
    BIN .int .geq t7 (.int .i64 0) fun t8 =>
    K t8 w1) X
def plan175 : Plan := .seq (.reg (.op 0 false .nil)) (.seq (.reg (.sq 0 5 .nil)) (.leaf))
theorem chk175 : chkC Tryz.prog (codeOf Tryz.f175) plan175 = true := by kernel_rfl
theorem n175 {t0 t1 : Value} {w : World} {K : Value → World → Prop} {X : List PanicEntry → World → Prop} (h : N175 t0 t1 w K X) : CAL Tryz.prog 175 #[t0, t1] w K X :=
  cal (args := [t0, t1]) plan175 Tryz.func175 rfl chk175 (by kernel_rfl) (R := N175 t0 t1 w K X) (by kernel_rfl) h

/-- bellows/code.over[bellows/api.Shape]$1 -/
def N176 (t0 t1 : Value) (w : World) (K : Value → World → Prop) (_X : List PanicEntry → World → Prop) : Prop :=
  LEN (.sl 3) t0 fun t5 =>
  LD w t1 fun t6 =>
  BIN .int .gtr t5 t6 fun t7 =>
  K t7 w
def plan176 : Plan := .seq (.reg (.op 0 false .nil)) (.seq (.reg (.sq 0 5 .nil)) (.leaf))
theorem chk176 : chkC Tryz.prog (codeOf Tryz.f176) plan176 = true := by kernel_rfl
theorem n176 {t0 t1 : Value} {w : World} {K : Value → World → Prop} {X : List PanicEntry → World → Prop} (h : N176 t0 t1 w K X) : CAL Tryz.prog 176 #[t0, t1] w K X :=
  cal (args := [t0, t1]) plan176 Tryz.func176 rfl chk176 (by kernel_rfl) (R := N176 t0 t1 w K X) (by kernel_rfl) h

/-- slices.ContainsFunc[[][]string,[]string] -/
def N177 (t0 t1 : Value) (w : World) (K : Value → World → Prop) (X : List PanicEntry → World → Prop) : Prop :=
  CAL Tryz.prog 215 #[t0, t1] w (fun t7 w1 =>
    BIN .int .geq t7 (.int .i64 0) fun t8 =>
    K t8 w1) X
def plan177 : Plan := .seq (.reg (.op 0 false .nil)) (.seq (.reg (.sq 0 5 .nil)) (.leaf))
theorem chk177 : chkC Tryz.prog (codeOf Tryz.f177) plan177 = true := by kernel_rfl
theorem n177 {t0 t1 : Value} {w : World} {K : Value → World → Prop} {X : List PanicEntry → World → Prop} (h : N177 t0 t1 w K X) : CAL Tryz.prog 177 #[t0, t1] w K X :=
  cal (args := [t0, t1]) plan177 Tryz.func177 rfl chk177 (by kernel_rfl) (R := N177 t0 t1 w K X) (by kernel_rfl) h

/-- bellows/code.over[string]$1 -/
def N178 (t0 t1 : Value) (w : World) (K : Value → World → Prop) (_X : List PanicEntry → World → Prop) : Prop :=
  LEN (.sl 1) t0 fun t5 =>
  LD w t1 fun t6 =>
  BIN .int .gtr t5 t6 fun t7 =>
  K t7 w
def plan178 : Plan := .seq (.reg (.op 0 false .nil)) (.seq (.reg (.sq 0 5 .nil)) (.leaf))
theorem chk178 : chkC Tryz.prog (codeOf Tryz.f178) plan178 = true := by kernel_rfl
theorem n178 {t0 t1 : Value} {w : World} {K : Value → World → Prop} {X : List PanicEntry → World → Prop} (h : N178 t0 t1 w K X) : CAL Tryz.prog 178 #[t0, t1] w K X :=
  cal (args := [t0, t1]) plan178 Tryz.func178 rfl chk178 (by kernel_rfl) (R := N178 t0 t1 w K X) (by kernel_rfl) h

/-- slices.ContainsFunc[[][]bellows/api.Func,[]bellows/api.Func] -/
def N179 (t0 t1 : Value) (w : World) (K : Value → World → Prop) (X : List PanicEntry → World → Prop) : Prop :=
  CAL Tryz.prog 216 #[t0, t1] w (fun t7 w1 =>
    BIN .int .geq t7 (.int .i64 0) fun t8 =>
    K t8 w1) X
def plan179 : Plan := .seq (.reg (.op 0 false .nil)) (.seq (.reg (.sq 0 5 .nil)) (.leaf))
theorem chk179 : chkC Tryz.prog (codeOf Tryz.f179) plan179 = true := by kernel_rfl
theorem n179 {t0 t1 : Value} {w : World} {K : Value → World → Prop} {X : List PanicEntry → World → Prop} (h : N179 t0 t1 w K X) : CAL Tryz.prog 179 #[t0, t1] w K X :=
  cal (args := [t0, t1]) plan179 Tryz.func179 rfl chk179 (by kernel_rfl) (R := N179 t0 t1 w K X) (by kernel_rfl) h

/-- bellows/code.over[bellows/api.Func]$1 -/
def N180 (t0 t1 : Value) (w : World) (K : Value → World → Prop) (_X : List PanicEntry → World → Prop) : Prop :=
  LEN (.sl 4) t0 fun t5 =>
  LD w t1 fun t6 =>
  BIN .int .gtr t5 t6 fun t7 =>
  K t7 w
def plan180 : Plan := .seq (.reg (.op 0 false .nil)) (.seq (.reg (.sq 0 5 .nil)) (.leaf))
theorem chk180 : chkC Tryz.prog (codeOf Tryz.f180) plan180 = true := by kernel_rfl
theorem n180 {t0 t1 : Value} {w : World} {K : Value → World → Prop} {X : List PanicEntry → World → Prop} (h : N180 t0 t1 w K X) : CAL Tryz.prog 180 #[t0, t1] w K X :=
  cal (args := [t0, t1]) plan180 Tryz.func180 rfl chk180 (by kernel_rfl) (R := N180 t0 t1 w K X) (by kernel_rfl) h

/-- slices.ContainsFunc[[]string,string] -/
def N181 (t0 t1 : Value) (w : World) (K : Value → World → Prop) (X : List PanicEntry → World → Prop) : Prop :=
  CAL Tryz.prog 217 #[t0, t1] w (fun t7 w1 =>
    BIN .int .geq t7 (.int .i64 0) fun t8 =>
    K t8 w1) X
def plan181 : Plan := .seq (.reg (.op 0 false .nil)) (.seq (.reg (.sq 0 5 .nil)) (.leaf))
theorem chk181 : chkC Tryz.prog (codeOf Tryz.f181) plan181 = true := by kernel_rfl
theorem n181 {t0 t1 : Value} {w : World} {K : Value → World → Prop} {X : List PanicEntry → World → Prop} (h : N181 t0 t1 w K X) : CAL Tryz.prog 181 #[t0, t1] w K X :=
  cal (args := [t0, t1]) plan181 Tryz.func181 rfl chk181 (by kernel_rfl) (R := N181 t0 t1 w K X) (by kernel_rfl) h

/-- bellows/code.wide$1 -/
def N182 (t0 : Value) (w : World) (K : Value → World → Prop) (_X : List PanicEntry → World → Prop) : Prop :=
  LEN .str t0 fun t4 =>
  BIN .int .gtr t4 (.int .i64 16384) fun t5 =>
  K t5 w
def plan182 : Plan := .seq (.reg (.op 0 false .nil)) (.seq (.reg (.sq 0 4 .nil)) (.leaf))
theorem chk182 : chkC Tryz.prog (codeOf Tryz.f182) plan182 = true := by kernel_rfl
theorem n182 {t0 : Value} {w : World} {K : Value → World → Prop} {X : List PanicEntry → World → Prop} (h : N182 t0 w K X) : CAL Tryz.prog 182 #[t0] w K X :=
  cal (args := [t0]) plan182 Tryz.func182 rfl chk182 (by kernel_rfl) (R := N182 t0 w K X) (by kernel_rfl) h

/-- slices.ContainsFunc[[][]int,[]int] -/
def N183 (t0 t1 : Value) (w : World) (K : Value → World → Prop) (X : List PanicEntry → World → Prop) : Prop :=
  CAL Tryz.prog 218 #[t0, t1] w (fun t7 w1 =>
    BIN .int .geq t7 (.int .i64 0) fun t8 =>
    K t8 w1) X
def plan183 : Plan := .seq (.reg (.op 0 false .nil)) (.seq (.reg (.sq 0 5 .nil)) (.leaf))
theorem chk183 : chkC Tryz.prog (codeOf Tryz.f183) plan183 = true := by kernel_rfl
theorem n183 {t0 t1 : Value} {w : World} {K : Value → World → Prop} {X : List PanicEntry → World → Prop} (h : N183 t0 t1 w K X) : CAL Tryz.prog 183 #[t0, t1] w K X :=
  cal (args := [t0, t1]) plan183 Tryz.func183 rfl chk183 (by kernel_rfl) (R := N183 t0 t1 w K X) (by kernel_rfl) h

/-- bellows/code.over[int]$1 -/
def N184 (t0 t1 : Value) (w : World) (K : Value → World → Prop) (_X : List PanicEntry → World → Prop) : Prop :=
  LEN (.sl 1) t0 fun t5 =>
  LD w t1 fun t6 =>
  BIN .int .gtr t5 t6 fun t7 =>
  K t7 w
def plan184 : Plan := .seq (.reg (.op 0 false .nil)) (.seq (.reg (.sq 0 5 .nil)) (.leaf))
theorem chk184 : chkC Tryz.prog (codeOf Tryz.f184) plan184 = true := by kernel_rfl
theorem n184 {t0 t1 : Value} {w : World} {K : Value → World → Prop} {X : List PanicEntry → World → Prop} (h : N184 t0 t1 w K X) : CAL Tryz.prog 184 #[t0, t1] w K X :=
  cal (args := [t0, t1]) plan184 Tryz.func184 rfl chk184 (by kernel_rfl) (R := N184 t0 t1 w K X) (by kernel_rfl) h

/-- slices.ContainsFunc[[][]bellows/api.Block,[]bellows/api.Block] -/
def N185 (t0 t1 : Value) (w : World) (K : Value → World → Prop) (X : List PanicEntry → World → Prop) : Prop :=
  CAL Tryz.prog 219 #[t0, t1] w (fun t7 w1 =>
    BIN .int .geq t7 (.int .i64 0) fun t8 =>
    K t8 w1) X
def plan185 : Plan := .seq (.reg (.op 0 false .nil)) (.seq (.reg (.sq 0 5 .nil)) (.leaf))
theorem chk185 : chkC Tryz.prog (codeOf Tryz.f185) plan185 = true := by kernel_rfl
theorem n185 {t0 t1 : Value} {w : World} {K : Value → World → Prop} {X : List PanicEntry → World → Prop} (h : N185 t0 t1 w K X) : CAL Tryz.prog 185 #[t0, t1] w K X :=
  cal (args := [t0, t1]) plan185 Tryz.func185 rfl chk185 (by kernel_rfl) (R := N185 t0 t1 w K X) (by kernel_rfl) h

/-- bellows/code.over[bellows/api.Block]$1 -/
def N186 (t0 t1 : Value) (w : World) (K : Value → World → Prop) (_X : List PanicEntry → World → Prop) : Prop :=
  LEN (.sl 2) t0 fun t5 =>
  LD w t1 fun t6 =>
  BIN .int .gtr t5 t6 fun t7 =>
  K t7 w
def plan186 : Plan := .seq (.reg (.op 0 false .nil)) (.seq (.reg (.sq 0 5 .nil)) (.leaf))
theorem chk186 : chkC Tryz.prog (codeOf Tryz.f186) plan186 = true := by kernel_rfl
theorem n186 {t0 t1 : Value} {w : World} {K : Value → World → Prop} {X : List PanicEntry → World → Prop} (h : N186 t0 t1 w K X) : CAL Tryz.prog 186 #[t0, t1] w K X :=
  cal (args := [t0, t1]) plan186 Tryz.func186 rfl chk186 (by kernel_rfl) (R := N186 t0 t1 w K X) (by kernel_rfl) h

/-- slices.IndexFunc[[][]bellows/api.Type,[]bellows/api.Type] -/
def N213 (t0 t1 : Value) (w : World) (K : Value → World → Prop) (X : List PanicEntry → World → Prop) : Prop :=
  LEN (.sl 1) t0 fun t7 =>
  LOOP1 (.int .i64 0) w fun t8 w1 back =>
    BIN .int .lss t8 t7 fun t9 =>
    CND t9 (
      IA 1 t0 t8 fun t14 =>
      LD w1 t14 fun t15 =>
      CALV Tryz.prog ent t1 [t15] w1 (fun t16 w2 =>
        CND t16 (
          K t8 w2) (
          BIN .int .add t8 (.int .i64 1) fun t18 =>
          back t18 w2)) X) (
      K (.int .i64 (-1)) w1)
def plan213 : Plan := .seq (.reg (.op 0 false .nil)) (.seq (.seq (.reg (.sq 0 3 .nil)) (.block (.loop [8] [0, 1, 7] (.seq (.reg (.op 0 false .nil)) (.seq (.cond (.leaf) (.leaf)) (.seq (.block (.seq (.reg (.op 0 false (.op 1 false .nil))) (.seq (.reg (.sq 0 6 .nil)) (.cond (.seq (.reg (.op 0 false (.op 1 false .nil))) (.leaf)) (.leaf))))) (.reg (.op 0 false (.op 1 false .nil))))))))) (.seq (.reg (.op 0 false .nil)) (.leaf)))
theorem chk213 : chkC Tryz.prog (codeOf Tryz.f213) plan213 = true := by kernel_rfl
theorem n213 {t0 t1 : Value} {w : World} {K : Value → World → Prop} {X : List PanicEntry → World → Prop} (h : N213 t0 t1 w K X) : CAL Tryz.prog 213 #[t0, t1] w K X :=
  cal (args := [t0, t1]) plan213 Tryz.func213 rfl chk213 (by kernel_rfl) (R := N213 t0 t1 w K X) (by kernel_rfl) h

/-- slices.IndexFunc[[][]bellows/api.Shape,[]bellows/api.Shape] -/
def N214 (t0 t1 : Value) (w : World) (K : Value → World → Prop) (X : List PanicEntry → World → Prop) : Prop :=
  LEN (.sl 1) t0 fun t7 =>
  LOOP1 (.int .i64 0) w fun t8 w1 back =>
    BIN .int .lss t8 t7 fun t9 =>
    CND t9 (
      IA 1 t0 t8 fun t14 =>
      LD w1 t14 fun t15 =>
      CALV Tryz.prog ent t1 [t15] w1 (fun t16 w2 =>
        CND t16 (
          K t8 w2) (
          BIN .int .add t8 (.int .i64 1) fun t18 =>
          back t18 w2)) X) (
      K (.int .i64 (-1)) w1)
def plan214 : Plan := .seq (.reg (.op 0 false .nil)) (.seq (.seq (.reg (.sq 0 3 .nil)) (.block (.loop [8] [0, 1, 7] (.seq (.reg (.op 0 false .nil)) (.seq (.cond (.leaf) (.leaf)) (.seq (.block (.seq (.reg (.op 0 false (.op 1 false .nil))) (.seq (.reg (.sq 0 6 .nil)) (.cond (.seq (.reg (.op 0 false (.op 1 false .nil))) (.leaf)) (.leaf))))) (.reg (.op 0 false (.op 1 false .nil))))))))) (.seq (.reg (.op 0 false .nil)) (.leaf)))
theorem chk214 : chkC Tryz.prog (codeOf Tryz.f214) plan214 = true := by kernel_rfl
theorem n214 {t0 t1 : Value} {w : World} {K : Value → World → Prop} {X : List PanicEntry → World → Prop} (h : N214 t0 t1 w K X) : CAL Tryz.prog 214 #[t0, t1] w K X :=
  cal (args := [t0, t1]) plan214 Tryz.func214 rfl chk214 (by kernel_rfl) (R := N214 t0 t1 w K X) (by kernel_rfl) h

/-- slices.IndexFunc[[][]string,[]string] -/
def N215 (t0 t1 : Value) (w : World) (K : Value → World → Prop) (X : List PanicEntry → World → Prop) : Prop :=
  LEN (.sl 1) t0 fun t7 =>
  LOOP1 (.int .i64 0) w fun t8 w1 back =>
    BIN .int .lss t8 t7 fun t9 =>
    CND t9 (
      IA 1 t0 t8 fun t14 =>
      LD w1 t14 fun t15 =>
      CALV Tryz.prog ent t1 [t15] w1 (fun t16 w2 =>
        CND t16 (
          K t8 w2) (
          BIN .int .add t8 (.int .i64 1) fun t18 =>
          back t18 w2)) X) (
      K (.int .i64 (-1)) w1)
def plan215 : Plan := .seq (.reg (.op 0 false .nil)) (.seq (.seq (.reg (.sq 0 3 .nil)) (.block (.loop [8] [0, 1, 7] (.seq (.reg (.op 0 false .nil)) (.seq (.cond (.leaf) (.leaf)) (.seq (.block (.seq (.reg (.op 0 false (.op 1 false .nil))) (.seq (.reg (.sq 0 6 .nil)) (.cond (.seq (.reg (.op 0 false (.op 1 false .nil))) (.leaf)) (.leaf))))) (.reg (.op 0 false (.op 1 false .nil))))))))) (.seq (.reg (.op 0 false .nil)) (.leaf)))
theorem chk215 : chkC Tryz.prog (codeOf Tryz.f215) plan215 = true := by kernel_rfl
theorem n215 {t0 t1 : Value} {w : World} {K : Value → World → Prop} {X : List PanicEntry → World → Prop} (h : N215 t0 t1 w K X) : CAL Tryz.prog 215 #[t0, t1] w K X :=
  cal (args := [t0, t1]) plan215 Tryz.func215 rfl chk215 (by kernel_rfl) (R := N215 t0 t1 w K X) (by kernel_rfl) h

/-- slices.IndexFunc[[][]bellows/api.Func,[]bellows/api.Func] -/
def N216 (t0 t1 : Value) (w : World) (K : Value → World → Prop) (X : List PanicEntry → World → Prop) : Prop :=
  LEN (.sl 1) t0 fun t7 =>
  LOOP1 (.int .i64 0) w fun t8 w1 back =>
    BIN .int .lss t8 t7 fun t9 =>
    CND t9 (
      IA 1 t0 t8 fun t14 =>
      LD w1 t14 fun t15 =>
      CALV Tryz.prog ent t1 [t15] w1 (fun t16 w2 =>
        CND t16 (
          K t8 w2) (
          BIN .int .add t8 (.int .i64 1) fun t18 =>
          back t18 w2)) X) (
      K (.int .i64 (-1)) w1)
def plan216 : Plan := .seq (.reg (.op 0 false .nil)) (.seq (.seq (.reg (.sq 0 3 .nil)) (.block (.loop [8] [0, 1, 7] (.seq (.reg (.op 0 false .nil)) (.seq (.cond (.leaf) (.leaf)) (.seq (.block (.seq (.reg (.op 0 false (.op 1 false .nil))) (.seq (.reg (.sq 0 6 .nil)) (.cond (.seq (.reg (.op 0 false (.op 1 false .nil))) (.leaf)) (.leaf))))) (.reg (.op 0 false (.op 1 false .nil))))))))) (.seq (.reg (.op 0 false .nil)) (.leaf)))
theorem chk216 : chkC Tryz.prog (codeOf Tryz.f216) plan216 = true := by kernel_rfl
theorem n216 {t0 t1 : Value} {w : World} {K : Value → World → Prop} {X : List PanicEntry → World → Prop} (h : N216 t0 t1 w K X) : CAL Tryz.prog 216 #[t0, t1] w K X :=
  cal (args := [t0, t1]) plan216 Tryz.func216 rfl chk216 (by kernel_rfl) (R := N216 t0 t1 w K X) (by kernel_rfl) h

/-- slices.IndexFunc[[]string,string] -/
def N217 (t0 t1 : Value) (w : World) (K : Value → World → Prop) (X : List PanicEntry → World → Prop) : Prop :=
  LEN (.sl 1) t0 fun t7 =>
  LOOP1 (.int .i64 0) w fun t8 w1 back =>
    BIN .int .lss t8 t7 fun t9 =>
    CND t9 (
      IA 1 t0 t8 fun t14 =>
      LD w1 t14 fun t15 =>
      CALV Tryz.prog ent t1 [t15] w1 (fun t16 w2 =>
        CND t16 (
          K t8 w2) (
          BIN .int .add t8 (.int .i64 1) fun t18 =>
          back t18 w2)) X) (
      K (.int .i64 (-1)) w1)
def plan217 : Plan := .seq (.reg (.op 0 false .nil)) (.seq (.seq (.reg (.sq 0 3 .nil)) (.block (.loop [8] [0, 1, 7] (.seq (.reg (.op 0 false .nil)) (.seq (.cond (.leaf) (.leaf)) (.seq (.block (.seq (.reg (.op 0 false (.op 1 false .nil))) (.seq (.reg (.sq 0 6 .nil)) (.cond (.seq (.reg (.op 0 false (.op 1 false .nil))) (.leaf)) (.leaf))))) (.reg (.op 0 false (.op 1 false .nil))))))))) (.seq (.reg (.op 0 false .nil)) (.leaf)))
theorem chk217 : chkC Tryz.prog (codeOf Tryz.f217) plan217 = true := by kernel_rfl
theorem n217 {t0 t1 : Value} {w : World} {K : Value → World → Prop} {X : List PanicEntry → World → Prop} (h : N217 t0 t1 w K X) : CAL Tryz.prog 217 #[t0, t1] w K X :=
  cal (args := [t0, t1]) plan217 Tryz.func217 rfl chk217 (by kernel_rfl) (R := N217 t0 t1 w K X) (by kernel_rfl) h

/-- slices.IndexFunc[[][]int,[]int] -/
def N218 (t0 t1 : Value) (w : World) (K : Value → World → Prop) (X : List PanicEntry → World → Prop) : Prop :=
  LEN (.sl 1) t0 fun t7 =>
  LOOP1 (.int .i64 0) w fun t8 w1 back =>
    BIN .int .lss t8 t7 fun t9 =>
    CND t9 (
      IA 1 t0 t8 fun t14 =>
      LD w1 t14 fun t15 =>
      CALV Tryz.prog ent t1 [t15] w1 (fun t16 w2 =>
        CND t16 (
          K t8 w2) (
          BIN .int .add t8 (.int .i64 1) fun t18 =>
          back t18 w2)) X) (
      K (.int .i64 (-1)) w1)
def plan218 : Plan := .seq (.reg (.op 0 false .nil)) (.seq (.seq (.reg (.sq 0 3 .nil)) (.block (.loop [8] [0, 1, 7] (.seq (.reg (.op 0 false .nil)) (.seq (.cond (.leaf) (.leaf)) (.seq (.block (.seq (.reg (.op 0 false (.op 1 false .nil))) (.seq (.reg (.sq 0 6 .nil)) (.cond (.seq (.reg (.op 0 false (.op 1 false .nil))) (.leaf)) (.leaf))))) (.reg (.op 0 false (.op 1 false .nil))))))))) (.seq (.reg (.op 0 false .nil)) (.leaf)))
theorem chk218 : chkC Tryz.prog (codeOf Tryz.f218) plan218 = true := by kernel_rfl
theorem n218 {t0 t1 : Value} {w : World} {K : Value → World → Prop} {X : List PanicEntry → World → Prop} (h : N218 t0 t1 w K X) : CAL Tryz.prog 218 #[t0, t1] w K X :=
  cal (args := [t0, t1]) plan218 Tryz.func218 rfl chk218 (by kernel_rfl) (R := N218 t0 t1 w K X) (by kernel_rfl) h

/-- slices.IndexFunc[[][]bellows/api.Block,[]bellows/api.Block] -/
def N219 (t0 t1 : Value) (w : World) (K : Value → World → Prop) (X : List PanicEntry → World → Prop) : Prop :=
  LEN (.sl 1) t0 fun t7 =>
  LOOP1 (.int .i64 0) w fun t8 w1 back =>
    BIN .int .lss t8 t7 fun t9 =>
    CND t9 (
      IA 1 t0 t8 fun t14 =>
      LD w1 t14 fun t15 =>
      CALV Tryz.prog ent t1 [t15] w1 (fun t16 w2 =>
        CND t16 (
          K t8 w2) (
          BIN .int .add t8 (.int .i64 1) fun t18 =>
          back t18 w2)) X) (
      K (.int .i64 (-1)) w1)
def plan219 : Plan := .seq (.reg (.op 0 false .nil)) (.seq (.seq (.reg (.sq 0 3 .nil)) (.block (.loop [8] [0, 1, 7] (.seq (.reg (.op 0 false .nil)) (.seq (.cond (.leaf) (.leaf)) (.seq (.block (.seq (.reg (.op 0 false (.op 1 false .nil))) (.seq (.reg (.sq 0 6 .nil)) (.cond (.seq (.reg (.op 0 false (.op 1 false .nil))) (.leaf)) (.leaf))))) (.reg (.op 0 false (.op 1 false .nil))))))))) (.seq (.reg (.op 0 false .nil)) (.leaf)))
theorem chk219 : chkC Tryz.prog (codeOf Tryz.f219) plan219 = true := by kernel_rfl
theorem n219 {t0 t1 : Value} {w : World} {K : Value → World → Prop} {X : List PanicEntry → World → Prop} (h : N219 t0 t1 w K X) : CAL Tryz.prog 219 #[t0, t1] w K X :=
  cal (args := [t0, t1]) plan219 Tryz.func219 rfl chk219 (by kernel_rfl) (R := N219 t0 t1 w K X) (by kernel_rfl) h

end Go.Proofs.YtgnfodphfgmdlaaGreat
/- The contracts of package code's Check: lists that are too long, and what is plain. -/
namespace Go.GX
open Go

def isSlN (v : Value) (n : Nat) : Prop := ∃ a c, v = .slice a n c
theorem Sl.isSlN {α : Type} {sz : Nat} {R : Addr → α → Prop} {v : Value} {l : List α} (h : Sl sz R v l) : isSlN v l.length := by
  obtain ⟨_, a, c, rfl, _⟩ := h; exact ⟨a, c, rfl⟩
theorem isSlN.len {v : Value} {n sz : Nat} (h : isSlN v n) {K : Value → Prop} (hK : K (vInt n)) : LEN (.sl sz) v K := by
  obtain ⟨a, c, rfl⟩ := h; exact hK
theorem isSlN.cells {v : Value} {n : Nat} (h : isSlN v n) : v.cells = #[v] := by obtain ⟨a, c, rfl⟩ := h; rfl
theorem isSlN.one {v : Value} {n : Nat} (h : isSlN v n) : v.oneCell' = true := by obtain ⟨a, c, rfl⟩ := h; rfl
def lenSl : Value → Nat
  | .slice _ n _ => n
  | _ => 0
theorem isSlN.lenSl {v : Value} {n : Nat} (h : isSlN v n) : lenSl v = n := by obtain ⟨a, c, rfl⟩ := h; rfl

/-- A cell that holds a value. -/
def CellIs (w : World) (a : Addr) (u : Value) : Prop := w.cell? a = some u
theorem CellIs.ext {w w' : World} {a : Addr} {u : Value} (h : CellIs w a u) (e : Ext w w') : CellIs w' a u := e.cell h

theorem InstrAt.cells {w : World} {b o : Nat} {x : InstrS} (h : InstrAt w ⟨b, o, none⟩ x) : ∃ lv mv ev, Sl 1 (IntAt w) lv x.l ∧ Sl 1 (IntAt w) mv x.m ∧ Sl 1 (IntAt w) ev x.live ∧
    ∀ (j : Nat) u, [vInt x.op, vInt x.d, vInt x.a, vInt x.b, vInt x.c, vInt x.n, lv, mv, ev][j]? = some u → w.cell? ⟨b, o + j, none⟩ = some u := by
  obtain ⟨lv, l1, l2⟩ := h.l; obtain ⟨mv, m1, m2⟩ := h.m; obtain ⟨ev, e1, e2⟩ := h.live
  refine ⟨lv, mv, ev, l2, m2, e2, fun j u hj => ?_⟩
  match j, hj with
  | 0, hj => cases hj; exact h.op.1
  | 1, hj => cases hj; exact h.d.1
  | 2, hj => cases hj; exact h.a'.1
  | 3, hj => cases hj; exact h.b.1
  | 4, hj => cases hj; exact h.c.1
  | 5, hj => cases hj; exact h.n.1
  | 6, hj => cases hj; exact l1
  | 7, hj => cases hj; exact m1
  | 8, hj => cases hj; exact e1
theorem BlockAt.cells {w : World} {b o : Nat} {x : BlockS} (h : BlockAt w ⟨b, o, none⟩ x) : ∃ iv cv, Sl 1 (IntAt w) iv x.inn ∧ Sl 9 (InstrAt w) cv x.code ∧
    ∀ (j : Nat) u, [iv, cv][j]? = some u → w.cell? ⟨b, o + j, none⟩ = some u := by
  obtain ⟨iv, i1, i2⟩ := h.inn; obtain ⟨cv, c1, c2⟩ := h.code
  refine ⟨iv, cv, i2, c2, fun j u hj => ?_⟩
  match j, hj with
  | 0, hj => cases hj; exact i1
  | 1, hj => cases hj; exact c1
theorem FuncAt.cells {w : World} {b o : Nat} {x : FuncS} (h : FuncAt w ⟨b, o, none⟩ x) : ∃ pv bv, Sl 1 (IntAt w) pv x.params ∧ Sl 2 (BlockAt w) bv x.blocks ∧
    ∀ (j : Nat) u, [pv, vInt x.result, vInt x.slots, bv][j]? = some u → w.cell? ⟨b, o + j, none⟩ = some u := by
  obtain ⟨pv, p1, p2⟩ := h.params; obtain ⟨bv, b1, b2⟩ := h.blocks
  refine ⟨pv, bv, p2, b2, fun j u hj => ?_⟩
  match j, hj with
  | 0, hj => cases hj; exact p1
  | 1, hj => cases hj; exact h.result.1
  | 2, hj => cases hj; exact h.slots.1
  | 3, hj => cases hj; exact b1
theorem TypeAt.cells {w : World} {b o : Nat} {x : TypeS} (h : TypeAt w ⟨b, o, none⟩ x) : ∃ sv, Sl 1 (IntAt w) sv x.shapes ∧
    ∀ (j : Nat) u, [.bool x.imm, sv][j]? = some u → w.cell? ⟨b, o + j, none⟩ = some u := by
  obtain ⟨sv, s1, s2⟩ := h.shapes
  refine ⟨sv, s2, fun j u hj => ?_⟩
  match j, hj with
  | 0, hj => cases hj; exact h.imm
  | 1, hj => cases hj; exact s1
theorem ShapeAt.cells {w : World} {b o : Nat} {x : ShapeS} (h : ShapeAt w ⟨b, o, none⟩ x) : ∃ fv, Sl 1 (IntAt w) fv x.fields ∧
    ∀ (j : Nat) u, [vInt x.kind, fv, .string x.name][j]? = some u → w.cell? ⟨b, o + j, none⟩ = some u := by
  obtain ⟨fv, s1, s2⟩ := h.fields
  refine ⟨fv, s2, fun j u hj => ?_⟩
  match j, hj with
  | 0, hj => cases hj; exact h.kind.1
  | 1, hj => cases hj; exact s1
  | 2, hj => cases hj; exact h.name.1

end Go.GX
namespace Go.Proofs.YtgnfodphfgmdlaaGreat
open Go Go.GX
set_option maxRecDepth 20000

/-- What the instances of IndexFunc do, over elements of one cell. -/
def IDX (t0 t1 : Value) (w : World) (K : Value → World → Prop) (X : List PanicEntry → World → Prop) : Prop :=
  LEN (.sl 1) t0 fun t7 =>
  LOOP1 (.int .i64 0) w fun t8 w1 back =>
    BIN .int .lss t8 t7 fun t9 =>
    CND t9 (
      IA 1 t0 t8 fun t14 =>
      LD w1 t14 fun t15 =>
      CALV Tryz.prog ent t1 [t15] w1 (fun t16 w2 =>
        CND t16 (
          K t8 w2) (
          BIN .int .add t8 (.int .i64 1) fun t18 =>
          back t18 w2)) X) (
      K (.int .i64 (-1)) w1)

theorem any_take {α : Type} {p : α → Bool} {l : List α} {i : Nat} (hi : i < l.length) (h : (l.take i).any p = false) (hp : p l[i] = false) : (l.take (i + 1)).any p = false := by
  rw [List.take_succ_eq_append_getElem hi, List.any_append, h]
  simp [hp]

section
variable {w : World} {K : Value → World → Prop} {X : List PanicEntry → World → Prop}

theorem idx_any {t0 t1 : Value} {vals : List Value} (hs : Sl 1 (CellIs w) t0 vals) (p : Value → Bool)
    (hc : ∀ u ∈ vals, ∀ w' K', Ext w w' → (∀ w'', Ext w' w'' → K' (.bool (p u)) w'') → CALV Tryz.prog ent t1 [u] w' K' X)
    (hK : ∀ w' i, Ext w w' → decide (0 ≤ i) = vals.any p → K (vInt i) w') : IDX t0 t1 w K X := by
  unfold IDX
  refine LEN_sl hs ?_
  have hl := hs.len
  refine LOOP1_rel (fun n a w' => ∃ i : Nat, a = vInt i ∧ i ≤ vals.length ∧ Ext w w' ∧ (vals.take i).any p = false ∧ n = vals.length - i) ⟨0, rfl, Nat.zero_le _, Ext.refl w, by simp, rfl⟩ ?_
  rintro n a w1 back ⟨i, rfl, hi, e1, ha, rfl⟩ hback
  rw [BIN_lss, CND_bool]
  by_cases hlt : i < vals.length
  · rw [if_pos (by simpa using hlt)]
    have hx : vals[(i : Int).toNat]? = some vals[i] := List.getElem?_eq_getElem hlt
    refine IA_sl hs (by omega) hx fun b o hb => ?_
    rw [LD_some (hb.ext e1)]
    refine hc _ (List.getElem_mem hlt) w1 _ e1 fun w2 e2 => ?_
    rw [CND_bool]
    cases hp : p vals[i] with
    | true =>
      rw [if_pos rfl]
      refine hK w2 i (e1.trans e2) ?_
      have : vals.any p = true := List.any_eq_true.2 ⟨_, List.getElem_mem hlt, hp⟩
      rw [this]; simp
    | false =>
      rw [if_neg (by simp), BIN_add, wrap64 _ (by omega)]
      exact hback _ _ (vals.length - (i + 1)) (by omega) ⟨i + 1, rfl, hlt, e1.trans e2, any_take hlt ha hp, rfl⟩
  · rw [if_neg (by simpa using hlt)]
    refine hK w1 (-1) e1 ?_
    have : i = vals.length := by omega
    subst this
    rw [List.take_length] at ha
    rw [ha]; rfl

/-- A slice of slices is laid. -/
theorem sl_lists {t e : TypeId} {z : List Value} (h : bslP Tryz.prog t = some (.mk e 1 z)) {vs : List Value} (hv : ∀ v ∈ vs, ∃ n, isSlN v n) (hn : vs.length ≤ 16) (hK : ∀ w' v', Ext w w' → Sl 1 (CellIs w') v' vs → K v' w') :
    BSLC Tryz.prog t vs.length (partsFrom 0 vs) w K := by
  refine BSLC_sl (R := CellIs) h (by omega) vs vs rfl (fun v hvm => ?_) (by omega) (fun i v x h1 h2 w' b o _ hc => ?_) hK
  · obtain ⟨n, hn⟩ := hv v hvm; rw [hn.cells]; rfl
  · rw [h1] at h2; cases h2
    obtain ⟨n, hn⟩ := hv v (List.mem_of_getElem? h1)
    exact hc 0 v (by rw [hn.cells]; rfl)

theorem c106 (most : Int) {t1 : Value} {vals : List Value} (hs : Sl 1 (CellIs w) t1 vals) (hv : ∀ v ∈ vals, ∃ n, isSlN v n) (hK : ∀ w', Ext w w' → K (.bool (vals.any fun u => decide (most < lenSl u))) w') : CAL Tryz.prog 106 #[vInt most, t1] w K X := n106 <| by
  unfold N106
  refine BOX_one rfl fun w1 e1 hb _ => n173 ?_
  unfold N173
  refine n213 ?_
  show IDX _ _ _ _ _
  refine idx_any (hs.mono fun a x h => CellIs.ext h e1) (fun u => decide (most < lenSl u)) (fun u hu w' K' e' hK' => ?_) (fun w' i e' hi => ?_)
  · rw [CALV_fn, show ent 174 = true by rfl, cond_true]
    refine n174 ?_
    show LEN (.sl 2) u _
    obtain ⟨n, hn⟩ := hv u hu
    refine hn.len ?_
    refine LD_blk (hb.ext e') (v := vInt most) rfl ?_
    rw [BIN_gtr]
    have := hK' w' (Ext.refl w')
    rw [hn.lenSl] at this; exact this
  · rw [BIN_geq, hi]
    exact hK w' (e1.trans e')

theorem c107 (most : Int) {t1 : Value} {vals : List Value} (hs : Sl 1 (CellIs w) t1 vals) (hv : ∀ v ∈ vals, ∃ n, isSlN v n) (hK : ∀ w', Ext w w' → K (.bool (vals.any fun u => decide (most < lenSl u))) w') : CAL Tryz.prog 107 #[vInt most, t1] w K X := n107 <| by
  unfold N107
  refine BOX_one rfl fun w1 e1 hb _ => n175 ?_
  unfold N175
  refine n214 ?_
  show IDX _ _ _ _ _
  refine idx_any (hs.mono fun a x h => CellIs.ext h e1) (fun u => decide (most < lenSl u)) (fun u hu w' K' e' hK' => ?_) (fun w' i e' hi => ?_)
  · rw [CALV_fn, show ent 176 = true by rfl, cond_true]
    refine n176 ?_
    show LEN (.sl 3) u _
    obtain ⟨n, hn⟩ := hv u hu
    refine hn.len ?_
    refine LD_blk (hb.ext e') (v := vInt most) rfl ?_
    rw [BIN_gtr]
    have := hK' w' (Ext.refl w')
    rw [hn.lenSl] at this; exact this
  · rw [BIN_geq, hi]
    exact hK w' (e1.trans e')

theorem c108 (most : Int) {t1 : Value} {vals : List Value} (hs : Sl 1 (CellIs w) t1 vals) (hv : ∀ v ∈ vals, ∃ n, isSlN v n) (hK : ∀ w', Ext w w' → K (.bool (vals.any fun u => decide (most < lenSl u))) w') : CAL Tryz.prog 108 #[vInt most, t1] w K X := n108 <| by
  unfold N108
  refine BOX_one rfl fun w1 e1 hb _ => n177 ?_
  unfold N177
  refine n215 ?_
  show IDX _ _ _ _ _
  refine idx_any (hs.mono fun a x h => CellIs.ext h e1) (fun u => decide (most < lenSl u)) (fun u hu w' K' e' hK' => ?_) (fun w' i e' hi => ?_)
  · rw [CALV_fn, show ent 178 = true by rfl, cond_true]
    refine n178 ?_
    show LEN (.sl 1) u _
    obtain ⟨n, hn⟩ := hv u hu
    refine hn.len ?_
    refine LD_blk (hb.ext e') (v := vInt most) rfl ?_
    rw [BIN_gtr]
    have := hK' w' (Ext.refl w')
    rw [hn.lenSl] at this; exact this
  · rw [BIN_geq, hi]
    exact hK w' (e1.trans e')

theorem c109 (most : Int) {t1 : Value} {vals : List Value} (hs : Sl 1 (CellIs w) t1 vals) (hv : ∀ v ∈ vals, ∃ n, isSlN v n) (hK : ∀ w', Ext w w' → K (.bool (vals.any fun u => decide (most < lenSl u))) w') : CAL Tryz.prog 109 #[vInt most, t1] w K X := n109 <| by
  unfold N109
  refine BOX_one rfl fun w1 e1 hb _ => n179 ?_
  unfold N179
  refine n216 ?_
  show IDX _ _ _ _ _
  refine idx_any (hs.mono fun a x h => CellIs.ext h e1) (fun u => decide (most < lenSl u)) (fun u hu w' K' e' hK' => ?_) (fun w' i e' hi => ?_)
  · rw [CALV_fn, show ent 180 = true by rfl, cond_true]
    refine n180 ?_
    show LEN (.sl 4) u _
    obtain ⟨n, hn⟩ := hv u hu
    refine hn.len ?_
    refine LD_blk (hb.ext e') (v := vInt most) rfl ?_
    rw [BIN_gtr]
    have := hK' w' (Ext.refl w')
    rw [hn.lenSl] at this; exact this
  · rw [BIN_geq, hi]
    exact hK w' (e1.trans e')

theorem c111 (most : Int) {t1 : Value} {vals : List Value} (hs : Sl 1 (CellIs w) t1 vals) (hv : ∀ v ∈ vals, ∃ n, isSlN v n) (hK : ∀ w', Ext w w' → K (.bool (vals.any fun u => decide (most < lenSl u))) w') : CAL Tryz.prog 111 #[vInt most, t1] w K X := n111 <| by
  unfold N111
  refine BOX_one rfl fun w1 e1 hb _ => n183 ?_
  unfold N183
  refine n218 ?_
  show IDX _ _ _ _ _
  refine idx_any (hs.mono fun a x h => CellIs.ext h e1) (fun u => decide (most < lenSl u)) (fun u hu w' K' e' hK' => ?_) (fun w' i e' hi => ?_)
  · rw [CALV_fn, show ent 184 = true by rfl, cond_true]
    refine n184 ?_
    show LEN (.sl 1) u _
    obtain ⟨n, hn⟩ := hv u hu
    refine hn.len ?_
    refine LD_blk (hb.ext e') (v := vInt most) rfl ?_
    rw [BIN_gtr]
    have := hK' w' (Ext.refl w')
    rw [hn.lenSl] at this; exact this
  · rw [BIN_geq, hi]
    exact hK w' (e1.trans e')

theorem c112 (most : Int) {t1 : Value} {vals : List Value} (hs : Sl 1 (CellIs w) t1 vals) (hv : ∀ v ∈ vals, ∃ n, isSlN v n) (hK : ∀ w', Ext w w' → K (.bool (vals.any fun u => decide (most < lenSl u))) w') : CAL Tryz.prog 112 #[vInt most, t1] w K X := n112 <| by
  unfold N112
  refine BOX_one rfl fun w1 e1 hb _ => n185 ?_
  unfold N185
  refine n219 ?_
  show IDX _ _ _ _ _
  refine idx_any (hs.mono fun a x h => CellIs.ext h e1) (fun u => decide (most < lenSl u)) (fun u hu w' K' e' hK' => ?_) (fun w' i e' hi => ?_)
  · rw [CALV_fn, show ent 186 = true by rfl, cond_true]
    refine n186 ?_
    show LEN (.sl 2) u _
    obtain ⟨n, hn⟩ := hv u hu
    refine hn.len ?_
    refine LD_blk (hb.ext e') (v := vInt most) rfl ?_
    rw [BIN_gtr]
    have := hK' w' (Ext.refl w')
    rw [hn.lenSl] at this; exact this
  · rw [BIN_geq, hi]
    exact hK w' (e1.trans e')

theorem c110 {t0 : Value} {l : List ByteArray} (hs : Sl 1 (StrAt w) t0 l) (hK : ∀ w', Ext w w' → K (.bool (wideP l)) w') : CAL Tryz.prog 110 #[t0] w K X := n110 <| by
  unfold N110
  refine n181 ?_
  unfold N181
  refine n217 ?_
  show IDX _ _ _ _ _
  have hs2 : Sl 1 (CellIs w) t0 (l.map .string) := by
    obtain ⟨h1, a, c, rfl, h2⟩ := hs
    refine ⟨by simpa [LenOk] using h1, a, c, by simp, h2.imp (fun h => by simp [h]) fun ⟨b, o, ha, h3⟩ => ⟨b, o, ha, fun i x hx => ?_⟩⟩
    rw [List.getElem?_map] at hx
    cases hl : l[i]? with
    | none => rw [hl] at hx; cases hx
    | some s => rw [hl] at hx; cases hx; exact (h3 i s hl).1
  refine idx_any hs2 (fun u => match u with | .string s => decide (16384 < s.size) | _ => false) (fun u hu w' K' e' hK' => ?_) (fun w' i e' hi => ?_)
  · rw [CALV_fn, show ent 182 = true by rfl, cond_true]
    refine n182 ?_
    obtain ⟨s, hs, rfl⟩ := List.mem_map.1 hu
    show LEN .str _ _
    rw [LEN_str, BIN_gtr]
    have := hK' w' (Ext.refl w')
    have e : decide ((16384 : Int) < (s.size : Int)) = decide (16384 < s.size) := by congr 1; apply propext; omega
    rw [e]; exact this
  · rw [BIN_geq, hi]
    have := hK w' e'
    unfold wideP at this
    rw [List.any_map]; exact this
end
end Go.Proofs.YtgnfodphfgmdlaaGreat
/- The contracts of package code's Plain and its parts. -/
namespace Go.GX
open Go

/-- The cells of an instruction, of whose lists only the lengths are told. -/
def YC (cs : List Value) (y : InstrS) : Prop := ∃ lv mv ev, cs = [vInt y.op, vInt y.d, vInt y.a, vInt y.b, vInt y.c, vInt y.n, lv, mv, ev] ∧ isSlN lv y.l.length ∧ isSlN mv y.m.length ∧ isSlN ev y.live.length

theorem YC.one {cs : List Value} {y : InstrS} (h : YC cs y) : ∀ v ∈ cs, v.oneCell' = true := by
  obtain ⟨lv, mv, ev, rfl, h1, h2, h3⟩ := h
  intro v hv
  simp only [List.mem_cons, List.not_mem_nil, or_false] at hv
  rcases hv with rfl | rfl | rfl | rfl | rfl | rfl | rfl | rfl | rfl
  all_goals first | rfl | exact h1.one | exact h2.one | exact h3.one

theorem usesP_all (Q : List Nat → Prop) (h : ∀ l ∈ [[68, 78], [68, 65, 108], [68, 65], [68, 65, 66, 78], [68, 65, 76, 108], [68, 65, 66], [65, 66, 67], [68, 65, 66, 67, 108], [68, 65, 66, 108], [68], [65], [68, 65, 66, 67, 76, 108], [65, 76, 77, 66], [65, 76], []], Q l) (op : Int) : Q (usesP op) := by
  unfold usesP
  by_cases h0 : op = 1
  · rw [if_pos h0]; exact h _ (by simp)
  rw [if_neg h0]
  by_cases h1 : op = 2
  · rw [if_pos h1]; exact h _ (by simp)
  rw [if_neg h1]
  by_cases h2 : op = 3 ∨ op = 11
  · rw [if_pos h2]; exact h _ (by simp)
  rw [if_neg h2]
  by_cases h3 : op = 4
  · rw [if_pos h3]; exact h _ (by simp)
  rw [if_neg h3]
  by_cases h4 : op = 5
  · rw [if_pos h4]; exact h _ (by simp)
  rw [if_neg h4]
  by_cases h5 : op = 6 ∨ op = 9 ∨ op = 12 ∨ op = 14
  · rw [if_pos h5]; exact h _ (by simp)
  rw [if_neg h5]
  by_cases h6 : op = 7 ∨ op = 10 ∨ op = 19
  · rw [if_pos h6]; exact h _ (by simp)
  rw [if_neg h6]
  by_cases h7 : op = 8
  · rw [if_pos h7]; exact h _ (by simp)
  rw [if_neg h7]
  by_cases h8 : op = 13
  · rw [if_pos h8]; exact h _ (by simp)
  rw [if_neg h8]
  by_cases h9 : op = 15
  · rw [if_pos h9]; exact h _ (by simp)
  rw [if_neg h9]
  by_cases h10 : op = 16 ∨ op = 18 ∨ op = 22 ∨ op = 23
  · rw [if_pos h10]; exact h _ (by simp)
  rw [if_neg h10]
  by_cases h11 : op = 17
  · rw [if_pos h11]; exact h _ (by simp)
  rw [if_neg h11]
  by_cases h12 : op = 20
  · rw [if_pos h12]; exact h _ (by simp)
  rw [if_neg h12]
  by_cases h13 : op = 21
  · rw [if_pos h13]; exact h _ (by simp)
  rw [if_neg h13]
  exact h _ (by simp)

def usesV (op : Int) : ByteArray := strOf (usesP op)

end Go.GX
namespace Go.Proofs.YtgnfodphfgmdlaaGreat
open Go Go.GX
set_option maxRecDepth 20000
section
variable {w : World} {K : Value → World → Prop} {X : List PanicEntry → World → Prop}

/-- number -/
theorem c115 (yb c : Nat) (hK : K (if c = 68 then .pointer (some ⟨yb, 1, none⟩) else if c = 65 then .pointer (some ⟨yb, 2, none⟩) else if c = 66 then .pointer (some ⟨yb, 3, none⟩) else if c = 67 then .pointer (some ⟨yb, 4, none⟩) else .pointer none) w) :
    CAL Tryz.prog 115 #[vPtr yb, vB c] w K X := n115 <| by
  unfold N115
  rw [BIN_eql, CND_bool]
  by_cases h1 : c = 68
  · rw [if_pos h1] at hK; rw [if_pos (by simp [h1]), NC_ptr, FA_at]; exact hK
  · rw [if_neg h1] at hK; rw [if_neg (by simp; omega), BIN_eql, CND_bool]
    by_cases h2 : c = 65
    · rw [if_pos h2] at hK; rw [if_pos (by simp [h2]), NC_ptr, FA_at]; exact hK
    · rw [if_neg h2] at hK; rw [if_neg (by simp; omega), BIN_eql, CND_bool]
      by_cases h3 : c = 66
      · rw [if_pos h3] at hK; rw [if_pos (by simp [h3]), NC_ptr, FA_at]; exact hK
      · rw [if_neg h3] at hK; rw [if_neg (by simp; omega), BIN_eql, CND_bool]
        by_cases h4 : c = 67
        · rw [if_pos h4] at hK; rw [if_pos (by simp [h4]), NC_ptr, FA_at]; exact hK
        · rw [if_neg h4] at hK; rw [if_neg (by simp; omega)]; exact hK

/-- list -/
theorem c116 (yb c : Nat) (hK : K (if c = 76 then .pointer (some ⟨yb, 6, none⟩) else if c = 77 then .pointer (some ⟨yb, 7, none⟩) else .pointer (some ⟨yb, 8, none⟩)) w) : CAL Tryz.prog 116 #[vPtr yb, vB c] w K X := n116 <| by
  unfold N116
  rw [BIN_eql, CND_bool]
  by_cases h1 : c = 76
  · rw [if_pos h1] at hK; rw [if_pos (by simp [h1]), NC_ptr, FA_at]; exact hK
  · rw [if_neg h1] at hK; rw [if_neg (by simp; omega), BIN_eql, CND_bool]
    by_cases h2 : c = 77
    · rw [if_pos h2] at hK; rw [if_pos (by simp [h2]), NC_ptr, FA_at]; exact hK
    · rw [if_neg h2] at hK; rw [if_neg (by simp; omega), NC_ptr, FA_at]; exact hK

/-- Uses -/
theorem c114 (op : Int) (hK : K (.string (usesV op)) w) : CAL Tryz.prog 114 #[vInt op] w K X := n114 <| by
  unfold N114
  simp only [BIN_eql, CND_bool, JOIN_eq, decide_eq_true_eq]
  have hc : op = 1 ∨ op = 2 ∨ op = 3 ∨ op = 4 ∨ op = 5 ∨ op = 6 ∨ op = 7 ∨ op = 8 ∨ op = 9 ∨ op = 10 ∨ op = 11 ∨ op = 12 ∨ op = 13 ∨ op = 14 ∨ op = 15 ∨ op = 16 ∨ op = 17 ∨ op = 18 ∨ op = 19 ∨ op = 20 ∨ op = 21 ∨ op = 22 ∨ op = 23 ∨ (op < 1 ∨ 23 < op) := by omega
  rcases hc with rfl | rfl | rfl | rfl | rfl | rfl | rfl | rfl | rfl | rfl | rfl | rfl | rfl | rfl | rfl | rfl | rfl | rfl | rfl | rfl | rfl | rfl | rfl | hn
  all_goals first
    | exact hK
    | (have e : usesV op = ⟨#[]⟩ := by
         unfold usesV usesP
         simp only [show ¬ op = 1 by omega, show ¬ op = 2 by omega, show ¬ op = 3 by omega, show ¬ op = 4 by omega, show ¬ op = 5 by omega, show ¬ op = 6 by omega, show ¬ op = 7 by omega, show ¬ op = 8 by omega, show ¬ op = 9 by omega, show ¬ op = 10 by omega, show ¬ op = 11 by omega, show ¬ op = 12 by omega, show ¬ op = 13 by omega, show ¬ op = 14 by omega, show ¬ op = 15 by omega, show ¬ op = 16 by omega, show ¬ op = 17 by omega, show ¬ op = 18 by omega, show ¬ op = 19 by omega, show ¬ op = 20 by omega, show ¬ op = 21 by omega, show ¬ op = 22 by omega, show ¬ op = 23 by omega, if_false, or_self]
         rfl
       rw [e] at hK
       simp only [show ¬ op = 1 by omega, show ¬ op = 2 by omega, show ¬ op = 3 by omega, show ¬ op = 4 by omega, show ¬ op = 5 by omega, show ¬ op = 6 by omega, show ¬ op = 7 by omega, show ¬ op = 8 by omega, show ¬ op = 9 by omega, show ¬ op = 10 by omega, show ¬ op = 11 by omega, show ¬ op = 12 by omega, show ¬ op = 13 by omega, show ¬ op = 14 by omega, show ¬ op = 15 by omega, show ¬ op = 16 by omega, show ¬ op = 17 by omega, show ¬ op = 18 by omega, show ¬ op = 19 by omega, show ¬ op = 20 by omega, show ¬ op = 21 by omega, show ¬ op = 22 by omega, show ¬ op = 23 by omega, if_false]
       exact hK)

/-- A store of a number or a list into the copy. -/
theorem YC.set0 {cs : List Value} {y : InstrS} (h : YC cs y) (c : Nat) : YC (cs.set (if c = 78 then 5 else if c = 68 then 1 else if c = 65 then 2 else if c = 66 then 3 else if c = 67 then 4 else if c = 76 then 6 else if c = 77 then 7 else 8)
    (if c = 78 ∨ c = 68 ∨ c = 65 ∨ c = 66 ∨ c = 67 then vInt 0 else .slice none 0 0)) (clearP y c) := by
  obtain ⟨lv, mv, ev, rfl, h1, h2, h3⟩ := h
  unfold clearP
  by_cases e1 : c = 78
  · simp [e1]; exact ⟨lv, mv, ev, rfl, h1, h2, h3⟩
  by_cases e2 : c = 68
  · simp [e2]; exact ⟨lv, mv, ev, rfl, h1, h2, h3⟩
  by_cases e3 : c = 65
  · simp [e3]; exact ⟨lv, mv, ev, rfl, h1, h2, h3⟩
  by_cases e4 : c = 66
  · simp [e4]; exact ⟨lv, mv, ev, rfl, h1, h2, h3⟩
  by_cases e5 : c = 67
  · simp [e5]; exact ⟨lv, mv, ev, rfl, h1, h2, h3⟩
  by_cases e6 : c = 76
  · simp [e6]; exact ⟨_, mv, ev, rfl, ⟨none, 0, rfl⟩, h2, h3⟩
  by_cases e7 : c = 77
  · simp [e7]; exact ⟨lv, _, ev, rfl, h1, ⟨none, 0, rfl⟩, h3⟩
  simp [e1, e2, e3, e4, e5, e6, e7]; exact ⟨lv, mv, _, rfl, h1, h2, ⟨none, 0, rfl⟩⟩

theorem zero30 : zeroB Tryz.prog 30 = some [vInt 0, vInt 0, vInt 0, vInt 0, vInt 0, vInt 0, .slice none 0 0, .slice none 0 0, .slice none 0 0] := by kernel_rfl

/-- The last test of Plain: one number after the other. -/
theorem plain_and {t : Bool} {w : World} {KW : Value → World → Prop} {body : (Value → World → Prop) → Prop} {u : Bool} (hb : KW (.bool u) w → body KW) (h : KW (.bool (t && u)) w) : GRP (.bool t) true (.bool false) w body KW :=
  GRP_and_to (fun ht hk => hb hk) h

/-- Plain -/
theorem c66 {cs : List Value} {x : InstrS} (hx : YC cs x) (hK : ∀ w', Ext w w' → K (.bool (plainP x)) w') : CAL Tryz.prog 66 #[.agg cs.toArray] w K X := n66 <| by
  unfold N66
  have hone := hx.one
  have hx0 := hx
  have hlen : cs.length = 9 := by obtain ⟨lv, mv, ev, rfl, _⟩ := hx; rfl
  refine BOX_new fun w1 e1 hb1 _ => ?_
  refine LDN_at hlen (fun j v hj => by rw [hb1.cell, Nat.zero_add]; exact hj) ?_
  refine LOCAL zero30 hlen (by rw [hlen]; rfl) hone fun w2 e2 hb2 hs2 => ?_
  rw [FA_at]
  have hop : cs[0]? = some (vInt x.op) := by obtain ⟨lv, mv, ev, rfl, _⟩ := hx0; rfl
  refine LD_blk (hb1.ext e2) (v := vInt x.op) hop ?_
  refine c114 x.op ?_
  have hul : (usesP x.op).length ≤ 6 ∧ ∀ c ∈ usesP x.op, c < 256 := by
    refine usesP_all (fun l => l.length ≤ 6 ∧ ∀ c ∈ l, c < 256) ?_ x.op
    decide
  have hbo : bytesOf (usesV x.op) = usesP x.op := by
    unfold usesV; exact bytesOf_strOf _ hul.2
  have husz : (usesV x.op).size = (usesP x.op).length := by rw [← bytesOf_length, hbo]
  refine RUN_bytes (by kernel_rfl) (by kernel_rfl) (by kernel_rfl : Tryz.prog.underlying 5 = some (.int .u8)) (usesV x.op) fun w3 cap e3 hc3 hz3 => ?_
  rw [LEN_slice]
  generalize hyb : w1.heap.size = yb at *
  have hyl := hb2.lt
  refine LOOP1_rel (fun n a w' => ∃ (i : Nat) (cs' : List Value), a = vInt i ∧ i ≤ (usesP x.op).length ∧ YC cs' (((usesP x.op).take i).foldl clearP x) ∧ Blk w' yb 30 cs' ∧ Ext w w' ∧
      (∀ (j : Nat) c, (usesP x.op)[j]? = some c → w'.cell? ⟨w2.heap.size, j, none⟩ = some (vB c)) ∧ n = (usesP x.op).length - i)
    ⟨0, cs, rfl, Nat.zero_le _, by simpa using hx0, hb2.ext e3, (e1.trans e2).trans e3, fun j c hj => hc3 j c (by rw [hbo]; exact hj), rfl⟩ ?_
  rintro n a w4 back ⟨i, cs', rfl, hi, hy, hb4, e4, hc4, rfl⟩ hback
  rw [husz, BIN_lss, CND_bool]
  by_cases hlt : i < (usesP x.op).length
  · rw [if_pos (by simpa using hlt), JOIN_eq, IA_slice]
    refine ⟨by omega, ?_⟩
    rw [add_lit]
    have hg : (usesP x.op)[i]? = some (usesP x.op)[i] := List.getElem?_eq_getElem hlt
    generalize (usesP x.op)[i] = c at hg
    rw [LD_some (show w4.cell? ⟨w2.heap.size, 0 + (i : Int).toNat * 1, none⟩ = some (vB c) by rw [show 0 + (i : Int).toNat * 1 = i by omega]; exact hc4 i c hg)]
    have hlen' : cs'.length = 9 := by obtain ⟨lv, mv, ev, rfl, _⟩ := hy; rfl
    have hset := YC.set0 hy c
    have hfold : clearP (((usesP x.op).take i).foldl clearP x) c = ((usesP x.op).take (i + 1)).foldl clearP x := by
      rw [List.take_succ, hg, List.foldl_append]; rfl
    rw [hfold] at hset
    have fin : ∀ o v, cs'.set o v = cs'.set (if c = 78 then 5 else if c = 68 then 1 else if c = 65 then 2 else if c = 66 then 3 else if c = 67 then 4 else if c = 76 then 6 else if c = 77 then 7 else 8) (if c = 78 ∨ c = 68 ∨ c = 65 ∨ c = 66 ∨ c = 67 then vInt 0 else .slice none 0 0) →
        BIN .int .add (vInt i) (.int .i64 1) fun t31 => back t31 (w4.setCell ⟨yb, o, none⟩ v) := fun o v he => by
      rw [BIN_add, wrap64 _ (by omega)]
      refine hback _ _ ((usesP x.op).length - (i + 1)) (by omega) ⟨i + 1, _, rfl, hlt, by rw [← he] at hset; exact hset, hb4.set v, e4.setCell (by show w.heap.size ≤ yb; have := e1.size; omega) v, fun j u hj => ?_, rfl⟩
      have hne : w2.heap.size ≠ yb := by omega
      rw [cell_same (setCell_other (fun e => hne e.symm) v)]
      exact hc4 j u hj
    rw [BIN_eql, CND_bool]
    by_cases e78 : c = 78
    · rw [if_pos (by simp [e78]), FA_at]
      exact ST_one hb4 (by omega) rfl rfl (fin 5 _ (by simp [e78]))
    · rw [if_neg (by simp; omega)]
      refine c115 yb c ?_
      by_cases n1 : c = 68
      · rw [if_pos n1, BIN_ptrneq, CND_bool, if_pos (by rfl), NC_ptr]
        exact ST_one hb4 (by omega) rfl rfl (fin 1 _ (by simp [n1]))
      rw [if_neg n1]
      by_cases n2 : c = 65
      · rw [if_pos n2, BIN_ptrneq, CND_bool, if_pos (by rfl), NC_ptr]
        exact ST_one hb4 (by omega) rfl rfl (fin 2 _ (by simp [n2]))
      rw [if_neg n2]
      by_cases n3 : c = 66
      · rw [if_pos n3, BIN_ptrneq, CND_bool, if_pos (by rfl), NC_ptr]
        exact ST_one hb4 (by omega) rfl rfl (fin 3 _ (by simp [n3]))
      rw [if_neg n3]
      by_cases n4 : c = 67
      · rw [if_pos n4, BIN_ptrneq, CND_bool, if_pos (by rfl), NC_ptr]
        exact ST_one hb4 (by omega) rfl rfl (fin 4 _ (by simp [n4]))
      rw [if_neg n4, BIN_ptrneq, CND_bool, if_neg (by simp)]
      refine c116 yb c ?_
      by_cases n5 : c = 76
      · rw [if_pos n5, NC_ptr]
        exact ST_one hb4 (by omega) rfl rfl (fin 6 _ (by simp [n5]))
      rw [if_neg n5]
      by_cases n6 : c = 77
      · rw [if_pos n6, NC_ptr]
        exact ST_one hb4 (by omega) rfl rfl (fin 7 _ (by simp [n6]))
      rw [if_neg n6, NC_ptr]
      exact ST_one hb4 (by omega) rfl rfl (fin 8 _ (by simp [e78, n1, n2, n3, n4, n5, n6]))
  · rw [if_neg (by simpa using hlt)]
    have hil : i = (usesP x.op).length := by omega
    subst hil
    rw [List.take_length] at hy
    have hfin := hK w4 e4
    unfold plainP bareP at hfin
    generalize (usesP x.op).foldl clearP x = y at hy hfin
    obtain ⟨lv, mv, ev, rfl, h1, h2, h3⟩ := hy
    have hne : (!((usesV x.op).toList == (⟨#[]⟩ : ByteArray).toList)) = !(usesP x.op).isEmpty := by
      have h0 : (usesV x.op).toList = (usesP x.op).map UInt8.ofNat := by
        rw [ByteArray.toList_eq]
        unfold usesV strOf
        simp
      have h1 : ((⟨#[]⟩ : ByteArray).toList) = [] := by rw [ByteArray.toList_eq]
      rw [h0, h1]
      cases usesP x.op <;> rfl
    rw [BIN_strneq, hne]
    have hassoc : ∀ t : Bool, (t && (decide (y.d = 0) && (decide (y.a = 0) && (decide (y.b = 0) && (decide (y.c = 0) && (decide (y.n = 0) && (decide (y.l.length = 0) && (decide (y.m.length = 0) && decide (y.live.length = 0))))))))) =
        ((((((((t && decide (y.d = 0)) && decide (y.a = 0)) && decide (y.b = 0)) && decide (y.c = 0)) && decide (y.n = 0)) && decide ((y.l.length : Int) = 0)) && decide ((y.m.length : Int) = 0)) && decide ((y.live.length : Int) = 0)) := fun t => by
      have e1 : ∀ n : Nat, decide ((n : Int) = 0) = decide (n = 0) := fun n => by congr 1; apply propext; omega
      rw [e1, e1, e1]
      simp only [Bool.and_assoc]
    rw [hassoc] at hfin
    refine GRP_and_to (u := decide (y.d = 0)) (fun _ hk => by rw [FA_at]; refine LD_blk hb4 (v := vInt y.d) rfl ?_; rw [BIN_eql]; exact hk) ?_
    refine GRP_and_to (u := decide (y.a = 0)) (fun _ hk => by rw [FA_at]; refine LD_blk hb4 (v := vInt y.a) rfl ?_; rw [BIN_eql]; exact hk) ?_
    refine GRP_and_to (u := decide (y.b = 0)) (fun _ hk => by rw [FA_at]; refine LD_blk hb4 (v := vInt y.b) rfl ?_; rw [BIN_eql]; exact hk) ?_
    refine GRP_and_to (u := decide (y.c = 0)) (fun _ hk => by rw [FA_at]; refine LD_blk hb4 (v := vInt y.c) rfl ?_; rw [BIN_eql]; exact hk) ?_
    refine GRP_and_to (u := decide (y.n = 0)) (fun _ hk => by rw [FA_at]; refine LD_blk hb4 (v := vInt y.n) rfl ?_; rw [BIN_eql]; exact hk) ?_
    refine GRP_and_to (u := decide ((y.l.length : Int) = 0)) (fun _ hk => by rw [FA_at]; refine LD_blk hb4 (v := lv) rfl (h1.len ?_); rw [BIN_eql]; exact hk) ?_
    refine GRP_and_to (u := decide ((y.m.length : Int) = 0)) (fun _ hk => by rw [FA_at]; refine LD_blk hb4 (v := mv) rfl (h2.len ?_); rw [BIN_eql]; exact hk) ?_
    refine GRP_and_to (u := decide ((y.live.length : Int) = 0)) (fun _ hk => by rw [FA_at]; refine LD_blk hb4 (v := ev) rfl (h3.len ?_); rw [BIN_eql]; exact hk) ?_
    exact hfin

/-- what Check asks of an instruction -/
theorem c65 {cs : List Value} {x : InstrS} (hx : YC cs x) (hK : ∀ w', Ext w w' → K (.bool (!plainP x)) w') : CAL Tryz.prog 65 #[.agg cs.toArray] w K X := n65 <| by
  unfold N65
  have hlen : cs.length = 9 := by obtain ⟨lv, mv, ev, rfl, _⟩ := hx; rfl
  refine BOX_new fun w1 e1 hb1 _ => ?_
  refine LDN_at hlen (fun j v hj => by rw [hb1.cell, Nat.zero_add]; exact hj) ?_
  refine c66 hx fun w2 e2 => ?_
  rw [UN_not]
  exact hK w2 (e1.trans e2)

theorem InstrAt.yc {w : World} {b o : Nat} {x : InstrS} (h : InstrAt w ⟨b, o, none⟩ x) : ∃ cs, cs.length = 9 ∧ YC cs x ∧ ∀ (j : Nat) u, cs[j]? = some u → w.cell? ⟨b, o + j, none⟩ = some u := by
  obtain ⟨lv, mv, ev, h1, h2, h3, h4⟩ := h.cells
  exact ⟨_, rfl, ⟨lv, mv, ev, rfl, h1.isSlN, h2.isSlN, h3.isSlN⟩, h4⟩

/-- is there an instruction that is not plain? -/
theorem c64 {t0 : Value} {l : List InstrS} (hs : Sl 9 (InstrAt w) t0 l) (hK : ∀ w', Ext w w' → K (.bool (l.any fun x => !plainP x)) w') : CAL Tryz.prog 64 #[t0, .func (.func 65) #[] #[]] w K X := n64 <| by
  unfold N64
  have hl := hs.len
  have fin : ∀ w' i, Ext w w' → decide (0 ≤ i) = (l.any fun x => !plainP x) → (BIN .int .geq (vInt i) (.int .i64 0) fun t8 => K t8 w') := fun w' i e h => by
    rw [BIN_geq, h]; exact hK w' e
  refine n113 ?_
  unfold N113
  refine LEN_sl hs ?_
  refine LOOP1_rel (fun n a w' => ∃ i : Nat, a = vInt i ∧ i ≤ l.length ∧ Ext w w' ∧ ((l.take i).any fun x => !plainP x) = false ∧ n = l.length - i) ⟨0, rfl, Nat.zero_le _, Ext.refl w, by simp, rfl⟩ ?_
  rintro n a w1 back ⟨i, rfl, hi, e1, ha, rfl⟩ hback
  rw [BIN_lss, CND_bool]
  by_cases hlt : i < l.length
  · rw [if_pos (by simpa using hlt)]
    have hx : l[(i : Int).toNat]? = some l[i] := List.getElem?_eq_getElem hlt
    refine IA_sl hs (by omega) hx fun b o hb => ?_
    obtain ⟨cs, hcl, hyc, hcc⟩ := InstrAt.yc (hb.ext e1)
    refine LDN_at hcl hcc ?_
    rw [CALV_fn, show ent 65 = true by rfl, cond_true]
    refine c65 hyc fun w2 e2 => ?_
    rw [CND_bool]
    cases hp : plainP l[i] with
    | false =>
      rw [if_pos (by rfl)]
      refine fin w2 i (e1.trans e2) ?_
      have : (l.any fun x => !plainP x) = true := List.any_eq_true.2 ⟨_, List.getElem_mem hlt, by simp [hp]⟩
      rw [this]; simp
    | true =>
      rw [if_neg (by simp), BIN_add, wrap64 _ (by omega)]
      exact hback _ _ (l.length - (i + 1)) (by omega) ⟨i + 1, rfl, hlt, e1.trans e2, any_take hlt ha (by simp [hp]), rfl⟩
  · rw [if_neg (by simpa using hlt)]
    refine fin w1 (-1) e1 ?_
    have : i = l.length := by omega
    subst this
    rw [List.take_length] at ha
    rw [ha]; rfl
end
end Go.Proofs.YtgnfodphfgmdlaaGreat
/- The contract of package code's big. -/
namespace Go.GX
open Go

def mk1 (o : Option BSK) : Bool := match o with
  | some (.mk _ n _) => Nat.beq n 1
  | none => false
theorem mk1_spec {o : Option BSK} (h : mk1 o = true) : ∃ e z, o = some (.mk e 1 z) := by
  cases o with
  | none => cases h
  | some k =>
    cases k with
    | mk e n z =>
      have : n = 1 := Nat.eq_of_beq_eq_true h
      subst this; exact ⟨e, z, rfl⟩

def zlen (o : Option (List Value)) (n : Nat) : Bool := match o with
  | some z => Nat.beq z.length n
  | none => false

theorem LOCAL2 {P : Program} {t : TypeId} {n : Nat} (hz : zlen (zeroB P t) n = true) {w : World} {vs : List Value} (hn : vs.length = n) (hv : ∀ v ∈ vs, v.oneCell' = true) {K : Value → World → Prop}
    (hK : ∀ w', Ext w w' → Blk w' w.heap.size t vs → w'.heap.size = w.heap.size + 1 → K (.pointer (some ⟨w.heap.size, 0, none⟩)) w') : AL P t w fun p w1 => GX.ST n w1 p (.agg vs.toArray) fun w2 => K p w2 := by
  cases h : zeroB P t with
  | none => rw [h] at hz; cases hz
  | some z =>
    rw [h] at hz
    have : z.length = n := Nat.eq_of_beq_eq_true hz
    exact LOCAL h hn (by omega) hv hK

/-- '||' whose second operand lays something anew. -/
theorem GRP_or_w {t u : Bool} {w : World} {KW : Value → World → Prop} {body : (Value → World → Prop) → Prop} (hb : ∀ J : Value → World → Prop, (∀ w', Ext w w' → J (.bool u) w') → body J) (h : ∀ w', Ext w w' → KW (.bool (t || u)) w') :
    GRP (.bool t) false (.bool true) w body KW := by
  rw [GRP_or]
  cases t with
  | false => rw [if_neg (by simp)]; exact hb KW fun w' e => by simpa using h w' e
  | true => rw [if_pos rfl]; simpa using h w (Ext.refl w)

theorem slN_one {v : Value} {n : Nat} (h : isSlN v n) : ∀ u ∈ [v], u.oneCell' = true := fun u hu => by simp at hu; subst hu; exact h.one

end Go.GX
namespace Go.Proofs.YtgnfodphfgmdlaaGreat
open Go Go.GX
set_option maxRecDepth 20000
section
variable {w : World} {K : Value → World → Prop} {X : List PanicEntry → World → Prop}

theorem dec_nat (a b : Nat) : decide ((a : Int) < (b : Int)) = decide (a < b) := by congr 1; apply propext; omega

theorem ov106 {v : Value} {n : Nat} (h : isSlN v n) (most : Nat) (hK : ∀ w', Ext w w' → K (.bool (decide (most < n))) w') : BSLC Tryz.prog 244 1 [(0, v)] w fun t w2 => CAL Tryz.prog 106 #[vInt most, t] w2 K X := by
  obtain ⟨e, z, hb⟩ := mk1_spec (show mk1 (bslP Tryz.prog 244) = true by kernel_rfl)
  refine sl_lists (vs := [v]) hb (fun u hu => ⟨n, by simp at hu; subst hu; exact h⟩) (by simp) fun w' v' e' hs => ?_
  refine c106 most hs (fun u hu => ⟨n, by simp at hu; subst hu; exact h⟩) fun w'' e'' => ?_
  have := hK w'' (e'.trans e'')
  simp only [List.any_cons, List.any_nil, Bool.or_false, h.lenSl, dec_nat]
  exact this
theorem ov107 {v : Value} {n : Nat} (h : isSlN v n) (most : Nat) (hK : ∀ w', Ext w w' → K (.bool (decide (most < n))) w') : BSLC Tryz.prog 247 1 [(0, v)] w fun t w2 => CAL Tryz.prog 107 #[vInt most, t] w2 K X := by
  obtain ⟨e, z, hb⟩ := mk1_spec (show mk1 (bslP Tryz.prog 247) = true by kernel_rfl)
  refine sl_lists (vs := [v]) hb (fun u hu => ⟨n, by simp at hu; subst hu; exact h⟩) (by simp) fun w' v' e' hs => ?_
  refine c107 most hs (fun u hu => ⟨n, by simp at hu; subst hu; exact h⟩) fun w'' e'' => ?_
  have := hK w'' (e'.trans e'')
  simp only [List.any_cons, List.any_nil, Bool.or_false, h.lenSl, dec_nat]
  exact this
theorem ov109 {v : Value} {n : Nat} (h : isSlN v n) (most : Nat) (hK : ∀ w', Ext w w' → K (.bool (decide (most < n))) w') : BSLC Tryz.prog 253 1 [(0, v)] w fun t w2 => CAL Tryz.prog 109 #[vInt most, t] w2 K X := by
  obtain ⟨e, z, hb⟩ := mk1_spec (show mk1 (bslP Tryz.prog 253) = true by kernel_rfl)
  refine sl_lists (vs := [v]) hb (fun u hu => ⟨n, by simp at hu; subst hu; exact h⟩) (by simp) fun w' v' e' hs => ?_
  refine c109 most hs (fun u hu => ⟨n, by simp at hu; subst hu; exact h⟩) fun w'' e'' => ?_
  have := hK w'' (e'.trans e'')
  simp only [List.any_cons, List.any_nil, Bool.or_false, h.lenSl, dec_nat]
  exact this
theorem ov111 {v : Value} {n : Nat} (h : isSlN v n) (most : Nat) (hK : ∀ w', Ext w w' → K (.bool (decide (most < n))) w') : BSLC Tryz.prog 258 1 [(0, v)] w fun t w2 => CAL Tryz.prog 111 #[vInt most, t] w2 K X := by
  obtain ⟨e, z, hb⟩ := mk1_spec (show mk1 (bslP Tryz.prog 258) = true by kernel_rfl)
  refine sl_lists (vs := [v]) hb (fun u hu => ⟨n, by simp at hu; subst hu; exact h⟩) (by simp) fun w' v' e' hs => ?_
  refine c111 most hs (fun u hu => ⟨n, by simp at hu; subst hu; exact h⟩) fun w'' e'' => ?_
  have := hK w'' (e'.trans e'')
  simp only [List.any_cons, List.any_nil, Bool.or_false, h.lenSl, dec_nat]
  exact this
theorem ov112 {v : Value} {n : Nat} (h : isSlN v n) (most : Nat) (hK : ∀ w', Ext w w' → K (.bool (decide (most < n))) w') : BSLC Tryz.prog 260 1 [(0, v)] w fun t w2 => CAL Tryz.prog 112 #[vInt most, t] w2 K X := by
  obtain ⟨e, z, hb⟩ := mk1_spec (show mk1 (bslP Tryz.prog 260) = true by kernel_rfl)
  refine sl_lists (vs := [v]) hb (fun u hu => ⟨n, by simp at hu; subst hu; exact h⟩) (by simp) fun w' v' e' hs => ?_
  refine c112 most hs (fun u hu => ⟨n, by simp at hu; subst hu; exact h⟩) fun w'' e'' => ?_
  have := hK w'' (e'.trans e'')
  simp only [List.any_cons, List.any_nil, Bool.or_false, h.lenSl, dec_nat]
  exact this
theorem ow108 {v u : Value} {n m : Nat} (h : isSlN v n) (h2 : isSlN u m) (most : Nat) (hK : ∀ w', Ext w w' → K (.bool (decide (most < n) || decide (most < m))) w') : BSLC Tryz.prog 250 2 [(0, v), (1, u)] w fun t w2 => CAL Tryz.prog 108 #[vInt most, t] w2 K X := by
  obtain ⟨e, z, hb⟩ := mk1_spec (show mk1 (bslP Tryz.prog 250) = true by kernel_rfl)
  have hv : ∀ x ∈ [v, u], ∃ n, isSlN x n := fun x hx => by
    simp at hx
    rcases hx with rfl | rfl
    · exact ⟨n, h⟩
    · exact ⟨m, h2⟩
  refine sl_lists (vs := [v, u]) hb hv (by simp) fun w' v' e' hs => ?_
  refine c108 most hs hv fun w'' e'' => ?_
  have := hK w'' (e'.trans e'')
  simp only [List.any_cons, List.any_nil, Bool.or_false, h.lenSl, h2.lenSl, dec_nat]
  exact this
theorem ow111 {v u : Value} {n m : Nat} (h : isSlN v n) (h2 : isSlN u m) (most : Nat) (hK : ∀ w', Ext w w' → K (.bool (decide (most < n) || decide (most < m))) w') : BSLC Tryz.prog 258 2 [(0, v), (1, u)] w fun t w2 => CAL Tryz.prog 111 #[vInt most, t] w2 K X := by
  obtain ⟨e, z, hb⟩ := mk1_spec (show mk1 (bslP Tryz.prog 258) = true by kernel_rfl)
  have hv : ∀ x ∈ [v, u], ∃ n, isSlN x n := fun x hx => by
    simp at hx
    rcases hx with rfl | rfl
    · exact ⟨n, h⟩
    · exact ⟨m, h2⟩
  refine sl_lists (vs := [v, u]) hb hv (by simp) fun w' v' e' hs => ?_
  refine c111 most hs hv fun w'' e'' => ?_
  have := hK w'' (e'.trans e'')
  simp only [List.any_cons, List.any_nil, Bool.or_false, h.lenSl, h2.lenSl, dec_nat]
  exact this

theorem ov110 {s : ByteArray} (hs : LenOk s.size) (hK : ∀ w', Ext w w' → K (.bool (decide (16384 < s.size))) w') : BSLC Tryz.prog 24 1 [(0, .string s)] w fun t w2 => CAL Tryz.prog 110 #[t] w2 K X := by
  obtain ⟨e, z, hb⟩ := mk1_spec (show mk1 (bslP Tryz.prog 24) = true by kernel_rfl)
  refine BSLC_sl (R := StrAt) hb (by omega) [.string s] [s] rfl (fun v hv => by simp at hv; subst hv; rfl) (by simp) (fun i v x h1 h2 w' b o _ hc => ?_) fun w' v' e' hsl => ?_
  · have hi : i = 0 := by have := (List.getElem?_eq_some_iff.1 h1).1; simp at this; exact this
    subst hi
    simp at h1 h2
    subst h1; subst h2
    exact ⟨hc 0 _ rfl, hs⟩
  · refine c110 hsl fun w'' e'' => ?_
    have := hK w'' (e'.trans e'')
    simp only [wideP, List.any_cons, List.any_nil, Bool.or_false]
    exact this

/-- big -/
theorem c63 {cs : List Value} {m : ImageS} (hI : ImgV w cs m) (hK : ∀ w', Ext w w' → K (.bool (bigP m)) w') : CAL Tryz.prog 63 #[.agg cs.toArray] w K X := n63 <| by
  unfold N63
  obtain ⟨⟨tv, sv, stv, nv, fv, rfl, hT, hS, hSt, hN, hF⟩, _, _⟩ := hI
  refine BOX_new fun w1 e1 hb _ => ?_
  rw [FA_at]
  refine LD_blk hb (v := tv) rfl ?_
  refine ov106 hT.isSlN 1024 fun w3 e3 => ?_
  refine GRP_or_w (u := decide (512 < m.shapes.length)) (fun J hJ => ?_) fun w4 e4 => ?_
  · rw [FA_at]; refine LD_blk (hb.ext e3) (v := sv) rfl ?_
    exact ov107 hS.isSlN 512 fun w' e' => hJ w' e'
  have e14 := e3.trans e4
  refine GRP_or_w (u := decide (256 < m.strings.length) || decide (256 < m.names.length)) (fun J hJ => ?_) fun w7 e7 => ?_
  · rw [FA_at]; refine LD_blk (hb.ext e14) (v := stv) rfl ?_
    rw [FA_at]; refine LD_blk (hb.ext e14) (v := nv) rfl ?_
    exact ow108 hSt.isSlN hN.isSlN 256 fun w' e' => hJ w' e'
  have e17 := e14.trans e7
  refine GRP_or_w (u := decide (1024 < m.funcs.length)) (fun J hJ => ?_) fun w10 e10 => ?_
  · rw [FA_at]; refine LD_blk (hb.ext e17) (v := fv) rfl ?_
    exact ov109 hF.isSlN 1024 fun w' e' => hJ w' e'
  have e1a := e17.trans e10
  refine GRP_or_w (u := wideP m.strings) (fun J hJ => ?_) fun w13 e13 => ?_
  · rw [FA_at]; refine LD_blk (hb.ext e1a) (v := stv) rfl ?_
    exact c110 (hSt.mono fun a x h => h.ext (e1.trans e1a)) fun w' e' => hJ w' e'
  have e1b := e1a.trans e13
  refine GRP_or_w (u := wideP m.names) (fun J hJ => ?_) fun w15 e15 => ?_
  · rw [FA_at]; refine LD_blk (hb.ext e1b) (v := nv) rfl ?_
    exact c110 (hN.mono fun a x h => h.ext (e1.trans e1b)) fun w' e' => hJ w' e'
  have e1c := e1b.trans e15
  have ew := e1.trans e1c
  have hbc := hb.ext e1c
  show CND (.bool (bigHd m)) _ _
  rw [CND_bool]
  cases hhd : bigHd m with
  | true =>
    rw [if_pos rfl]
    have := hK w15 ew
    unfold bigP at this
    rw [hhd, Bool.true_or] at this; exact this
  | false =>
    have hbig : bigP m = (m.types.any bigT || (m.shapes.any bigS || bigF 20000 m.funcs)) := by unfold bigP; rw [hhd, Bool.false_or]
    rw [hbig] at hK
    rw [if_neg (by simp), FA_at]
    refine LD_blk hbc (v := tv) rfl (LEN_sl hT ?_)
    have hTl := hT.len; have hSl := hS.len; have hFl := hF.len
    refine LOOP1_rel (fun n a w' => ∃ i : Nat, a = vInt i ∧ i ≤ m.types.length ∧ Ext w15 w' ∧ (m.types.take i).any bigT = false ∧ n = m.types.length - i) ⟨0, rfl, Nat.zero_le _, Ext.refl _, by simp, rfl⟩ ?_
    rintro n a w17 back ⟨i, rfl, hi, e17', ha, rfl⟩ hback
    rw [BIN_lss, CND_bool]
    by_cases hlt : i < m.types.length
    · rw [if_pos (by simpa using hlt)]
      have hgi : m.types[(i : Int).toNat]? = some m.types[i] := List.getElem?_eq_getElem hlt
      refine IA_sl hT (by omega) hgi fun b o hx => ?_
      obtain ⟨shv, h1, h2⟩ := (hx.ext (ew.trans e17')).cells
      refine LDN_at rfl h2 ?_
      refine LOCAL2 (vs := [.bool m.types[i].imm, shv]) (by kernel_rfl) rfl (fun u hu => by simp at hu; rcases hu with rfl | rfl; rfl; exact h1.isSlN.one) fun w19 e19 hb19 _ => ?_
      rw [FA_at]
      refine LD_blk hb19 (v := shv) rfl ?_
      refine ov111 h1.isSlN 512 fun w21 e21 => ?_
      rw [CND_bool]
      have e21' := (e17'.trans e19).trans e21
      cases hp : bigT m.types[i] with
      | true =>
        rw [if_pos (by unfold bigT at hp; exact hp)]
        have := hK w21 (ew.trans e21')
        rw [show m.types.any bigT = true from List.any_eq_true.2 ⟨_, List.getElem_mem hlt, hp⟩, Bool.true_or] at this
        exact this
      | false =>
        rw [if_neg (by unfold bigT at hp; rw [hp]; simp), BIN_add, wrap64 _ (by omega)]
        exact hback _ _ (m.types.length - (i + 1)) (by omega) ⟨i + 1, rfl, hlt, e21', any_take hlt ha hp, rfl⟩
    · rw [if_neg (by simpa using hlt)]
      have hil : i = m.types.length := by omega
      subst hil
      rw [List.take_length] at ha
      rw [ha, Bool.false_or] at hK
      rw [FA_at]
      refine LD_blk (hbc.ext e17') (v := sv) rfl (LEN_sl hS ?_)
      refine LOOP1_rel (fun n a w' => ∃ i : Nat, a = vInt i ∧ i ≤ m.shapes.length ∧ Ext w15 w' ∧ (m.shapes.take i).any bigS = false ∧ n = m.shapes.length - i) ⟨0, rfl, Nat.zero_le _, e17', by simp, rfl⟩ ?_
      clear hback e17'
      rintro n a w22 back ⟨i, rfl, hi, e22, ha2, rfl⟩ hback
      rw [BIN_lss, CND_bool]
      by_cases hlt : i < m.shapes.length
      · rw [if_pos (by simpa using hlt)]
        have hgi : m.shapes[(i : Int).toNat]? = some m.shapes[i] := List.getElem?_eq_getElem hlt
        refine IA_sl hS (by omega) hgi fun b o hx => ?_
        have hxe := hx.ext (ew.trans e22)
        obtain ⟨fiv, h1, h2⟩ := hxe.cells
        refine LDN_at rfl h2 ?_
        refine LOCAL2 (vs := [vInt m.shapes[i].kind, fiv, .string m.shapes[i].name]) (by kernel_rfl) rfl (fun u hu => by simp at hu; rcases hu with rfl | rfl | rfl; rfl; exact h1.isSlN.one; rfl) fun w24 e24 hb24 _ => ?_
        rw [FA_at]
        refine LD_blk hb24 (v := fiv) rfl ?_
        refine ov111 h1.isSlN 200 fun w26 e26 => ?_
        refine GRP_or_w (u := decide (16384 < m.shapes[i].name.size)) (fun J hJ => ?_) fun w27 e27 => ?_
        · rw [FA_at]; refine LD_blk (hb24.ext e26) (v := .string m.shapes[i].name) rfl ?_
          exact ov110 hxe.name.2 fun w' e' => hJ w' e'
        have e27' := ((e22.trans e24).trans e26).trans e27
        show CND (.bool (bigS m.shapes[i])) _ _
        rw [CND_bool]
        cases hp : bigS m.shapes[i] with
        | true =>
          rw [if_pos rfl]
          have := hK w27 (ew.trans e27')
          rw [show m.shapes.any bigS = true from List.any_eq_true.2 ⟨_, List.getElem_mem hlt, hp⟩, Bool.true_or] at this
          exact this
        | false =>
          rw [if_neg (by simp), BIN_add, wrap64 _ (by omega)]
          exact hback _ _ (m.shapes.length - (i + 1)) (by omega) ⟨i + 1, rfl, hlt, e27', any_take hlt ha2 hp, rfl⟩
      · rw [if_neg (by simpa using hlt)]
        have hil : i = m.shapes.length := by omega
        subst hil
        rw [List.take_length] at ha2
        rw [ha2, Bool.false_or] at hK
        rw [FA_at]
        refine LD_blk (hbc.ext e22) (v := fv) rfl (LEN_sl hF ?_)
        refine LOOP2_rel (fun n l a w' => ∃ (left : Int) (i : Nat), l = vInt left ∧ a = vInt i ∧ i ≤ m.funcs.length ∧ Ext w15 w' ∧ 0 ≤ left ∧ left ≤ 20000 ∧ bigF 20000 m.funcs = bigF left (m.funcs.drop i) ∧ n = m.funcs.length - i)
          ⟨20000, 0, rfl, rfl, Nat.zero_le _, e22, by omega, by omega, rfl, rfl⟩ ?_
        clear hback e22
        rintro n l a w30 back ⟨left, i, rfl, rfl, hi, e30, hl0, hl1, hbf, rfl⟩ hback
        rw [hbf] at hK
        rw [BIN_lss, CND_bool]
        by_cases hlt : i < m.funcs.length
        · rw [if_pos (by simpa using hlt)]
          have hdrop : m.funcs.drop i = m.funcs[i] :: m.funcs.drop (i + 1) := List.drop_eq_getElem_cons hlt
          have hgi : m.funcs[(i : Int).toNat]? = some m.funcs[i] := List.getElem?_eq_getElem hlt
          rw [hdrop] at hK hbf
          generalize m.funcs[i] = f at hK hbf hgi
          refine IA_sl hF (by omega) hgi fun b o hx => ?_
          have hxe := hx.ext (ew.trans e30)
          obtain ⟨pv, bv, h1, h2, h3⟩ := hxe.cells
          refine LDN_at rfl h3 ?_
          refine LOCAL2 (vs := [pv, vInt f.result, vInt f.slots, bv]) (by kernel_rfl) rfl (fun u hu => by simp at hu; rcases hu with rfl | rfl | rfl | rfl; exact h1.isSlN.one; rfl; rfl; exact h2.isSlN.one) fun w32 e32 hb32 _ => ?_
          rw [FA_at]
          refine LD_blk hb32 (v := vInt f.slots) rfl ?_
          rw [BIN_gtr]
          refine GRP_or_w (u := decide (200 < f.params.length)) (fun J hJ => ?_) fun w33 e33 => ?_
          · rw [FA_at]; refine LD_blk hb32 (v := pv) rfl ?_
            exact ov111 h1.isSlN 200 fun w' e' => hJ w' e'
          refine GRP_or_w (u := decide (2000 < f.blocks.length)) (fun J hJ => ?_) fun w36 e36 => ?_
          · rw [FA_at]; refine LD_blk (hb32.ext e33) (v := bv) rfl ?_
            exact ov112 h2.isSlN 2000 fun w' e' => hJ w' e'
          have e36' := ((e30.trans e32).trans e33).trans e36
          rw [CND_bool]
          by_cases hc : 200 < f.slots ∨ 200 < f.params.length ∨ 2000 < f.blocks.length
          · rw [if_pos (by simp only [Bool.or_eq_true, decide_eq_true_eq]; omega)]
            have := hK w36 (ew.trans e36')
            unfold bigF at this
            rw [if_pos hc] at this; exact this
          · rw [if_neg (by simp only [Bool.or_eq_true, decide_eq_true_eq]; omega), FA_at]
            refine LD_blk (hb32.ext (e33.trans e36)) (v := bv) rfl (LEN_sl h2 ?_)
            have h2l := h2.len
            have hbF : bigF left (f :: m.funcs.drop (i + 1)) = match bigB left f.blocks with | none => true | some left' => bigF left' (m.funcs.drop (i + 1)) := by
              conv => lhs; unfold bigF
              rw [if_neg hc]
              cases bigB left f.blocks <;> rfl
            rw [hbF] at hK hbf
            have hnone : bigB left f.blocks = none → ∀ w', Ext w30 w' → K (.bool true) w' := fun hn w' e' => by
              have := hK w' (ew.trans (e30.trans e'))
              rw [hn] at this; exact this
            refine LOOP2_rel (fun n l a w' => ∃ (left1 : Int) (k : Nat), l = vInt left1 ∧ a = vInt k ∧ k ≤ f.blocks.length ∧ Ext w30 w' ∧ 0 ≤ left1 ∧ left1 ≤ 20000 ∧ bigB left f.blocks = bigB left1 (f.blocks.drop k) ∧ n = f.blocks.length - k)
              ⟨left, 0, rfl, rfl, Nat.zero_le _, (e32.trans e33).trans e36, hl0, hl1, rfl, rfl⟩ ?_
            rintro n l a w39 back3 ⟨left1, k, rfl, rfl, hk, e39, hk0, hk1, hbb, rfl⟩ hback3
            rw [BIN_lss, CND_bool]
            by_cases hlk : k < f.blocks.length
            · rw [if_pos (by simpa using hlk)]
              have hdk : f.blocks.drop k = f.blocks[k] :: f.blocks.drop (k + 1) := List.drop_eq_getElem_cons hlk
              have hgk : f.blocks[(k : Int).toNat]? = some f.blocks[k] := List.getElem?_eq_getElem hlk
              rw [hdk] at hbb
              generalize f.blocks[k] = bl at hbb hgk
              refine IA_sl h2 (by omega) hgk fun b o hx => ?_
              obtain ⟨iv, cv, g1, g2, g3⟩ := (hx.ext e39).cells
              refine LDN_at rfl g3 ?_
              refine LOCAL2 (vs := [iv, cv]) (by kernel_rfl) rfl (fun u hu => by simp at hu; rcases hu with rfl | rfl; exact g1.isSlN.one; exact g2.isSlN.one) fun w41 e41 hb41 _ => ?_
              rw [FA_at]
              refine LD_blk hb41 (v := cv) rfl (LEN_sl g2 ?_)
              have g2l := g2.len
              rw [BIN_sub, wrap64 _ (by omega), BIN_lss]
              refine GRP_or_w (u := decide (200 < bl.inn.length)) (fun J hJ => ?_) fun w42 e42 => ?_
              · rw [FA_at]; refine LD_blk hb41 (v := iv) rfl ?_
                exact ov111 g1.isSlN 200 fun w' e' => hJ w' e'
              have e42' := (e39.trans e41).trans e42
              rw [CND_bool]
              by_cases hc1 : left1 - bl.code.length < 0 ∨ 200 < bl.inn.length
              · rw [if_pos (by simp only [Bool.or_eq_true, decide_eq_true_eq]; exact hc1)]
                refine hnone ?_ w42 e42'
                rw [hbb]; unfold bigB
                rw [if_pos (by rcases hc1 with h | h; exact .inl h; exact .inr (.inl h))]
              · rw [if_neg (by simp only [Bool.or_eq_true, decide_eq_true_eq]; exact hc1), FA_at]
                refine LD_blk (hb41.ext e42) (v := cv) rfl (LEN_sl g2 ?_)
                refine LOOP1_rel (fun n a w' => ∃ j : Nat, a = vInt j ∧ j ≤ bl.code.length ∧ Ext w39 w' ∧ (bl.code.take j).any bigI = false ∧ n = bl.code.length - j) ⟨0, rfl, Nat.zero_le _, e41.trans e42, by simp, rfl⟩ ?_
                rintro n a w45 back4 ⟨j, rfl, hj, e45, haj, rfl⟩ hback4
                rw [BIN_lss, CND_bool]
                by_cases hlj : j < bl.code.length
                · rw [if_pos (by simpa using hlj)]
                  have hgj : bl.code[(j : Int).toNat]? = some bl.code[j] := List.getElem?_eq_getElem hlj
                  refine IA_sl g2 (by omega) hgj fun b o hx => ?_
                  obtain ⟨lv, mv, ev, i1, i2, i3, i4⟩ := (hx.ext e45).cells
                  refine LDN_at rfl i4 ?_
                  refine LOCAL2 (vs := [vInt bl.code[j].op, vInt bl.code[j].d, vInt bl.code[j].a, vInt bl.code[j].b, vInt bl.code[j].c, vInt bl.code[j].n, lv, mv, ev]) (by kernel_rfl) rfl
                    (fun u hu => by simp at hu; rcases hu with rfl | rfl | rfl | rfl | rfl | rfl | rfl | rfl | rfl <;> first | rfl | exact i1.isSlN.one | exact i2.isSlN.one | exact i3.isSlN.one) fun w47 e47 hb47 _ => ?_
                  rw [FA_at]
                  refine LD_blk hb47 (v := lv) rfl ?_
                  rw [FA_at]
                  refine LD_blk hb47 (v := mv) rfl ?_
                  refine ow111 i1.isSlN i2.isSlN 1024 fun w49 e49 => ?_
                  refine GRP_or_w (u := decide (200 < bl.code[j].live.length)) (fun J hJ => ?_) fun w50 e50 => ?_
                  · rw [FA_at]; refine LD_blk (hb47.ext e49) (v := ev) rfl ?_
                    exact ov111 i3.isSlN 200 fun w' e' => hJ w' e'
                  have e50' := ((e45.trans e47).trans e49).trans e50
                  show CND (.bool (bigI bl.code[j])) _ _
                  rw [CND_bool]
                  cases hp : bigI bl.code[j] with
                  | true =>
                    rw [if_pos rfl]
                    refine hnone ?_ w50 (e39.trans e50')
                    rw [hbb]; unfold bigB
                    rw [if_pos (.inr (.inr (List.any_eq_true.2 ⟨_, List.getElem_mem hlj, hp⟩)))]
                  | false =>
                    rw [if_neg (by simp), BIN_add, wrap64 _ (by omega)]
                    exact hback4 _ _ (bl.code.length - (j + 1)) (by omega) ⟨j + 1, rfl, hlj, e50', any_take hlj haj hp, rfl⟩
                · rw [if_neg (by simpa using hlj)]
                  have hjl : j = bl.code.length := by omega
                  subst hjl
                  rw [List.take_length] at haj
                  rw [BIN_add, wrap64 _ (by omega)]
                  refine hback3 _ _ _ (f.blocks.length - (k + 1)) (by omega) ⟨left1 - bl.code.length, k + 1, rfl, rfl, hlk, e39.trans e45, by omega, by omega, ?_, rfl⟩
                  rw [hbb]
                  conv => lhs; unfold bigB
                  rw [if_neg (by rintro (h | h | h); exact hc1 (.inl h); exact hc1 (.inr h); rw [haj] at h; cases h)]
            · rw [if_neg (by simpa using hlk)]
              have hkl : k = f.blocks.length := by omega
              subst hkl
              have hbs : bigB left f.blocks = some left1 := by rw [hbb, List.drop_length]; rfl
              rw [hbs] at hbf
              rw [BIN_add, wrap64 _ (by omega)]
              exact hback _ _ _ (m.funcs.length - (i + 1)) (by omega) ⟨left1, i + 1, rfl, rfl, hlt, e30.trans e39, hk0, hk1, hbf, rfl⟩
        · rw [if_neg (by simpa using hlt)]
          have hil : i = m.funcs.length := by omega
          subst hil
          have := hK w30 (ew.trans e30)
          rw [List.drop_length] at this
          exact this
end
end Go.Proofs.YtgnfodphfgmdlaaGreat
/- The contract of package code's Check. -/
namespace Go.GX
open Go
def oddB (b : BlockS) : Bool := b.code.any fun x => !plainP x
def oddF (f : FuncS) : Bool := f.blocks.any oddB
theorem oddIn_eq (fs : List FuncS) : oddIn fs = fs.any oddF := rfl
end Go.GX
namespace Go.Proofs.YtgnfodphfgmdlaaGreat
open Go Go.GX
set_option maxRecDepth 20000
section
variable {w : World} {K : Value → World → Prop} {X : List PanicEntry → World → Prop}

theorem ImgV.length {cs : List Value} {m : ImageS} (h : ImgV w cs m) : cs.length = 7 := by
  obtain ⟨⟨t, s, st, nm, f, rfl, _⟩, _, _⟩ := h; rfl

/-- Check -/
theorem c31 {cs : List Value} {m : ImageS} (hI : ImgV w cs m) (hK : ∀ w', Ext w w' → K (vInt (checkP m)) w') : CAL Tryz.prog 31 #[.agg cs.toArray] w K X := n31 <| by
  unfold N31
  have hlen := ImgV.length hI
  refine BOX_new fun w1 e1 hb _ => ?_
  refine LDN_at hlen (fun j v hj => by rw [hb.cell, Nat.zero_add]; exact hj) ?_
  refine c63 (hI.ext e1) fun w2 e2 => ?_
  rw [CND_bool]
  unfold checkP at hK
  cases hbg : bigP m with
  | true =>
    rw [if_pos rfl]
    rw [if_pos hbg] at hK
    exact hK w2 (e1.trans e2)
  | false =>
    rw [if_neg (by rw [hbg]; simp), oddIn_eq] at hK
    rw [if_neg (by simp), FA_at]
    have ew := e1.trans e2
    obtain ⟨⟨tv, sv, stv, nv, fv, rfl, hT, hS, hSt, hN, hF⟩, _, _⟩ := hI
    refine LD_blk (hb.ext e2) (v := fv) rfl (LEN_sl hF ?_)
    have hFl := hF.len
    refine LOOP1_rel (fun n a w' => ∃ i : Nat, a = vInt i ∧ i ≤ m.funcs.length ∧ Ext w2 w' ∧ (m.funcs.take i).any oddF = false ∧ n = m.funcs.length - i) ⟨0, rfl, Nat.zero_le _, Ext.refl _, by simp, rfl⟩ ?_
    rintro n a w3 back ⟨i, rfl, hi, e3, ha, rfl⟩ hback
    rw [BIN_lss, CND_bool]
    by_cases hlt : i < m.funcs.length
    · rw [if_pos (by simpa using hlt)]
      have hgi : m.funcs[(i : Int).toNat]? = some m.funcs[i] := List.getElem?_eq_getElem hlt
      refine IA_sl hF (by omega) hgi fun b o hx => ?_
      obtain ⟨pv, bv, h1, h2, h3⟩ := (hx.ext (ew.trans e3)).cells
      refine LDN_at rfl h3 ?_
      refine LOCAL2 (vs := [pv, vInt m.funcs[i].result, vInt m.funcs[i].slots, bv]) (by kernel_rfl) rfl (fun u hu => by simp at hu; rcases hu with rfl | rfl | rfl | rfl; exact h1.isSlN.one; rfl; rfl; exact h2.isSlN.one) fun w5 e5 hb5 _ => ?_
      rw [FA_at]
      refine LD_blk hb5 (v := bv) rfl (LEN_sl h2 ?_)
      have h2l := h2.len
      refine LOOP1_rel (fun n a w' => ∃ k : Nat, a = vInt k ∧ k ≤ m.funcs[i].blocks.length ∧ Ext w3 w' ∧ (m.funcs[i].blocks.take k).any oddB = false ∧ n = m.funcs[i].blocks.length - k) ⟨0, rfl, Nat.zero_le _, e5, by simp, rfl⟩ ?_
      rintro n a w6 back1 ⟨k, rfl, hk, e6, hak, rfl⟩ hback1
      rw [BIN_lss, CND_bool]
      by_cases hlk : k < m.funcs[i].blocks.length
      · rw [if_pos (by simpa using hlk)]
        have hgk : m.funcs[i].blocks[(k : Int).toNat]? = some m.funcs[i].blocks[k] := List.getElem?_eq_getElem hlk
        refine IA_sl h2 (by omega) hgk fun b o hx => ?_
        obtain ⟨iv, cv, g1, g2, g3⟩ := (hx.ext e6).cells
        refine LDN_at rfl g3 ?_
        refine LOCAL2 (vs := [iv, cv]) (by kernel_rfl) rfl (fun u hu => by simp at hu; rcases hu with rfl | rfl; exact g1.isSlN.one; exact g2.isSlN.one) fun w8 e8 hb8 _ => ?_
        rw [FA_at]
        refine LD_blk hb8 (v := cv) rfl ?_
        refine c64 (g2.mono fun a x h => h.ext e8) fun w9 e9 => ?_
        show CND (.bool (oddB m.funcs[i].blocks[k])) _ _
        rw [CND_bool]
        have e9' := (e6.trans e8).trans e9
        cases hp : oddB m.funcs[i].blocks[k] with
        | true =>
          rw [if_pos rfl]
          have := hK w9 (ew.trans (e3.trans e9'))
          have hf : oddF m.funcs[i] = true := List.any_eq_true.2 ⟨_, List.getElem_mem hlk, hp⟩
          rw [if_pos (List.any_eq_true.2 ⟨_, List.getElem_mem hlt, hf⟩)] at this
          exact this
        | false =>
          rw [if_neg (by simp), BIN_add, wrap64 _ (by omega)]
          exact hback1 _ _ (m.funcs[i].blocks.length - (k + 1)) (by omega) ⟨k + 1, rfl, hlk, e9', any_take hlk hak hp, rfl⟩
      · rw [if_neg (by simpa using hlk)]
        have hkl : k = m.funcs[i].blocks.length := by omega
        subst hkl
        rw [List.take_length] at hak
        rw [BIN_add, wrap64 _ (by omega)]
        exact hback _ _ (m.funcs.length - (i + 1)) (by omega) ⟨i + 1, rfl, hlt, e3.trans e6, any_take hlt ha hak, rfl⟩
    · rw [if_neg (by simpa using hlt)]
      have hil : i = m.funcs.length := by omega
      subst hil
      rw [List.take_length] at ha
      have := hK w3 (ew.trans e3)
      rw [ha, if_neg (by simp)] at this
      exact this
end
end Go.Proofs.YtgnfodphfgmdlaaGreat
/- The contract of heap.New. -/
namespace Go.GX
open Go

/-- May a heap have these layouts? -/
def layOk (l : Int × Int) : Bool := decide (1 ≤ l.1) && decide (l.1 ≤ 3) && decide (0 ≤ l.2) && decide (l.2 ≤ 65536)

/-- A heap that is new. -/
def newHp (n : Nat) (lays : List (Int × Int)) : Hp := { words := List.replicate n 0, objs := [], lays := lays, top := 0 }

theorem laysC_length : ∀ l : List (Int × Int), (laysC l).length = l.length * 2
  | [] => rfl
  | x :: l => by
    have := laysC_length l
    simp only [laysC, List.flatMap_cons, List.length_append, List.length_cons, List.length_nil] at this ⊢
    omega

theorem newHp_ok {n : Nat} {lays : List (Int × Int)} (hn : n ≤ 65536) (hl : lays.length ≤ 512) (hok : ∀ l ∈ lays, layOk l = true) : HpOk (newHp n lays) := by
  refine ⟨by simpa [newHp] using hn, fun x hx => ?_, hl, fun l hlm => ?_, rfl, Nat.zero_le _, fun x hx => (by cases hx), fun i _ => ?_, fun x hx => (by cases hx)⟩
  · have : x = 0 := (List.mem_replicate.1 hx).2
    subst this; show (0 : Nat) < _; omega
  · have := hok l hlm
    unfold layOk at this
    simp only [Bool.and_eq_true, decide_eq_true_eq] at this
    omega
  · unfold wordP newHp
    simp only [List.getElem?_replicate]
    split <;> rfl
end Go.GX
namespace Go.Proofs.YtgnfodphfgmdlaaGreat
open Go Go.GX
section
variable {w : World} {K : Value → World → Prop} {X : List PanicEntry → World → Prop}

set_option maxRecDepth 20000 in
theorem opMake {n : Nat} (hn : n ≤ 65536) (hK : ∀ w' a, Ext w w' → Blk w' a 166 ((List.replicate n 0).map vU) → w.heap.size ≤ a → a < w'.heap.size → K (made a n) w') : RUN Tryz.prog (Instr.makeSlice 130 (vInt n) (vInt n)) w K := by
  refine RUN_make make130 rfl (by omega) (by omega) ?_
  have hb := Blk.new w 166 (List.replicate n (vU 0))
  refine hK _ _ ((Ext.refl w).alloc _) ?_ (Nat.le_refl _) hb.lt
  rw [List.map_replicate]; exact hb

set_option maxRecDepth 20000 in
theorem opApp {o : Option (Nat × List Value)} {lays : List (Int × Int)} (hg : GrAt w o 121 (laysC lays)) (hl : lays.length ≤ 512)
    (hK : ∀ w' o', Ext w w' → GrAt w' o' 121 (laysC lays) → (∀ b ∈ (o'.map (·.1)).toList, w.heap.size ≤ b ∧ b < w'.heap.size) → K (laysV o' lays.length) w') :
    RUN Tryz.prog (Builtin.append_ #[119, 119] 119 #[.slice none 0 0, laysV o lays.length]) w K := by
  have hsrc : Src 2 w (laysV o lays.length) lays.length (laysC lays) := by
    refine ⟨laysC_length lays, ?_⟩
    cases o with
    | none =>
      have hz : laysC lays = [] := hg
      have := laysC_length lays
      rw [hz] at this
      have h0 : lays.length = 0 := by simp at this; omega
      exact .inl ⟨rfl, h0⟩
    | some q =>
      have hb : Blk w q.1 121 (laysC lays ++ q.2) := hg
      refine .inr ⟨⟨q.1, 0, none⟩, _, rfl, fun j v hj => ?_⟩
      rw [add_lit, hb.cell, Nat.zero_add, List.getElem?_append_left (List.getElem?_eq_some_iff.1 hj).1, hj]
  have one : ∀ v ∈ laysC lays, v.oneCell' = true := fun v hv => by
    unfold laysC at hv
    obtain ⟨p, _, hp⟩ := List.mem_flatMap.1 hv
    simp only [List.mem_cons, List.not_mem_nil, or_false] at hp
    rcases hp with rfl | rfl <;> rfl
  have happ := RUN_app (ty := 119) (xs := []) (j := []) (n := 0) (cap := 0) (base := none) elem119 (by omega) (w := w) (.inl ⟨rfl, rfl, rfl, rfl⟩) hsrc one (by omega) (by omega) (K := K) ?_
  · exact happ
  · intro w' base' j' cap' ha hc
    rcases ha with ⟨rfl, _, hxy, rfl, rfl⟩ | ⟨b', rfl, hblk, hcase⟩
    · have hz : laysC lays = [] := by simpa using hxy
      have hll := laysC_length lays
      rw [hz] at hll
      have h0 : lays.length = 0 := by simp at hll; omega
      have := hK w' none (Ext.refl _) hz (by simp)
      rw [h0] at hc ⊢
      have hc : cap' = 0 := by simp at hc; omega
      subst hc
      rw [h0] at this; exact this
    · rcases hcase with ⟨h1, _⟩ | ⟨h1, h2⟩
      · cases h1
      · have := hK w' (some (b', j')) h2 (show Blk w' b' 121 (laysC lays ++ j') by simpa using hblk) (fun b hb => by simp at hb; subst hb; exact ⟨h1, hblk.lt⟩)
        have e : cap' = lays.length + j'.length / 2 := by omega
        rw [Nat.zero_add, e]; exact this

theorem bld165 (a b d : Value) (ha : a.cells = #[a]) (hb : b.cells = #[b]) (hd : d.cells = #[d]) (K : Value → Prop) : BLD Tryz.prog 165 [(0, a), (1, b), (2, d)] K = K (.agg #[a, b, d, .int .i64 0]) := by
  have : bldP Tryz.prog 165 = some (.fields [(0, 1), (1, 1), (2, 1), (3, 1)] [.slice none 0 0, .slice none 0 0, .slice none 0 0, .int .i64 0]) := by kernel_rfl
  simp [BLD, this, buildV, fillL, ha, hb, hd, setRange, VO]

theorem opFin {w0 : World} {n : Nat} {lays : List (Int × Int)} {o' : Option (Nat × List Value)} {a b : Nat} (e : Ext w0 w) (ha : Blk w a 166 ((List.replicate n 0).map vU)) (hb : Blk w b 166 ((List.replicate (n / 64 + 1) 0).map vU)) (hg : GrAt w o' 121 (laysC lays))
    (n1 : w0.heap.size ≤ a) (n2 : w0.heap.size ≤ b) (n3 : ∀ x ∈ (o'.map (·.1)).toList, w0.heap.size ≤ x ∧ x ≠ a ∧ x ≠ b) (hab : a ≠ b)
    (hK : ∀ w' (L : Lay), Ext w0 w' → HpAt w' L (newHp n lays) → L.hpOk → (∀ x ∈ L.hpB, w0.heap.size ≤ x) → K (.tuple #[vPtr L.h, vInt 0]) w') :
    BLD Tryz.prog 165 [(0, made a n), (1, made b (n / 64 + 1)), (2, laysV o' lays.length)] fun t => BOX t 165 w fun t' w' => K (.tuple #[t', .int .i64 0]) w' := by
  rw [bld165 _ _ _ rfl rfl (by cases o' <;> rfl)]
  have hnew := Blk.new w 165 [made a n, made b (n / 64 + 1), laysV o' lays.length, vInt 0]
  have e2 : Ext w (w.alloc (.cells (Value.agg #[made a n, made b (n / 64 + 1), laysV o' lays.length, .int .i64 0]).cells 165)) := (Ext.refl w).alloc _
  refine hK _ { m := 0, h := w.heap.size, wb := a, hb := b, lb := o', fr := [], fb := none, ob := none } (e.trans e2) ⟨?_, ha.ext e2, ⟨List.replicate (n / 64 + 1) 0, hb.ext e2, ?_, ?_, ?_⟩, ?_⟩ ?_ ?_
  · have hl : (newHp n lays).words.length = n := by simp [newHp]
    rw [hl]; exact hnew
  · simp [newHp]
  · intro x hx
    rw [(List.mem_replicate.1 hx).2]; show (0 : Nat) < _; omega
  · intro x hx
    have h1 : ((List.replicate (n / 64 + 1) 0)[x / 64]?).getD 0 = 0 := by
      rw [List.getElem?_replicate]; split <;> rfl
    rw [h1]
    have : (0 : Nat) / 2 ^ (x % 64) % 2 = 0 := by rw [Nat.zero_div]
    rw [this]
    simp [newHp]
  · exact hg.same fun x hx => e2.same x (hg.lt x hx)
  · unfold Lay.hpOk Lay.hpB
    have q1 := ha.lt; have q2 := hb.lt
    simp only [List.nodup_cons, List.mem_cons, not_or]
    refine ⟨⟨by omega, by omega, fun hm => by have := hg.lt _ hm; omega⟩, ⟨hab, fun hm => (n3 _ hm).2.1 rfl⟩, fun hm => (n3 _ hm).2.2 rfl, ?_⟩
    cases o' <;> simp
  · intro x hx
    have q1 := e.size
    unfold Lay.hpB at hx
    simp only [List.mem_cons] at hx
    rcases hx with rfl | rfl | rfl | hx
    · exact q1
    · exact n1
    · exact n2
    · exact (n3 x hx).1
end
end Go.Proofs.YtgnfodphfgmdlaaGreat
