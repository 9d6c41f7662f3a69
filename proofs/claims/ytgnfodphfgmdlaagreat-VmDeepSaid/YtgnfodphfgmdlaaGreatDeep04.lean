/- VmDeep answers true at every input and leaves its arguments as they were; no condition: text 4 of 12. -/
import Derived.Test.YtgnfodphfgmdlaaGreatDeep03
set_option linter.all false
/- The plain forms of functions of the program, printed by a program of this session (gen.py) and checked by the kernel against the loaded code. -/
namespace Go.Proofs.YtgnfodphfgmdlaaGreat
open Go Go.GX
set_option maxRecDepth 100000

/-- (*bellows/vm.machine).begin -/
def N29 (t0 : Value) (w : World) (K : Value → World → Prop) (X : List PanicEntry → World → Prop) : Prop :=
  NC t0 fun t10 =>
  FA 0 t10 fun t11 =>
  LD w t11 fun t12 =>
  NC t12 fun t13 =>
  LDN 7 w t13 fun t14 =>
  CAL Tryz.prog 31 #[t14] w (fun t15 w1 =>
    BIN .int .eql t15 (.int .i64 0) fun t16 =>
    CAL Tryz.prog 56 #[t0, t16] w1 (fun _ w2 =>
      NC t0 fun t19 =>
      FA 0 t19 fun t20 =>
      LD w2 t20 fun t21 =>
      NC t21 fun t22 =>
      FA 1 t22 fun t23 =>
      LD w2 t23 fun t24 =>
      LEN (.sl 3) t24 fun t25 =>
      LOOP2 (.slice none 0 0) (.int .i64 0) w2 fun t2 t26 w3 back =>
        BIN .int .lss t26 t25 fun t27 =>
        CND t27 (
          IA 3 t24 t26 fun t28 =>
          LDN 3 w3 t28 fun t29 =>
          AL Tryz.prog 82 w3 fun t4 w4 =>
          ST 3 w4 t4 t29 fun w5 =>
          FA 0 t4 fun t30 =>
          LD w5 t30 fun t31 =>
          BLD Tryz.prog 121 [(0, t31)] fun t32 =>
          AL Tryz.prog 121 w5 fun t5 w6 =>
          ST 2 w6 t5 t32 fun w7 =>
          JOIN (fun (J : World → Prop) =>
            FA 0 t4 fun t33 =>
            LD w7 t33 fun t34 =>
            BIN .int .eql t34 (.int .i64 1) fun t35 =>
            CND t35 (
              FA 1 t4 fun t36 =>
              LD w7 t36 fun t37 =>
              LEN (.sl 1) t37 fun t38 =>
              FA 1 t5 fun t39 =>
              ST 1 w7 t39 t38 fun w9 =>
              J  w9) (
              J  w7))
           (fun  w8 =>
            LDN 2 w8 t5 fun t41 =>
            BSLC Tryz.prog 119 1 [(0, t41)] w8 fun t42 w10 =>
            RUN Tryz.prog (Builtin.append_ #[119, 119] 119 #[t2, t42]) w10 fun t43 w11 =>
            BIN .int .add t26 (.int .i64 1) fun t44 =>
            back t43 t44 w11)) (
          NC t0 fun t47 =>
          FA 1 t47 fun t48 =>
          FA 2 t48 fun t49 =>
          LD w3 t49 fun t50 =>
          CAL Tryz.prog 57 #[t50, t2] w3 (fun t52 w12 =>
            EX t52 0 fun t53 =>
            EX t52 1 fun t54 =>
            BIN .int .eql t54 (.int .i64 0) fun t57 =>
            GRP t57 true (.bool false) w12.drew (fun J_1 =>
              NC t0 fun t60 =>
              FA 0 t60 fun t61 =>
              LD w12.drew t61 fun t62 =>
              NC t62 fun t63 =>
              FA 5 t63 fun t64 =>
              LD w12.drew t64 fun t65 =>
              BIN .int .geq t65 (.int .i64 0) fun t66 =>
              J_1 t66 w12.drew)
             (fun t67 w13 =>
              GRP t67 true (.bool false) w13 (fun J_2 =>
                NC t0 fun t70 =>
                FA 0 t70 fun t71 =>
                LD w13 t71 fun t72 =>
                NC t72 fun t73 =>
                FA 5 t73 fun t74 =>
                LD w13 t74 fun t75 =>
                NC t0 fun t77 =>
                FA 0 t77 fun t78 =>
                LD w13 t78 fun t79 =>
                NC t79 fun t80 =>
                FA 4 t80 fun t81 =>
                LD w13 t81 fun t82 =>
                LEN (.sl 4) t82 fun t83 =>
                BIN .int .lss t75 t83 fun t84 =>
                J_2 t84 w13)
               (fun t85 w14 =>
                GRP t85 true (.bool false) w14 (fun J_3 =>
                  NC t0 fun t88 =>
                  FA 0 t88 fun t89 =>
                  LD w14 t89 fun t90 =>
                  NC t90 fun t91 =>
                  FA 4 t91 fun t92 =>
                  LD w14 t92 fun t93 =>
                  NC t0 fun t95 =>
                  FA 0 t95 fun t96 =>
                  LD w14 t96 fun t97 =>
                  NC t97 fun t98 =>
                  FA 5 t98 fun t99 =>
                  LD w14 t99 fun t100 =>
                  IA 4 t93 t100 fun t101 =>
                  FA 0 t101 fun t102 =>
                  LD w14 t102 fun t103 =>
                  LEN (.sl 1) t103 fun t104 =>
                  BIN .int .eql t104 (.int .i64 0) fun t105 =>
                  J_3 t105 w14)
                 (fun t106 w15 =>
                  CAL Tryz.prog 56 #[t0, t106] w15 (fun _ w16 =>
                    NC t0 fun t110 =>
                    FA 6 t110 fun t111 =>
                    ST 1 w16 t111 t53 fun w17 =>
                    NC t0 fun t114 =>
                    FA 0 t114 fun t115 =>
                    LD w17 t115 fun t116 =>
                    NC t116 fun t117 =>
                    FA 5 t117 fun t118 =>
                    LD w17 t118 fun t119 =>
                    CAL Tryz.prog 58 #[t0, t119, (.slice none 0 0)] w17 (fun _ w18 =>
                      K (.tuple #[]) w18) X) X)))) X)) X) X
def plan29 : Plan := .seq (.reg (.sq 0 10 .nil)) (.seq (.reg (.op 0 false .nil)) (.seq (.seq (.reg (.sq 0 9 .nil)) (.block (.loop [2, 26] [0, 24, 25] (.seq (.reg (.op 0 false .nil)) (.seq (.cond (.leaf) (.leaf)) (.seq (.block (.seq (.reg (.sq 0 4 .nil)) (.seq (.reg (.sq 0 5 .nil)) (.jseq [] [0, 2, 5, 24, 25, 26] (.seq (.reg (.sq 0 3 .nil)) (.cond (.reg (.sq 0 5 .nil)) (.leaf))) (.reg (.sq 0 5 .nil)))))) (.reg (.op 0 false (.op 1 false .nil))))))))) (.seq (.reg (.sq 0 12 .nil)) (.seq (.reg (.sq 0 4 (.grp 3 true (.sq 4 8 .nil) 12 (.op 13 false (.grp 13 true (.sq 14 16 .nil) 30 (.op 31 false (.grp 31 true (.sq 32 19 .nil) 51 (.op 52 false .nil)))))))) (.seq (.reg (.sq 0 5 .nil)) (.reg (.sq 0 9 .nil)))))))
theorem chk29 : chkC Tryz.prog (codeOf Tryz.f29) plan29 = true := by kernel_rfl
theorem n29 {t0 : Value} {w : World} {K : Value → World → Prop} {X : List PanicEntry → World → Prop} (h : N29 t0 w K X) : CAL Tryz.prog 29 #[t0] w K X :=
  cal (args := [t0]) plan29 Tryz.func29 rfl chk29 (by kernel_rfl) (R := N29 t0 w K X) (by kernel_rfl) h

/-- (*bellows/vm.machine).run -/
def N30 (t0 : Value) (w : World) (_K : Value → World → Prop) (X : List PanicEntry → World → Prop) : Prop :=
  LOOP0  w fun  w1 back =>
    JOIN (fun (J : World → Prop) =>
      CAL Tryz.prog 59 #[t0] w1 (fun t5 w3 =>
        NC t5 fun t8 =>
        FA 0 t8 fun t9 =>
        FA 1 t9 fun t10 =>
        LD w3.drew t10 fun t11 =>
        BIN .int .geq t11 (.int .i64 0) fun t12 =>
        GRP t12 true (.bool false) w3.drew (fun J_1 =>
          NC t5 fun t15 =>
          FA 0 t15 fun t16 =>
          FA 1 t16 fun t17 =>
          LD w3.drew t17 fun t18 =>
          NC t5 fun t20 =>
          FA 0 t20 fun t21 =>
          FA 0 t21 fun t22 =>
          LD w3.drew t22 fun t23 =>
          NC t23 fun t24 =>
          FA 3 t24 fun t25 =>
          LD w3.drew t25 fun t26 =>
          LEN (.sl 2) t26 fun t27 =>
          BIN .int .lss t18 t27 fun t28 =>
          J_1 t28 w3.drew)
         (fun t29 w4 =>
          GRP t29 true (.bool false) w4 (fun J_2 =>
            NC t5 fun t32 =>
            FA 0 t32 fun t33 =>
            FA 2 t33 fun t34 =>
            LD w4 t34 fun t35 =>
            NC t5 fun t37 =>
            FA 0 t37 fun t38 =>
            FA 0 t38 fun t39 =>
            LD w4 t39 fun t40 =>
            NC t40 fun t41 =>
            FA 3 t41 fun t42 =>
            LD w4 t42 fun t43 =>
            NC t5 fun t45 =>
            FA 0 t45 fun t46 =>
            FA 1 t46 fun t47 =>
            LD w4 t47 fun t48 =>
            IA 2 t43 t48 fun t49 =>
            FA 1 t49 fun t50 =>
            LD w4 t50 fun t51 =>
            LEN (.sl 9) t51 fun t52 =>
            BIN .int .lss t35 t52 fun t53 =>
            J_2 t53 w4)
           (fun t54 w5 =>
            CAL Tryz.prog 56 #[t0, t54] w5 (fun _ w6 =>
              JOIN (fun (J_3 : World → Prop) =>
                NC t0 fun t57 =>
                FA 11 t57 fun t58 =>
                FA 3 t58 fun t59 =>
                LD w6.drew t59 fun t60 =>
                NC t0 fun t62 =>
                FA 1 t62 fun t63 =>
                FA 1 t63 fun t64 =>
                LD w6.drew t64 fun t65 =>
                BIN .int .eql t60 t65 fun t66 =>
                CND t66 (
                  CAL Tryz.prog 60 #[t0, (.int .i64 3)] w6.drew (fun _ w8 =>
                    J_3  w8) X) (
                  J_3  w6.drew))
               (fun  w7 =>
                NC t0 fun t70 =>
                FA 11 t70 fun t71 =>
                FA 3 t71 fun t72 =>
                LD w7 t72 fun t73 =>
                BIN .int .add t73 (.int .i64 1) fun t74 =>
                NC t0 fun t75 =>
                FA 11 t75 fun t76 =>
                FA 3 t76 fun t77 =>
                ST 1 w7 t77 t74 fun w9 =>
                NC t5 fun t79 =>
                FA 0 t79 fun t80 =>
                FA 0 t80 fun t81 =>
                LD w9.drew t81 fun t82 =>
                NC t82 fun t83 =>
                FA 3 t83 fun t84 =>
                LD w9.drew t84 fun t85 =>
                NC t5 fun t87 =>
                FA 0 t87 fun t88 =>
                FA 1 t88 fun t89 =>
                LD w9.drew t89 fun t90 =>
                IA 2 t85 t90 fun t91 =>
                FA 1 t91 fun t92 =>
                LD w9.drew t92 fun t93 =>
                NC t5 fun t95 =>
                FA 0 t95 fun t96 =>
                FA 2 t96 fun t97 =>
                LD w9.drew t97 fun t98 =>
                IA 9 t93 t98 fun t99 =>
                NC t5 fun t101 =>
                FA 0 t101 fun t102 =>
                FA 2 t102 fun t103 =>
                LD w9.drew t103 fun t104 =>
                BIN .int .add t104 (.int .i64 1) fun t105 =>
                NC t5 fun t106 =>
                FA 0 t106 fun t107 =>
                FA 2 t107 fun t108 =>
                ST 1 w9.drew t108 t105 fun w10 =>
                NC t99 fun t110 =>
                FA 0 t110 fun t111 =>
                LD w10 t111 fun t112 =>
                BIN .int .geq t112 (.int .i64 18) fun t113 =>
                CND t113 (
                  CAL Tryz.prog 61 #[t0, t99] w10 (fun _ w11 =>
                    J  w11) X) (
                  CAL Tryz.prog 62 #[t0, t99] w10 (fun _ w12 =>
                    J  w12) X))) X))) X)
     (fun  w2 =>
      back  w2)
def plan30 : Plan := .scope (.seq (.leaf) (.block (.loop [] [0] (.jblock [] [0] (.seq (.reg (.sq 0 3 .nil)) (.seq (.reg (.sq 0 8 (.grp 7 true (.sq 8 15 .nil) 23 (.op 24 false (.grp 24 true (.sq 25 23 .nil) 48 (.op 49 false .nil)))))) (.jseq [] [0, 2] (.seq (.reg (.sq 0 11 .nil)) (.cond (.reg (.op 0 false (.op 1 false .nil))) (.leaf))) (.seq (.reg (.sq 0 10 .nil)) (.seq (.reg (.sq 0 23 .nil)) (.seq (.reg (.sq 0 10 .nil)) (.seq (.seq (.reg (.sq 0 5 .nil)) (.cond (.seq (.reg (.sq 0 3 .nil)) (.leaf)) (.leaf))) (.reg (.sq 0 3 .nil)))))))))))))
theorem chk30 : chkC Tryz.prog (codeOf Tryz.f30) plan30 = true := by kernel_rfl
theorem n30 {t0 : Value} {w : World} {K : Value → World → Prop} {X : List PanicEntry → World → Prop} (h : N30 t0 w K X) : CAL Tryz.prog 30 #[t0] w K X :=
  cal (args := [t0]) plan30 Tryz.func30 rfl chk30 (by kernel_rfl) (R := N30 t0 w K X) (by kernel_rfl) h

/-- (*bellows/vm.machine).must -/
def N56 (t0 t1 : Value) (w : World) (K : Value → World → Prop) (X : List PanicEntry → World → Prop) : Prop :=
  UN .not t1 fun t5 =>
  CND t5 (
    CAL Tryz.prog 60 #[t0, (.int .i64 6)] w (fun _ w1 =>
      K (.tuple #[]) w1) X) (
    K (.tuple #[]) w)
def plan56 : Plan := .seq (.reg (.op 0 false (.op 1 false .nil))) (.cond (.reg (.op 0 false (.op 1 false .nil))) (.leaf))
theorem chk56 : chkC Tryz.prog (codeOf Tryz.f56) plan56 = true := by kernel_rfl
theorem n56 {t0 t1 : Value} {w : World} {K : Value → World → Prop} {X : List PanicEntry → World → Prop} (h : N56 t0 t1 w K X) : CAL Tryz.prog 56 #[t0, t1] w K X :=
  cal (args := [t0, t1]) plan56 Tryz.func56 rfl chk56 (by kernel_rfl) (R := N56 t0 t1 w K X) (by kernel_rfl) h

/-- (*bellows/vm.machine).call -/
def N58 (t0 t1 t2 : Value) (w : World) (K : Value → World → Prop) (X : List PanicEntry → World → Prop) : Prop :=
  BIN .int .geq t1 (.int .i64 0) fun t11 =>
  GRP t11 true (.bool false) w (fun J =>
    NC t0 fun t15 =>
    FA 0 t15 fun t16 =>
    LD w t16 fun t17 =>
    NC t17 fun t18 =>
    FA 4 t18 fun t19 =>
    LD w t19 fun t20 =>
    LEN (.sl 4) t20 fun t21 =>
    BIN .int .lss t1 t21 fun t22 =>
    J t22 w)
   (fun t23 w1 =>
    CAL Tryz.prog 56 #[t0, t23] w1 (fun _ w2 =>
      NC t0 fun t26 =>
      FA 0 t26 fun t27 =>
      LD w2 t27 fun t28 =>
      NC t28 fun t29 =>
      FA 4 t29 fun t30 =>
      LD w2 t30 fun t31 =>
      IA 4 t31 t1 fun t33 =>
      NC t33 fun t36 =>
      FA 2 t36 fun t37 =>
      LD w2 t37 fun t38 =>
      LEN (.sl 1) t2 fun t40 =>
      BIN .int .geq t38 t40 fun t41 =>
      GRP t41 true (.bool false) w2 (fun J_1 =>
        LEN (.sl 1) t2 fun t44 =>
        NC t33 fun t46 =>
        FA 0 t46 fun t47 =>
        LD w2 t47 fun t48 =>
        LEN (.sl 1) t48 fun t49 =>
        BIN .int .eql t44 t49 fun t50 =>
        J_1 t50 w2)
       (fun t51 w3 =>
        GRP t51 true (.bool false) w3 (fun J_2 =>
          NC t33 fun t54 =>
          FA 3 t54 fun t55 =>
          LD w3 t55 fun t56 =>
          LEN (.sl 2) t56 fun t57 =>
          BIN .int .gtr t57 (.int .i64 0) fun t58 =>
          J_2 t58 w3)
         (fun t59 w4 =>
          CAL Tryz.prog 56 #[t0, t59] w4 (fun _ w5 =>
            JOIN (fun (J_3 : World → Prop) =>
              NC t0 fun t62 =>
              FA 8 t62 fun t63 =>
              LD w5.drew t63 fun t64 =>
              NC t33 fun t66 =>
              FA 2 t66 fun t67 =>
              LD w5.drew t67 fun t68 =>
              BIN .int .add t64 t68 fun t69 =>
              BIN .int .add t69 (.int .i64 2) fun t70 =>
              NC t0 fun t72 =>
              FA 1 t72 fun t73 =>
              FA 3 t73 fun t74 =>
              LD w5.drew t74 fun t75 =>
              BIN .int .gtr t70 t75 fun t76 =>
              CND t76 (
                CAL Tryz.prog 60 #[t0, (.int .i64 5)] w5.drew (fun _ w7 =>
                  J_3  w7) X) (
                J_3  w5.drew))
             (fun  w6 =>
              NC t0 fun t80 =>
              FA 8 t80 fun t81 =>
              LD w6.drew t81 fun t82 =>
              NC t33 fun t84 =>
              FA 2 t84 fun t85 =>
              LD w6.drew t85 fun t86 =>
              BIN .int .add t86 (.int .i64 2) fun t87 =>
              BIN .int .add t82 t87 fun t88 =>
              NC t0 fun t89 =>
              FA 8 t89 fun t90 =>
              ST 1 w6.drew t90 t88 fun w8 =>
              BLD Tryz.prog 129 [(0, t33)] fun t92 =>
              NC t33 fun t94 =>
              FA 2 t94 fun t95 =>
              LD w8 t95 fun t96 =>
              RUN Tryz.prog (Instr.makeSlice 130 t96 t96) w8 fun t97 w9 =>
              BLD Tryz.prog 132 [(0, t92), (1, t97)] fun t98 =>
              BOX t98 132 w9 fun t99 w10 =>
              NC t99 fun t101 =>
              FA 3 t101 fun t102 =>
              LD w10 t102 fun t103 =>
              RUN Tryz.prog (Builtin.copy_ #[130, 130] 3 #[t103, t2]) w10 fun _ w11 =>
              LEN (.sl 1) t2 fun t107 =>
              LOOP1 t107 w11 fun t8 w12 back =>
                NC t99 fun t110 =>
                FA 3 t110 fun t111 =>
                LD w12 t111 fun t112 =>
                LEN (.sl 1) t112 fun t113 =>
                BIN .int .lss t8 t113 fun t114 =>
                CND t114 (
                  NC t99 fun t118 =>
                  FA 3 t118 fun t119 =>
                  LD w12.drew t119 fun t120 =>
                  CAL Tryz.prog 89 #[(.int .i64 0)] w12.drew (fun t122 w13 =>
                    (Keeps w12.drew w13 ∧ (
                    IA 1 t120 t8 fun t123 =>
                    ST 1 w13 t123 t122 fun w14 =>
                    BIN .int .add t8 (.int .i64 1) fun t116 =>
                    back t116 w14))) X) (
                  NC t0 fun t126 =>
                  FA 7 t126 fun t127 =>
                  LD w12 t127 fun t128 =>
                  BSLC Tryz.prog 76 1 [(0, t99)] w12 fun t130 w15 =>
                  RUN Tryz.prog (Builtin.append_ #[76, 76] 76 #[t128, t130]) w15 fun t131 w16 =>
                  NC t0 fun t132 =>
                  FA 7 t132 fun t133 =>
                  ST 1 w16 t133 t131 fun w17 =>
                  K (.tuple #[]) w17))) X))) X)
def plan58 : Plan := .seq (.reg (.sq 0 4 (.grp 3 true (.sq 4 10 .nil) 14 (.op 15 false .nil)))) (.seq (.reg (.sq 0 10 .nil)) (.seq (.reg (.sq 0 9 (.grp 8 true (.sq 9 8 .nil) 17 (.op 18 false (.grp 18 true (.sq 19 6 .nil) 25 (.op 26 false .nil)))))) (.jseq [] [0, 2, 6] (.seq (.reg (.sq 0 16 .nil)) (.cond (.reg (.op 0 false (.op 1 false .nil))) (.leaf))) (.seq (.reg (.sq 0 13 .nil)) (.seq (.reg (.sq 0 10 .nil)) (.seq (.reg (.sq 0 6 .nil)) (.seq (.seq (.reg (.sq 0 3 .nil)) (.block (.loop [8] [0, 7] (.seq (.seq (.reg (.sq 0 7 .nil)) (.cond (.leaf) (.leaf))) (.seq (.block (.reg (.sq 0 5 (.op 5 true (.op 6 false (.op 7 false .nil)))))) (.reg (.sq 0 3 .nil))))))) (.reg (.sq 0 11 .nil)))))))))
theorem chk58 : chkC Tryz.prog (codeOf Tryz.f58) plan58 = true := by kernel_rfl
theorem n58 {t0 t1 t2 : Value} {w : World} {K : Value → World → Prop} {X : List PanicEntry → World → Prop} (h : N58 t0 t1 t2 w K X) : CAL Tryz.prog 58 #[t0, t1, t2] w K X :=
  cal (args := [t0, t1, t2]) plan58 Tryz.func58 rfl chk58 (by kernel_rfl) (R := N58 t0 t1 t2 w K X) (by kernel_rfl) h

/-- (*bellows/vm.machine).top -/
def N59 (t0 : Value) (w : World) (K : Value → World → Prop) (_X : List PanicEntry → World → Prop) : Prop :=
  NC t0 fun t4 =>
  FA 7 t4 fun t5 =>
  LD w.drew t5 fun t6 =>
  NC t0 fun t8 =>
  FA 7 t8 fun t9 =>
  LD w.drew t9 fun t10 =>
  LEN (.sl 1) t10 fun t11 =>
  BIN .int .sub t11 (.int .i64 1) fun t12 =>
  IA 1 t6 t12 fun t13 =>
  LD w.drew t13 fun t14 =>
  K t14 w.drew
def plan59 : Plan := .seq (.reg (.op 0 false .nil)) (.seq (.reg (.sq 0 13 .nil)) (.leaf))
theorem chk59 : chkC Tryz.prog (codeOf Tryz.f59) plan59 = true := by kernel_rfl
theorem n59 {t0 : Value} {w : World} {K : Value → World → Prop} {X : List PanicEntry → World → Prop} (h : N59 t0 w K X) : CAL Tryz.prog 59 #[t0] w K X :=
  cal (args := [t0]) plan59 Tryz.func59 rfl chk59 (by kernel_rfl) (R := N59 t0 w K X) (by kernel_rfl) h

/-- (*bellows/vm.machine).end -/
def N60 (_t0 t1 : Value) (w : World) (_K : Value → World → Prop) (X : List PanicEntry → World → Prop) : Prop :=
  BLD Tryz.prog 80 [(0, t1)] fun t5 =>
  PAN (.iface 80 t5) w X
def plan60 : Plan := .reg (.sq 0 4 .nil)
theorem chk60 : chkC Tryz.prog (codeOf Tryz.f60) plan60 = true := by kernel_rfl
theorem n60 {t0 t1 : Value} {w : World} {K : Value → World → Prop} {X : List PanicEntry → World → Prop} (h : N60 t0 t1 w K X) : CAL Tryz.prog 60 #[t0, t1] w K X :=
  cal (args := [t0, t1]) plan60 Tryz.func60 rfl chk60 (by kernel_rfl) (R := N60 t0 t1 w K X) (by kernel_rfl) h

/-- (*bellows/vm.machine).last -/
def N61 (t0 t1 : Value) (w : World) (K : Value → World → Prop) (X : List PanicEntry → World → Prop) : Prop :=
  NC t1 fun t7 =>
  FA 0 t7 fun t8 =>
  LD w t8 fun t9 =>
  JOIN (fun (J : World → Prop) =>
    BIN .int .eql t9 (.int .i64 18) fun t13 =>
    CND t13 (
      NC t1 fun t16 =>
      FA 2 t16 fun t17 =>
      LD w t17 fun t18 =>
      CAL Tryz.prog 90 #[t0, t18] w (fun _ w2 =>
        J  w2) X) (
      BIN .int .eql t9 (.int .i64 19) fun t21 =>
      CND t21 (
        NC t1 fun t24 =>
        FA 2 t24 fun t25 =>
        LD w t25 fun t26 =>
        CAL Tryz.prog 91 #[t0, t26] w (fun t27 w3 =>
          BIN .int .neq t27 (.int .i64 0) fun t28 =>
          CND t28 (
            NC t1 fun t31 =>
            FA 3 t31 fun t32 =>
            LD w3 t32 fun t33 =>
            CAL Tryz.prog 90 #[t0, t33] w3 (fun _ w4 =>
              J  w4) X) (
            NC t1 fun t37 =>
            FA 4 t37 fun t38 =>
            LD w3 t38 fun t39 =>
            CAL Tryz.prog 90 #[t0, t39] w3 (fun _ w5 =>
              J  w5) X)) X) (
        BIN .int .eql t9 (.int .i64 20) fun t42 =>
        CND t42 (
          CAL Tryz.prog 92 #[t0, t1] w (fun _ w6 =>
            J  w6) X) (
          BIN .int .eql t9 (.int .i64 21) fun t47 =>
          CND t47 (
            NC t1 fun t50 =>
            FA 6 t50 fun t51 =>
            LD w t51 fun t52 =>
            CAL Tryz.prog 93 #[t0, t52] w (fun t53 w7 =>
              CAL Tryz.prog 94 #[t0] w7 (fun _ w8 =>
                NC t1 fun t58 =>
                FA 2 t58 fun t59 =>
                LD w8 t59 fun t60 =>
                CAL Tryz.prog 58 #[t0, t60, t53] w8 (fun _ w9 =>
                  J  w9) X) X) X) (
            BIN .int .eql t9 (.int .i64 22) fun t64 =>
            CND t64 (
              NC t1 fun t67 =>
              FA 2 t67 fun t68 =>
              LD w t68 fun t69 =>
              CAL Tryz.prog 95 #[t0, t69] w (fun t70 w10 =>
                NC t70 fun t71 =>
                LD w10 t71 fun t72 =>
                CAL Tryz.prog 94 #[t0] w10 (fun _ w11 =>
                  JOIN (fun (J_1 : World → Prop) =>
                    NC t0 fun t76 =>
                    FA 7 t76 fun t77 =>
                    LD w11 t77 fun t78 =>
                    LEN (.sl 1) t78 fun t79 =>
                    BIN .int .eql t79 (.int .i64 0) fun t80 =>
                    CND t80 (
                      CAL Tryz.prog 60 #[t0, (.int .i64 1)] w11 (fun _ w13 =>
                        J_1  w13) X) (
                      J_1  w11))
                   (fun  w12 =>
                    CAL Tryz.prog 59 #[t0] w12 (fun t85 w14 =>
                      CAL Tryz.prog 97 #[t85] w14 (fun t86 w15 =>
                        NC t86 fun t87 =>
                        FA 1 t87 fun t88 =>
                        LD w15 t88 fun t89 =>
                        CAL Tryz.prog 96 #[t0, t89, t72] w15 (fun _ w16 =>
                          J  w16) X) X) X)) X) X) (
              BIN .int .eql t9 (.int .i64 23) fun t93 =>
              CND t93 (
                NC t1 fun t97 =>
                FA 2 t97 fun t98 =>
                LD w t98 fun t99 =>
                CAL Tryz.prog 95 #[t0, t99] w (fun t100 w17 =>
                  NC t100 fun t101 =>
                  LD w17 t101 fun t102 =>
                  CAL Tryz.prog 98 #[t0, t102] w17 (fun _ w18 =>
                    J  w18) X) X) (
                CAL Tryz.prog 60 #[t0, (.int .i64 6)] w (fun _ w19 =>
                  J  w19) X)))))))
   (fun  w1 =>
    K (.tuple #[]) w1)
def plan61 : Plan := .seq (.reg (.sq 0 4 .nil)) (.jblock [] [] (.seq (.reg (.op 0 false (.op 1 false .nil))) (.cond (.reg (.sq 0 6 .nil)) (.seq (.reg (.op 0 false (.op 1 false .nil))) (.cond (.seq (.reg (.sq 0 7 .nil)) (.cond (.reg (.sq 0 6 .nil)) (.reg (.sq 0 6 .nil)))) (.seq (.reg (.op 0 false (.op 1 false .nil))) (.cond (.reg (.sq 0 3 .nil)) (.seq (.reg (.op 0 false (.op 1 false .nil))) (.cond (.seq (.reg (.sq 0 7 .nil)) (.seq (.reg (.op 0 false (.op 1 false .nil))) (.reg (.sq 0 7 .nil)))) (.seq (.reg (.op 0 false (.op 1 false .nil))) (.cond (.seq (.reg (.sq 0 9 .nil)) (.seq (.reg (.op 0 false (.op 1 false .nil))) (.jseq [] [0, 5] (.seq (.reg (.sq 0 6 .nil)) (.cond (.reg (.op 0 false (.op 1 false .nil))) (.leaf))) (.reg (.sq 0 9 .nil))))) (.seq (.reg (.op 0 false (.op 1 false .nil))) (.cond (.reg (.sq 0 10 .nil)) (.reg (.op 0 false (.op 1 false .nil))))))))))))))))
theorem chk61 : chkC Tryz.prog (codeOf Tryz.f61) plan61 = true := by kernel_rfl
theorem n61 {t0 t1 : Value} {w : World} {K : Value → World → Prop} {X : List PanicEntry → World → Prop} (h : N61 t0 t1 w K X) : CAL Tryz.prog 61 #[t0, t1] w K X :=
  cal (args := [t0, t1]) plan61 Tryz.func61 rfl chk61 (by kernel_rfl) (R := N61 t0 t1 w K X) (by kernel_rfl) h

/-- (*bellows/vm.machine).instr -/
def N62 (t0 t1 : Value) (w : World) (K : Value → World → Prop) (X : List PanicEntry → World → Prop) : Prop :=
  NC t1 fun t9 =>
  FA 0 t9 fun t10 =>
  LD w t10 fun t11 =>
  JOIN (fun (J : World → Prop) =>
    BIN .int .eql t11 (.int .i64 1) fun t16 =>
    CND t16 (
      NC t1 fun t19 =>
      FA 1 t19 fun t20 =>
      LD w.drew t20 fun t21 =>
      NC t1 fun t23 =>
      FA 5 t23 fun t24 =>
      LD w.drew t24 fun t25 =>
      CAL Tryz.prog 99 #[t0, t21, t25] w.drew (fun _ w2 =>
        J  w2) X) (
      BIN .int .eql t11 (.int .i64 3) fun t28 =>
      CND t28 (
        NC t1 fun t31 =>
        FA 1 t31 fun t32 =>
        LD w.drew t32 fun t33 =>
        NC t1 fun t36 =>
        FA 2 t36 fun t37 =>
        LD w.drew t37 fun t38 =>
        CAL Tryz.prog 95 #[t0, t38] w.drew (fun t39 w3 =>
          (Keeps w.drew w3 ∧ (
          NC t39 fun t40 =>
          LD w3 t40 fun t41 =>
          CAL Tryz.prog 96 #[t0, t33, t41] w3 (fun _ w4 =>
            J  w4) X))) X) (
        BIN .int .eql t11 (.int .i64 4) fun t44 =>
        CND t44 (
          CAL Tryz.prog 100 #[t0, t1] w (fun t48 w5 =>
            EX t48 0 fun t49 =>
            EX t48 1 fun t50 =>
            UN .not t50 fun t52 =>
            CND t52 (
              CAL Tryz.prog 89 #[(.int .i64 1)] w5 (fun t54 w6 =>
                CAL Tryz.prog 98 #[t0, t54] w6 (fun _ w7 =>
                  K (.tuple #[]) w7) X) X) (
              NC t1 fun t58 =>
              FA 1 t58 fun t59 =>
              LD w5 t59 fun t60 =>
              CAL Tryz.prog 99 #[t0, t60, t49] w5 (fun _ w8 =>
                J  w8) X)) X) (
          BIN .int .eql t11 (.int .i64 15) fun t64 =>
          CND t64 (
            JOIN (fun (J_1 : Value → World → Prop) =>
              NC t0 fun t66 =>
              FA 9 t66 fun t67 =>
              LD w.drew t67 fun t68 =>
              NC t0 fun t70 =>
              FA 1 t70 fun t71 =>
              FA 0 t71 fun t72 =>
              LD w.drew t72 fun t73 =>
              LEN (.sl 1) t73 fun t74 =>
              BIN .int .lss t68 t74 fun t75 =>
              CND t75 (
                NC t0 fun t77 =>
                FA 1 t77 fun t78 =>
                FA 0 t78 fun t79 =>
                LD ((w.drew).drew) t79 fun t80 =>
                NC t0 fun t82 =>
                FA 9 t82 fun t83 =>
                LD ((w.drew).drew) t83 fun t84 =>
                IA 1 t80 t84 fun t85 =>
                LD ((w.drew).drew) t85 fun t86 =>
                CNV .i64 t86 fun t87 =>
                NC t0 fun t89 =>
                FA 9 t89 fun t90 =>
                LD ((w.drew).drew) t90 fun t91 =>
                BIN .int .add t91 (.int .i64 1) fun t92 =>
                NC t0 fun t93 =>
                FA 9 t93 fun t94 =>
                ST 1 ((w.drew).drew) t94 t92 fun w10 =>
                J_1 t87 w10) (
                J_1 (.int .i64 (-1)) w.drew))
             (fun t6 w9 =>
              NC t1 fun t97 =>
              FA 1 t97 fun t98 =>
              LD w9 t98 fun t99 =>
              CAL Tryz.prog 99 #[t0, t99, t6] w9 (fun _ w11 =>
                J  w11) X)) (
            BIN .int .eql t11 (.int .i64 16) fun t103 =>
            CND t103 (
              NC t0 fun t106 =>
              FA 11 t106 fun t107 =>
              FA 1 t107 fun t108 =>
              LD w.drew t108 fun t109 =>
              NC t1 fun t112 =>
              FA 2 t112 fun t113 =>
              LD w.drew t113 fun t114 =>
              CAL Tryz.prog 91 #[t0, t114] w.drew (fun t115 w12 =>
                (Keeps w.drew w12 ∧ (
                CNV .u8 t115 fun t116 =>
                BSLC Tryz.prog 34 1 [(0, t116)] w12 fun t117 w13 =>
                (Keeps w12 w13 ∧ (
                RUN Tryz.prog (Builtin.append_ #[34, 34] 34 #[t109, t117]) w13 fun t118 w14 =>
                NC t0 fun t119 =>
                FA 11 t119 fun t120 =>
                FA 1 t120 fun t121 =>
                ST 1 w14 t121 t118 fun w15 =>
                J  w15))))) X) (
              BIN .int .eql t11 (.int .i64 2) fun t123 =>
              CND t123 (
                NC t1 fun t126 =>
                FA 2 t126 fun t127 =>
                LD w.drew t127 fun t128 =>
                BIN .int .geq t128 (.int .i64 0) fun t129 =>
                GRP t129 true (.bool false) w.drew (fun J_2 =>
                  NC t1 fun t132 =>
                  FA 2 t132 fun t133 =>
                  LD w.drew t133 fun t134 =>
                  NC t0 fun t136 =>
                  FA 0 t136 fun t137 =>
                  LD w.drew t137 fun t138 =>
                  NC t138 fun t139 =>
                  FA 2 t139 fun t140 =>
                  LD w.drew t140 fun t141 =>
                  LEN (.sl 1) t141 fun t142 =>
                  BIN .int .lss t134 t142 fun t143 =>
                  J_2 t143 w.drew)
                 (fun t144 w16 =>
                  GRP t144 true (.bool false) w16 (fun J_3 =>
                    NC t0 fun t147 =>
                    FA 6 t147 fun t148 =>
                    LD w16 t148 fun t149 =>
                    CAL Tryz.prog 101 #[t149, (.int .i64 0)] w16 (fun t150 w18 =>
                      BIN .int .eql t150 (.int .i64 3) fun t151 =>
                      J_3 t151 w18) X)
                   (fun t152 w17 =>
                    CAL Tryz.prog 56 #[t0, t152] w17 (fun _ w19 =>
                      NC t0 fun t157 =>
                      FA 0 t157 fun t158 =>
                      LD w19.drew t158 fun t159 =>
                      NC t159 fun t160 =>
                      FA 2 t160 fun t161 =>
                      LD w19.drew t161 fun t162 =>
                      NC t1 fun t164 =>
                      FA 2 t164 fun t165 =>
                      LD w19.drew t165 fun t166 =>
                      IA 1 t162 t166 fun t167 =>
                      LD w19.drew t167 fun t168 =>
                      CAL Tryz.prog 102 #[t0, t1, t168] w19.drew (fun _ w20 =>
                        J  w20) X) X))) (
                JOIN (fun (J_4 : Value → World → Prop) =>
                  BIN .int .eql t11 (.int .i64 13) fun t171 =>
                  CND t171 (
                    J_4 t171 w) (
                    BIN .int .eql t11 (.int .i64 14) fun t172 =>
                    CND t172 (
                      J_4 t172 w) (
                      BIN .int .eql t11 (.int .i64 11) fun t173 =>
                      CND t173 (
                        J_4 t173 w) (
                        BIN .int .eql t11 (.int .i64 12) fun t174 =>
                        J_4 t174 w))))
                 (fun t170 w21 =>
                  CND t170 (
                    CAL Tryz.prog 103 #[t0, t1] w21 (fun _ w22 =>
                      J  w22) X) (
                    BIN .int .eql t11 (.int .i64 17) fun t179 =>
                    CND t179 (
                      NC t1 fun t182 =>
                      FA 6 t182 fun t183 =>
                      LD w21 t183 fun t184 =>
                      CAL Tryz.prog 93 #[t0, t184] w21 (fun t185 w23 =>
                        NC t1 fun t188 =>
                        FA 8 t188 fun t189 =>
                        LD w23 t189 fun t190 =>
                        CAL Tryz.prog 104 #[t0, t190] w23 (fun _ w24 =>
                          NC t1 fun t194 =>
                          FA 2 t194 fun t195 =>
                          LD w24 t195 fun t196 =>
                          CAL Tryz.prog 58 #[t0, t196, t185] w24 (fun _ w25 =>
                            J  w25) X) X) X) (
                      CAL Tryz.prog 105 #[t0, t1] w21 (fun _ w26 =>
                        J  w26) X))))))))))
   (fun  w1 =>
    K (.tuple #[]) w1)
def plan62 : Plan := .seq (.reg (.sq 0 4 .nil)) (.jblock [] [] (.seq (.reg (.op 0 false (.op 1 false .nil))) (.cond (.reg (.sq 0 10 .nil)) (.seq (.reg (.op 0 false (.op 1 false .nil))) (.cond (.reg (.sq 0 10 (.op 10 true (.sq 11 3 .nil)))) (.seq (.reg (.op 0 false (.op 1 false .nil))) (.cond (.seq (.reg (.sq 0 8 .nil)) (.seq (.seq (.reg (.op 0 false (.op 1 false .nil))) (.cond (.seq (.reg (.sq 0 3 .nil)) (.leaf)) (.leaf))) (.reg (.sq 0 7 .nil)))) (.seq (.reg (.op 0 false (.op 1 false .nil))) (.cond (.seq (.reg (.op 0 false .nil)) (.jseq [6] [0, 1] (.seq (.reg (.sq 0 11 .nil)) (.cond (.seq (.reg (.sq 0 13 .nil)) (.reg (.sq 0 8 .nil))) (.leaf))) (.reg (.sq 0 7 .nil)))) (.seq (.reg (.op 0 false (.op 1 false .nil))) (.cond (.reg (.sq 0 11 (.op 11 true (.op 12 false (.op 13 true (.sq 14 5 .nil)))))) (.seq (.reg (.op 0 false (.op 1 false .nil))) (.cond (.seq (.reg (.sq 0 7 (.grp 6 true (.sq 7 13 .nil) 20 (.op 21 false (.grp 21 true (.sq 22 6 .nil) 28 (.op 29 false .nil)))))) (.reg (.sq 0 16 .nil))) (.jseq [170] [0, 1, 11] (.seq (.reg (.op 0 false (.op 1 false .nil))) (.cond (.leaf) (.seq (.reg (.op 0 false (.op 1 false .nil))) (.cond (.leaf) (.seq (.reg (.op 0 false (.op 1 false .nil))) (.cond (.leaf) (.reg (.op 0 false (.op 1 false .nil))))))))) (.cond (.reg (.sq 0 3 .nil)) (.seq (.reg (.op 0 false (.op 1 false .nil))) (.cond (.seq (.reg (.sq 0 7 .nil)) (.seq (.reg (.sq 0 6 .nil)) (.reg (.sq 0 7 .nil)))) (.reg (.sq 0 3 .nil)))))))))))))))))))
theorem chk62 : chkC Tryz.prog (codeOf Tryz.f62) plan62 = true := by kernel_rfl
theorem n62 {t0 t1 : Value} {w : World} {K : Value → World → Prop} {X : List PanicEntry → World → Prop} (h : N62 t0 t1 w K X) : CAL Tryz.prog 62 #[t0, t1] w K X :=
  cal (args := [t0, t1]) plan62 Tryz.func62 rfl chk62 (by kernel_rfl) (R := N62 t0 t1 w K X) (by kernel_rfl) h

/-- (*bellows/vm.machine).jump -/
def N90 (t0 t1 : Value) (w : World) (K : Value → World → Prop) (X : List PanicEntry → World → Prop) : Prop :=
  CAL Tryz.prog 59 #[t0] w (fun t5 w1 =>
    CAL Tryz.prog 59 #[t0] w1 (fun t7 w2 =>
      NC t5 fun t9 =>
      FA 0 t9 fun t10 =>
      FA 1 t10 fun t11 =>
      ST 1 w2 t11 t1 fun w3 =>
      NC t7 fun t12 =>
      FA 0 t12 fun t13 =>
      FA 2 t13 fun t14 =>
      ST 1 w3 t14 (.int .i64 0) fun w4 =>
      K (.tuple #[]) w4) X) X
def plan90 : Plan := .reg (.sq 0 13 .nil)
theorem chk90 : chkC Tryz.prog (codeOf Tryz.f90) plan90 = true := by kernel_rfl
theorem n90 {t0 t1 : Value} {w : World} {K : Value → World → Prop} {X : List PanicEntry → World → Prop} (h : N90 t0 t1 w K X) : CAL Tryz.prog 90 #[t0, t1] w K X :=
  cal (args := [t0, t1]) plan90 Tryz.func90 rfl chk90 (by kernel_rfl) (R := N90 t0 t1 w K X) (by kernel_rfl) h

/-- (*bellows/vm.machine).number -/
def N91 (t0 t1 : Value) (w : World) (K : Value → World → Prop) (X : List PanicEntry → World → Prop) : Prop :=
  CAL Tryz.prog 95 #[t0, t1] w (fun t8 w1 =>
    NC t8 fun t9 =>
    LD w1 t9 fun t10 =>
    CAL Tryz.prog 153 #[t10] w1 (fun t13 w2 =>
      CAL Tryz.prog 56 #[t0, t13] w2 (fun _ w3 =>
        CAL Tryz.prog 154 #[t10] w3 (fun t16 w4 =>
          K t16 w4) X) X) X) X
def plan91 : Plan := .seq (.reg (.op 0 false .nil)) (.seq (.reg (.sq 0 6 .nil)) (.seq (.reg (.sq 0 4 .nil)) (.seq (.reg (.sq 0 3 .nil)) (.leaf))))
theorem chk91 : chkC Tryz.prog (codeOf Tryz.f91) plan91 = true := by kernel_rfl
theorem n91 {t0 t1 : Value} {w : World} {K : Value → World → Prop} {X : List PanicEntry → World → Prop} (h : N91 t0 t1 w K X) : CAL Tryz.prog 91 #[t0, t1] w K X :=
  cal (args := [t0, t1]) plan91 Tryz.func91 rfl chk91 (by kernel_rfl) (R := N91 t0 t1 w K X) (by kernel_rfl) h

/-- (*bellows/vm.machine).choose -/
def N92 (t0 t1 : Value) (w : World) (K : Value → World → Prop) (X : List PanicEntry → World → Prop) : Prop :=
  NC t1 fun t10 =>
  FA 2 t10 fun t11 =>
  LD w t11 fun t12 =>
  CAL Tryz.prog 95 #[t0, t12] w (fun t13 w1 =>
    NC t13 fun t14 =>
    LD w1 t14 fun t15 =>
    NC t1 fun t17 =>
    FA 6 t17 fun t18 =>
    LD w1.drew t18 fun t19 =>
    CAL Tryz.prog 154 #[t15] w1.drew (fun t21 w2 =>
      (Keeps w1.drew w2 ∧ (
      JOIN (fun (J : Value → Value → World → Prop) =>
        CAL Tryz.prog 153 #[t15] w2 (fun t23 w4 =>
          UN .not t23 fun t24 =>
          CND t24 (
            NC t1 fun t26 =>
            FA 7 t26 fun t27 =>
            LD w4 t27 fun t28 =>
            NC t0 fun t31 =>
            FA 6 t31 fun t32 =>
            LD w4.drew t32 fun t33 =>
            CAL Tryz.prog 156 #[t15] w4.drew (fun t35 w5 =>
              (Keeps w4.drew w5 ∧ (
              CAL Tryz.prog 155 #[t33, t35] w5 (fun t36 w6 =>
                EX t36 0 fun t37 =>
                EX t36 1 fun _ =>
                J t28 t37 w6) X))) X) (
            J t19 t21 w4)) X)
       (fun t5 t6 w3 =>
        LOOP1 (.int .i64 0) w3 fun t7 w7 back =>
          BIN .int .add t7 (.int .i64 1) fun t40 =>
          LEN (.sl 1) t5 fun t42 =>
          BIN .int .lss t40 t42 fun t43 =>
          CND t43 (
            IA 1 t5 t7 fun t48 =>
            LD w7 t48 fun t49 =>
            BIN .int .eql t49 t6 fun t51 =>
            CND t51 (
              BIN .int .add t7 (.int .i64 1) fun t55 =>
              IA 1 t5 t55 fun t56 =>
              LD w7 t56 fun t57 =>
              CAL Tryz.prog 90 #[t0, t57] w7 (fun _ w8 =>
                K (.tuple #[]) w8) X) (
              BIN .int .add t7 (.int .i64 2) fun t45 =>
              back t45 w7)) (
            CAL Tryz.prog 153 #[t15] w7 (fun t61 w9 =>
              GRP t61 true (.bool false) w9 (fun J_1 =>
                NC t1 fun t64 =>
                FA 3 t64 fun t65 =>
                LD w9 t65 fun t66 =>
                BIN .int .neq t66 (.int .i64 (-1)) fun t67 =>
                J_1 t67 w9)
               (fun t68 w10 =>
                CAL Tryz.prog 56 #[t0, t68] w10 (fun _ w11 =>
                  NC t1 fun t72 =>
                  FA 3 t72 fun t73 =>
                  LD w11 t73 fun t74 =>
                  CAL Tryz.prog 90 #[t0, t74] w11 (fun _ w12 =>
                    K (.tuple #[]) w12) X) X)) X))))) X) X
def plan92 : Plan := .seq (.reg (.sq 0 9 .nil)) (.seq (.reg (.sq 0 5 (.op 5 true (.op 6 false (.op 7 false .nil))))) (.jseq [5, 6] [0, 1, 4] (.seq (.reg (.sq 0 3 .nil)) (.cond (.seq (.reg (.sq 0 5 .nil)) (.reg (.sq 0 5 (.op 5 true (.sq 6 5 .nil))))) (.leaf))) (.seq (.seq (.reg (.op 0 false .nil)) (.block (.loop [7] [0, 1, 4, 5, 6] (.seq (.seq (.reg (.sq 0 5 .nil)) (.cond (.leaf) (.leaf))) (.seq (.block (.seq (.reg (.sq 0 6 .nil)) (.cond (.seq (.reg (.sq 0 7 .nil)) (.leaf)) (.leaf)))) (.reg (.sq 0 3 .nil))))))) (.seq (.reg (.sq 0 4 (.grp 3 true (.sq 4 5 .nil) 9 (.op 10 false .nil)))) (.reg (.sq 0 6 .nil))))))
theorem chk92 : chkC Tryz.prog (codeOf Tryz.f92) plan92 = true := by kernel_rfl
theorem n92 {t0 t1 : Value} {w : World} {K : Value → World → Prop} {X : List PanicEntry → World → Prop} (h : N92 t0 t1 w K X) : CAL Tryz.prog 92 #[t0, t1] w K X :=
  cal (args := [t0, t1]) plan92 Tryz.func92 rfl chk92 (by kernel_rfl) (R := N92 t0 t1 w K X) (by kernel_rfl) h

/-- (*bellows/vm.machine).read -/
def N93 (t0 t1 : Value) (w : World) (K : Value → World → Prop) (X : List PanicEntry → World → Prop) : Prop :=
  LEN (.sl 1) t1 fun t8 =>
  LOOP2 (.slice none 0 0) (.int .i64 0) w fun t4 t9 w1 back =>
    BIN .int .lss t9 t8 fun t10 =>
    CND t10 (
      IA 1 t1 t9 fun t11 =>
      LD w1 t11 fun t12 =>
      CAL Tryz.prog 95 #[t0, t12] w1 (fun t16 w2 =>
        NC t16 fun t17 =>
        LD w2 t17 fun t18 =>
        BSLC Tryz.prog 130 1 [(0, t18)] w2 fun t19 w3 =>
        RUN Tryz.prog (Builtin.append_ #[130, 130] 130 #[t4, t19]) w3 fun t20 w4 =>
        BIN .int .add t9 (.int .i64 1) fun t21 =>
        back t20 t21 w4) X) (
      K t4 w1)
def plan93 : Plan := .seq (.reg (.op 0 false .nil)) (.seq (.seq (.reg (.sq 0 3 .nil)) (.block (.loop [4, 9] [0, 7, 8] (.seq (.reg (.op 0 false .nil)) (.seq (.cond (.leaf) (.leaf)) (.seq (.block (.seq (.reg (.sq 0 3 .nil)) (.reg (.sq 0 9 .nil)))) (.reg (.op 0 false (.op 1 false .nil))))))))) (.seq (.reg (.op 0 false (.op 1 false .nil))) (.leaf)))
theorem chk93 : chkC Tryz.prog (codeOf Tryz.f93) plan93 = true := by kernel_rfl
theorem n93 {t0 t1 : Value} {w : World} {K : Value → World → Prop} {X : List PanicEntry → World → Prop} (h : N93 t0 t1 w K X) : CAL Tryz.prog 93 #[t0, t1] w K X :=
  cal (args := [t0, t1]) plan93 Tryz.func93 rfl chk93 (by kernel_rfl) (R := N93 t0 t1 w K X) (by kernel_rfl) h

/-- (*bellows/vm.machine).pop -/
def N94 (t0 : Value) (w : World) (K : Value → World → Prop) (X : List PanicEntry → World → Prop) : Prop :=
  NC t0 fun t3 =>
  FA 8 t3 fun t4 =>
  LD w.drew t4 fun t5 =>
  CAL Tryz.prog 59 #[t0] w.drew (fun t7 w1 =>
    (Keeps w.drew w1 ∧ (
    NC t7 fun t8 =>
    FA 0 t8 fun t9 =>
    FA 0 t9 fun t10 =>
    LD w1 t10 fun t11 =>
    NC t11 fun t12 =>
    FA 2 t12 fun t13 =>
    LD w1 t13 fun t14 =>
    BIN .int .add t14 (.int .i64 2) fun t15 =>
    BIN .int .sub t5 t15 fun t16 =>
    NC t0 fun t17 =>
    FA 8 t17 fun t18 =>
    ST 1 w1 t18 t16 fun w2 =>
    NC t0 fun t21 =>
    FA 7 t21 fun t22 =>
    LD w2.drew t22 fun t23 =>
    NC t0 fun t25 =>
    FA 7 t25 fun t26 =>
    LD w2.drew t26 fun t27 =>
    LEN (.sl 1) t27 fun t28 =>
    BIN .int .sub t28 (.int .i64 1) fun t29 =>
    SLC (.sl 1) t23 none (some t29) fun t30 =>
    NC t0 fun t31 =>
    FA 7 t31 fun t32 =>
    ST 1 w2.drew t32 t30 fun w3 =>
    K (.tuple #[]) w3))) X
def plan94 : Plan := .seq (.reg (.sq 0 5 (.op 5 true (.sq 6 12 .nil)))) (.reg (.sq 0 15 .nil))
theorem chk94 : chkC Tryz.prog (codeOf Tryz.f94) plan94 = true := by kernel_rfl
theorem n94 {t0 : Value} {w : World} {K : Value → World → Prop} {X : List PanicEntry → World → Prop} (h : N94 t0 w K X) : CAL Tryz.prog 94 #[t0] w K X :=
  cal (args := [t0]) plan94 Tryz.func94 rfl chk94 (by kernel_rfl) (R := N94 t0 w K X) (by kernel_rfl) h

/-- (*bellows/vm.machine).slot -/
def N95 (t0 t1 : Value) (w : World) (K : Value → World → Prop) (X : List PanicEntry → World → Prop) : Prop :=
  CAL Tryz.prog 59 #[t0] w (fun t7 w1 =>
    BIN .int .geq t1 (.int .i64 0) fun t10 =>
    GRP t10 true (.bool false) w1 (fun J =>
      NC t7 fun t14 =>
      FA 3 t14 fun t15 =>
      LD w1 t15 fun t16 =>
      LEN (.sl 1) t16 fun t17 =>
      BIN .int .lss t1 t17 fun t18 =>
      J t18 w1)
     (fun t19 w2 =>
      CAL Tryz.prog 56 #[t0, t19] w2 (fun _ w3 =>
        NC t7 fun t22 =>
        FA 3 t22 fun t23 =>
        LD w3 t23 fun t24 =>
        IA 1 t24 t1 fun t26 =>
        K t26 w3) X)) X
def plan95 : Plan := .seq (.reg (.op 0 false .nil)) (.seq (.reg (.sq 0 3 .nil)) (.seq (.reg (.sq 0 4 (.grp 3 true (.sq 4 7 .nil) 11 (.op 12 false .nil)))) (.seq (.reg (.sq 0 7 .nil)) (.leaf))))
theorem chk95 : chkC Tryz.prog (codeOf Tryz.f95) plan95 = true := by kernel_rfl
theorem n95 {t0 t1 : Value} {w : World} {K : Value → World → Prop} {X : List PanicEntry → World → Prop} (h : N95 t0 t1 w K X) : CAL Tryz.prog 95 #[t0, t1] w K X :=
  cal (args := [t0, t1]) plan95 Tryz.func95 rfl chk95 (by kernel_rfl) (R := N95 t0 t1 w K X) (by kernel_rfl) h

/-- (*bellows/vm.machine).set -/
def N96 (t0 t1 t2 : Value) (w : World) (K : Value → World → Prop) (X : List PanicEntry → World → Prop) : Prop :=
  CAL Tryz.prog 95 #[t0, t1] w (fun t8 w1 =>
    NC t8 fun t10 =>
    ST 1 w1 t10 t2 fun w2 =>
    K (.tuple #[]) w2) X
def plan96 : Plan := .reg (.sq 0 6 .nil)
theorem chk96 : chkC Tryz.prog (codeOf Tryz.f96) plan96 = true := by kernel_rfl
theorem n96 {t0 t1 t2 : Value} {w : World} {K : Value → World → Prop} {X : List PanicEntry → World → Prop} (h : N96 t0 t1 t2 w K X) : CAL Tryz.prog 96 #[t0, t1, t2] w K X :=
  cal (args := [t0, t1, t2]) plan96 Tryz.func96 rfl chk96 (by kernel_rfl) (R := N96 t0 t1 t2 w K X) (by kernel_rfl) h

/-- (*bellows/vm.frame).pending -/
def N97 (t0 : Value) (w : World) (K : Value → World → Prop) (_X : List PanicEntry → World → Prop) : Prop :=
  NC t0 fun t4 =>
  FA 0 t4 fun t5 =>
  FA 0 t5 fun t6 =>
  LD w.drew t6 fun t7 =>
  NC t7 fun t8 =>
  FA 3 t8 fun t9 =>
  LD w.drew t9 fun t10 =>
  NC t0 fun t12 =>
  FA 0 t12 fun t13 =>
  FA 1 t13 fun t14 =>
  LD w.drew t14 fun t15 =>
  IA 2 t10 t15 fun t16 =>
  FA 1 t16 fun t17 =>
  LD w.drew t17 fun t18 =>
  NC t0 fun t20 =>
  FA 0 t20 fun t21 =>
  FA 2 t21 fun t22 =>
  LD w.drew t22 fun t23 =>
  BIN .int .sub t23 (.int .i64 1) fun t24 =>
  IA 9 t18 t24 fun t25 =>
  K t25 w.drew
def plan97 : Plan := .seq (.reg (.op 0 false .nil)) (.seq (.reg (.sq 0 24 .nil)) (.leaf))
theorem chk97 : chkC Tryz.prog (codeOf Tryz.f97) plan97 = true := by kernel_rfl
theorem n97 {t0 : Value} {w : World} {K : Value → World → Prop} {X : List PanicEntry → World → Prop} (h : N97 t0 w K X) : CAL Tryz.prog 97 #[t0] w K X :=
  cal (args := [t0]) plan97 Tryz.func97 rfl chk97 (by kernel_rfl) (R := N97 t0 w K X) (by kernel_rfl) h

/-- (*bellows/vm.machine).throw -/
def N98 (t0 t1 : Value) (w : World) (K : Value → World → Prop) (X : List PanicEntry → World → Prop) : Prop :=
  LOOP0  w fun  w1 back =>
    CAL Tryz.prog 94 #[t0] w1 (fun _ w2 =>
      JOIN (fun (J : World → Prop) =>
        NC t0 fun t9 =>
        FA 7 t9 fun t10 =>
        LD w2 t10 fun t11 =>
        LEN (.sl 1) t11 fun t12 =>
        BIN .int .eql t12 (.int .i64 0) fun t13 =>
        CND t13 (
          CAL Tryz.prog 157 #[t0, t1] w2 (fun t17 w4 =>
            NC t0 fun t18 =>
            FA 11 t18 fun t19 =>
            FA 2 t19 fun t20 =>
            ST 1 w4 t20 t17 fun w5 =>
            CAL Tryz.prog 60 #[t0, (.int .i64 2)] w5 (fun _ w6 =>
              J  w6) X) X) (
          J  w2))
       (fun  w3 =>
        CAL Tryz.prog 59 #[t0] w3 (fun t24 w7 =>
          CAL Tryz.prog 97 #[t24] w7 (fun t25 w8 =>
            NC t25 fun t27 =>
            FA 3 t27 fun t28 =>
            LD w8 t28 fun t29 =>
            BIN .int .eql t29 (.int .i64 (-1)) fun t30 =>
            CND t30 (
              back  w8) (
              NC t25 fun t33 =>
              FA 4 t33 fun t34 =>
              LD w8 t34 fun t35 =>
              CAL Tryz.prog 96 #[t0, t35, t1] w8 (fun _ w9 =>
                CAL Tryz.prog 59 #[t0] w9 (fun t39 w10 =>
                  NC t25 fun t43 =>
                  FA 3 t43 fun t44 =>
                  LD w10 t44 fun t45 =>
                  NC t39 fun t46 =>
                  FA 0 t46 fun t47 =>
                  FA 1 t47 fun t48 =>
                  ST 1 w10 t48 t45 fun w11 =>
                  NC t39 fun t49 =>
                  FA 0 t49 fun t50 =>
                  FA 2 t50 fun t51 =>
                  ST 1 w11 t51 (.int .i64 0) fun w12 =>
                  K (.tuple #[]) w12) X) X)) X) X)) X
def plan98 : Plan := .block (.loop [] [0, 1] (.block (.seq (.reg (.op 0 false (.op 1 false .nil))) (.jseq [] [0, 1] (.seq (.reg (.sq 0 6 .nil)) (.cond (.seq (.reg (.sq 0 8 .nil)) (.reg (.op 0 false (.op 1 false .nil)))) (.leaf))) (.seq (.reg (.sq 0 4 .nil)) (.seq (.seq (.reg (.sq 0 5 .nil)) (.cond (.leaf) (.leaf))) (.seq (.reg (.sq 0 7 .nil)) (.seq (.reg (.sq 0 3 .nil)) (.seq (.reg (.sq 0 14 .nil)) (.leaf))))))))))
theorem chk98 : chkC Tryz.prog (codeOf Tryz.f98) plan98 = true := by kernel_rfl
theorem n98 {t0 t1 : Value} {w : World} {K : Value → World → Prop} {X : List PanicEntry → World → Prop} (h : N98 t0 t1 w K X) : CAL Tryz.prog 98 #[t0, t1] w K X :=
  cal (args := [t0, t1]) plan98 Tryz.func98 rfl chk98 (by kernel_rfl) (R := N98 t0 t1 w K X) (by kernel_rfl) h

/-- (*bellows/vm.machine).setInt -/
def N99 (t0 t1 t2 : Value) (w : World) (K : Value → World → Prop) (X : List PanicEntry → World → Prop) : Prop :=
  CAL Tryz.prog 89 #[t2] w (fun t9 w1 =>
    CAL Tryz.prog 96 #[t0, t1, t9] w1 (fun _ w2 =>
      K (.tuple #[]) w2) X) X
def plan99 : Plan := .reg (.sq 0 5 .nil)
theorem chk99 : chkC Tryz.prog (codeOf Tryz.f99) plan99 = true := by kernel_rfl
theorem n99 {t0 t1 t2 : Value} {w : World} {K : Value → World → Prop} {X : List PanicEntry → World → Prop} (h : N99 t0 t1 t2 w K X) : CAL Tryz.prog 99 #[t0, t1, t2] w K X :=
  cal (args := [t0, t1, t2]) plan99 Tryz.func99 rfl chk99 (by kernel_rfl) (R := N99 t0 t1 t2 w K X) (by kernel_rfl) h

/-- (*bellows/vm.machine).prim -/
def N100 (t0 t1 : Value) (w : World) (K : Value → World → Prop) (X : List PanicEntry → World → Prop) : Prop :=
  NC t1 fun t11 =>
  FA 2 t11 fun t12 =>
  LD w.drew t12 fun t13 =>
  NC t1 fun t17 =>
  FA 3 t17 fun t18 =>
  LD w.drew t18 fun t19 =>
  CAL Tryz.prog 91 #[t0, t13] w.drew (fun t14 w1 =>
    (Keeps w.drew w1 ∧ (
    CAL Tryz.prog 91 #[t0, t19] w1 (fun t20 w2 =>
      NC t1 fun t22 =>
      FA 5 t22 fun t23 =>
      LD w2 t23 fun t24 =>
      JOIN (fun (J : Value → World → Prop) =>
        BIN .int .eql t24 (.int .i64 1) fun t28 =>
        CND t28 (
          CAL Tryz.prog 158 #[t14, t20] w2 (fun t31 w4 =>
            K (.tuple #[t31, (.bool true)]) w4) X) (
          BIN .int .eql t24 (.int .i64 2) fun t33 =>
          CND t33 (
            CAL Tryz.prog 159 #[t14, t20] w2 (fun t36 w5 =>
              K (.tuple #[t36, (.bool true)]) w5) X) (
            BIN .int .eql t24 (.int .i64 3) fun t38 =>
            CND t38 (
              CAL Tryz.prog 160 #[t14, t20] w2 (fun t41 w6 =>
                K (.tuple #[t41, (.bool true)]) w6) X) (
              BIN .int .eql t24 (.int .i64 4) fun t43 =>
              CND t43 (
                CAL Tryz.prog 161 #[t14, t20] w2 (fun t46 w7 =>
                  EX t46 0 fun t47 =>
                  EX t46 1 fun t48 =>
                  K (.tuple #[t47, t48]) w7) X) (
                BIN .int .eql t24 (.int .i64 5) fun t50 =>
                CND t50 (
                  CAL Tryz.prog 162 #[t14, t20] w2 (fun t53 w8 =>
                    EX t53 0 fun t54 =>
                    EX t53 1 fun t55 =>
                    K (.tuple #[t54, t55]) w8) X) (
                  BIN .int .eql t24 (.int .i64 6) fun t57 =>
                  CND t57 (
                    BIN .int .lss t14 t20 fun t60 =>
                    J t60 w2) (
                    BIN .int .eql t24 (.int .i64 7) fun t62 =>
                    CND t62 (
                      BIN .int .leq t14 t20 fun t65 =>
                      J t65 w2) (
                      BIN .int .eql t24 (.int .i64 8) fun t67 =>
                      CND t67 (
                        BIN .int .eql t14 t20 fun t70 =>
                        J t70 w2) (
                        CAL Tryz.prog 60 #[t0, (.int .i64 6)] w2 (fun _ w9 =>
                          J (.bool false) w9) X)))))))))
       (fun t8 w3 =>
        CND t8 (
          K (.tuple #[(.int .i64 1), (.bool true)]) w3) (
          K (.tuple #[(.int .i64 0), (.bool true)]) w3))) X))) X
def plan100 : Plan := .seq (.reg (.op 0 false (.op 1 false .nil))) (.seq (.reg (.sq 0 5 (.sq 6 5 (.op 5 true (.sq 11 3 .nil))))) (.seq (.reg (.op 0 false .nil)) (.seq (.seq (.reg (.sq 0 4 .nil)) (.jblock [8] [] (.seq (.reg (.op 0 false (.op 1 false .nil))) (.cond (.seq (.reg (.sq 0 5 .nil)) (.leaf)) (.seq (.reg (.op 0 false (.op 1 false .nil))) (.cond (.seq (.reg (.sq 0 5 .nil)) (.leaf)) (.seq (.reg (.op 0 false (.op 1 false .nil))) (.cond (.seq (.reg (.sq 0 5 .nil)) (.leaf)) (.seq (.reg (.op 0 false (.op 1 false .nil))) (.cond (.seq (.reg (.sq 0 7 .nil)) (.leaf)) (.seq (.reg (.op 0 false (.op 1 false .nil))) (.cond (.seq (.reg (.sq 0 7 .nil)) (.leaf)) (.seq (.reg (.op 0 false (.op 1 false .nil))) (.cond (.reg (.sq 0 4 .nil)) (.seq (.reg (.op 0 false (.op 1 false .nil))) (.cond (.reg (.sq 0 4 .nil)) (.seq (.reg (.op 0 false (.op 1 false .nil))) (.cond (.reg (.sq 0 4 .nil)) (.reg (.op 0 false (.op 1 false .nil))))))))))))))))))))) (.seq (.seq (.reg (.op 0 false .nil)) (.cond (.seq (.reg (.op 0 false (.op 1 false .nil))) (.leaf)) (.leaf))) (.seq (.reg (.op 0 false (.op 1 false .nil))) (.leaf))))))
theorem chk100 : chkC Tryz.prog (codeOf Tryz.f100) plan100 = true := by kernel_rfl
theorem n100 {t0 t1 : Value} {w : World} {K : Value → World → Prop} {X : List PanicEntry → World → Prop} (h : N100 t0 t1 w K X) : CAL Tryz.prog 100 #[t0, t1] w K X :=
  cal (args := [t0, t1]) plan100 Tryz.func100 rfl chk100 (by kernel_rfl) (R := N100 t0 t1 w K X) (by kernel_rfl) h

/-- (*bellows/vm.machine).text -/
def N102 (t0 t1 t2 : Value) (w : World) (K : Value → World → Prop) (X : List PanicEntry → World → Prop) : Prop :=
  LEN .str t2 fun t13 =>
  NC t1 fun t15 =>
  FA 8 t15 fun t16 =>
  LD w t16 fun t17 =>
  CAL Tryz.prog 163 #[t0, (.int .i64 0), t13, t17, (.slice none 0 0)] w (fun t18 w1 =>
    EX t18 0 fun t19 =>
    EX t18 1 fun _ =>
    RUN Tryz.prog (convert 9 34 t2) w1 fun t22 w2 =>
    LEN (.sl 1) t22 fun t23 =>
    LOOP1 (.int .i64 0) w2 fun t24 w3 back =>
      BIN .int .lss t24 t23 fun t25 =>
      CND t25 (
        IA 1 t22 t24 fun t27 =>
        LD w3 t27 fun t28 =>
        NC t0 fun t30 =>
        FA 6 t30 fun t31 =>
        LD w3 t31 fun t32 =>
        CAL Tryz.prog 164 #[t32, t19, t24, t28] w3 (fun _ w4 =>
          BIN .int .add t24 (.int .i64 1) fun t37 =>
          back t37 w4) X) (
        NC t1 fun t40 =>
        FA 1 t40 fun t41 =>
        LD w3.drew t41 fun t42 =>
        CAL Tryz.prog 165 #[t19] w3.drew (fun t44 w5 =>
          (Keeps w3.drew w5 ∧ (
          CAL Tryz.prog 96 #[t0, t42, t44] w5 (fun _ w6 =>
            K (.tuple #[]) w6) X))) X)) X
def plan102 : Plan := .seq (.reg (.sq 0 13 .nil)) (.seq (.seq (.reg (.sq 0 4 .nil)) (.block (.loop [24] [0, 1, 6, 22, 23] (.seq (.reg (.op 0 false .nil)) (.seq (.cond (.leaf) (.leaf)) (.seq (.block (.seq (.reg (.sq 0 5 .nil)) (.reg (.sq 0 8 .nil)))) (.reg (.op 0 false (.op 1 false .nil))))))))) (.reg (.sq 0 6 (.op 6 true (.op 7 false .nil)))))
theorem chk102 : chkC Tryz.prog (codeOf Tryz.f102) plan102 = true := by kernel_rfl
theorem n102 {t0 t1 t2 : Value} {w : World} {K : Value → World → Prop} {X : List PanicEntry → World → Prop} (h : N102 t0 t1 t2 w K X) : CAL Tryz.prog 102 #[t0, t1, t2] w K X :=
  cal (args := [t0, t1, t2]) plan102 Tryz.func102 rfl chk102 (by kernel_rfl) (R := N102 t0 t1 t2 w K X) (by kernel_rfl) h

/-- (*bellows/vm.machine).bytes -/
def N103 (t0 t1 : Value) (w : World) (K : Value → World → Prop) (X : List PanicEntry → World → Prop) : Prop :=
  NC t1 fun t17 =>
  FA 0 t17 fun t18 =>
  LD w t18 fun t19 =>
  BIN .int .eql t19 (.int .i64 11) fun t20 =>
  CND t20 (
    NC t1 fun t24 =>
    FA 2 t24 fun t25 =>
    LD w t25 fun t26 =>
    CAL Tryz.prog 166 #[t0, t26, (.int .i64 2), (.int .i64 3)] w (fun t27 w1 =>
      EX t27 0 fun _ =>
      EX t27 1 fun t29 =>
      NC t1 fun t32 =>
      FA 1 t32 fun t33 =>
      LD w1 t33 fun t34 =>
      CAL Tryz.prog 99 #[t0, t34, t29] w1 (fun _ w2 =>
        K (.tuple #[]) w2) X) X) (
    NC t1 fun t40 =>
    FA 2 t40 fun t41 =>
    LD w t41 fun t42 =>
    CAL Tryz.prog 166 #[t0, t42, (.int .i64 3), (.int .i64 3)] w (fun t43 w3 =>
      EX t43 0 fun t44 =>
      EX t43 1 fun _ =>
      NC t1 fun t47 =>
      FA 0 t47 fun t48 =>
      LD w3 t48 fun t49 =>
      BIN .int .eql t49 (.int .i64 12) fun t50 =>
      CND t50 (
        NC t0 fun t53 =>
        FA 6 t53 fun t54 =>
        LD w3.drew t54 fun t55 =>
        NC t1 fun t59 =>
        FA 3 t59 fun t60 =>
        LD w3.drew t60 fun t61 =>
        CAL Tryz.prog 91 #[t0, t61] w3.drew (fun t62 w4 =>
          (Keeps w3.drew w4 ∧ (
          CAL Tryz.prog 168 #[t62] w4 (fun t63 w5 =>
            (Keeps w4 w5 ∧ (
            CAL Tryz.prog 167 #[t55, t44, t63] w5 (fun t64 w6 =>
              EX t64 0 fun t65 =>
              EX t64 1 fun t66 =>
              BIN .int .neq t66 (.int .i64 0) fun t68 =>
              CND t68 (
                CAL Tryz.prog 89 #[(.int .i64 2)] w6 (fun t70 w7 =>
                  CAL Tryz.prog 98 #[t0, t70] w7 (fun _ w8 =>
                    K (.tuple #[]) w8) X) X) (
                NC t1 fun t74 =>
                FA 1 t74 fun t75 =>
                LD w6 t75 fun t76 =>
                CNV .i64 t65 fun t78 =>
                CAL Tryz.prog 99 #[t0, t76, t78] w6 (fun _ w9 =>
                  K (.tuple #[]) w9) X)) X))) X))) X) (
        NC t1 fun t83 =>
        FA 3 t83 fun t84 =>
        LD w3 t84 fun t85 =>
        CAL Tryz.prog 166 #[t0, t85, (.int .i64 3), (.int .i64 3)] w3 (fun t86 w10 =>
          EX t86 0 fun t87 =>
          EX t86 1 fun _ =>
          NC t0 fun t91 =>
          FA 6 t91 fun t92 =>
          LD w10 t92 fun t93 =>
          CAL Tryz.prog 169 #[t93, t44] w10 (fun t95 w11 =>
            EX t95 0 fun t96 =>
            EX t95 1 fun _ =>
            NC t0 fun t100 =>
            FA 6 t100 fun t101 =>
            LD w11 t101 fun t102 =>
            CAL Tryz.prog 169 #[t102, t87] w11 (fun t104 w12 =>
              EX t104 0 fun t105 =>
              EX t104 1 fun _ =>
              NC t1 fun t108 =>
              FA 0 t108 fun t109 =>
              LD w12 t109 fun t110 =>
              BIN .int .eql t110 (.int .i64 14) fun t111 =>
              CND t111 (
                NC t1 fun t114 =>
                FA 1 t114 fun t115 =>
                LD w12.drew t115 fun t116 =>
                CAL Tryz.prog 170 #[t96, t105] w12.drew (fun t119 w13 =>
                  (Keeps w12.drew w13 ∧ (
                  CAL Tryz.prog 99 #[t0, t116, t119] w13 (fun _ w14 =>
                    K (.tuple #[]) w14) X))) X) (
                NC t0 fun t123 =>
                FA 6 t123 fun t124 =>
                LD w12 t124 fun t125 =>
                CAL Tryz.prog 101 #[t125, (.int .i64 0)] w12 (fun t126 w15 =>
                  BIN .int .eql t126 (.int .i64 3) fun t127 =>
                  CAL Tryz.prog 56 #[t0, t127] w15 (fun _ w16 =>
                    LEN .str t96 fun t130 =>
                    LEN .str t105 fun t132 =>
                    BIN .int .add t130 t132 fun t133 =>
                    BIN .int .gtr t133 (.int .i64 65536) fun t134 =>
                    CND t134 (
                      CAL Tryz.prog 89 #[(.int .i64 3)] w16 (fun t136 w17 =>
                        CAL Tryz.prog 98 #[t0, t136] w17 (fun _ w18 =>
                          K (.tuple #[]) w18) X) X) (
                      BIN .str .add t96 t105 fun t142 =>
                      CAL Tryz.prog 102 #[t0, t1, t142] w16 (fun _ w19 =>
                        K (.tuple #[]) w19) X)) X) X)) X) X) X)) X)
def plan103 : Plan := .seq (.seq (.reg (.sq 0 5 .nil)) (.cond (.seq (.reg (.sq 0 11 .nil)) (.seq (.reg (.sq 0 7 .nil)) (.leaf))) (.leaf))) (.seq (.reg (.sq 0 11 .nil)) (.seq (.seq (.reg (.sq 0 5 .nil)) (.cond (.seq (.reg (.sq 0 10 (.op 10 true (.op 11 true (.sq 12 6 .nil))))) (.seq (.seq (.reg (.op 0 false (.op 1 false .nil))) (.cond (.seq (.reg (.sq 0 3 .nil)) (.leaf)) (.leaf))) (.seq (.reg (.sq 0 8 .nil)) (.leaf)))) (.leaf))) (.seq (.reg (.sq 0 11 .nil)) (.seq (.reg (.sq 0 11 .nil)) (.seq (.reg (.sq 0 11 .nil)) (.seq (.seq (.reg (.sq 0 5 .nil)) (.cond (.seq (.reg (.sq 0 7 (.op 7 true (.op 8 false .nil)))) (.leaf)) (.leaf))) (.seq (.reg (.sq 0 8 .nil)) (.seq (.seq (.reg (.sq 0 6 .nil)) (.cond (.seq (.reg (.sq 0 3 .nil)) (.leaf)) (.leaf))) (.reg (.sq 0 6 .nil))))))))))
theorem chk103 : chkC Tryz.prog (codeOf Tryz.f103) plan103 = true := by kernel_rfl
theorem n103 {t0 t1 : Value} {w : World} {K : Value → World → Prop} {X : List PanicEntry → World → Prop} (h : N103 t0 t1 w K X) : CAL Tryz.prog 103 #[t0, t1] w K X :=
  cal (args := [t0, t1]) plan103 Tryz.func103 rfl chk103 (by kernel_rfl) (R := N103 t0 t1 w K X) (by kernel_rfl) h

/-- (*bellows/vm.machine).keep -/
def N104 (t0 t1 : Value) (w : World) (K : Value → World → Prop) (X : List PanicEntry → World → Prop) : Prop :=
  CAL Tryz.prog 59 #[t0] w (fun t11 w1 =>
    NC t11 fun t13 =>
    FA 3 t13 fun t14 =>
    LD w1 t14 fun t15 =>
    LEN (.sl 1) t15 fun t16 =>
    RUN Tryz.prog (Instr.makeSlice 130 t16 t16) w1 fun t17 w2 =>
    LEN (.sl 1) t17 fun t19 =>
    LOOP1 (.int .i64 0) w2 fun t20 w3 back =>
      BIN .int .lss t20 t19 fun t21 =>
      CND t21 (
        CAL Tryz.prog 89 #[(.int .i64 0)] w3 (fun t25 w4 =>
          IA 1 t17 t20 fun t26 =>
          ST 1 w4 t26 t25 fun w5 =>
          BIN .int .add t20 (.int .i64 1) fun t27 =>
          back t27 w5) X) (
        LEN (.sl 1) t1 fun t29 =>
        LOOP1 (.int .i64 0) w3 fun t30 w6 back_1 =>
          BIN .int .lss t30 t29 fun t31 =>
          CND t31 (
            IA 1 t1 t30 fun t32 =>
            LD w6 t32 fun t33 =>
            CAL Tryz.prog 95 #[t0, t33] w6 (fun t36 w7 =>
              NC t36 fun t37 =>
              LD w7 t37 fun t38 =>
              IA 1 t17 t33 fun t42 =>
              ST 1 w7 t42 t38 fun w8 =>
              BIN .int .add t30 (.int .i64 1) fun t43 =>
              back_1 t43 w8) X) (
            NC t11 fun t46 =>
            FA 3 t46 fun t47 =>
            ST 1 w6 t47 t17 fun w9 =>
            K (.tuple #[]) w9))) X
def plan104 : Plan := .seq (.reg (.sq 0 3 .nil)) (.seq (.reg (.sq 0 7 .nil)) (.seq (.seq (.reg (.sq 0 3 .nil)) (.block (.loop [20] [0, 1, 4, 5, 19] (.seq (.reg (.op 0 false .nil)) (.seq (.cond (.leaf) (.leaf)) (.seq (.block (.seq (.reg (.op 0 false (.op 1 false .nil))) (.reg (.sq 0 5 .nil)))) (.reg (.op 0 false (.op 1 false .nil))))))))) (.seq (.seq (.reg (.sq 0 3 .nil)) (.block (.loop [30] [0, 4, 5, 28, 29] (.seq (.reg (.op 0 false .nil)) (.seq (.cond (.leaf) (.leaf)) (.seq (.block (.seq (.reg (.sq 0 3 .nil)) (.seq (.reg (.sq 0 6 .nil)) (.reg (.sq 0 5 .nil))))) (.reg (.op 0 false (.op 1 false .nil))))))))) (.reg (.sq 0 5 .nil)))))
theorem chk104 : chkC Tryz.prog (codeOf Tryz.f104) plan104 = true := by kernel_rfl
theorem n104 {t0 t1 : Value} {w : World} {K : Value → World → Prop} {X : List PanicEntry → World → Prop} (h : N104 t0 t1 w K X) : CAL Tryz.prog 104 #[t0, t1] w K X :=
  cal (args := [t0, t1]) plan104 Tryz.func104 rfl chk104 (by kernel_rfl) (R := N104 t0 t1 w K X) (by kernel_rfl) h

/-- (*bellows/vm.machine).fields -/
def N105 (t0 t1 : Value) (w : World) (K : Value → World → Prop) (X : List PanicEntry → World → Prop) : Prop :=
  NC t1 fun t26 =>
  FA 0 t26 fun t27 =>
  LD w t27 fun t28 =>
  JOIN (fun (J : World → Prop) =>
    BIN .int .eql t28 (.int .i64 5) fun t32 =>
    CND t32 (
      NC t0 fun t35 =>
      FA 6 t35 fun t36 =>
      LD w.drew t36 fun t37 =>
      NC t1 fun t39 =>
      FA 2 t39 fun t40 =>
      LD w.drew t40 fun t41 =>
      CAL Tryz.prog 101 #[t37, t41] w.drew (fun t42 w2 =>
        BIN .int .eql t42 (.int .i64 1) fun t43 =>
        GRP t43 true (.bool false) w2 (fun J_1 =>
          NC t1 fun t46 =>
          FA 6 t46 fun t47 =>
          LD w2 t47 fun t48 =>
          LEN (.sl 1) t48 fun t49 =>
          NC t0 fun t51 =>
          FA 0 t51 fun t52 =>
          LD w2 t52 fun t53 =>
          NC t53 fun t54 =>
          FA 1 t54 fun t55 =>
          LD w2 t55 fun t56 =>
          NC t1 fun t58 =>
          FA 2 t58 fun t59 =>
          LD w2 t59 fun t60 =>
          MAX [(.int .i64 0), t60] fun t61 =>
          IA 3 t56 t61 fun t62 =>
          FA 1 t62 fun t63 =>
          LD w2 t63 fun t64 =>
          LEN (.sl 1) t64 fun t65 =>
          BIN .int .eql t49 t65 fun t66 =>
          J_1 t66 w2)
         (fun t67 w3 =>
          CAL Tryz.prog 56 #[t0, t67] w3 (fun _ w4 =>
            NC t1 fun t72 =>
            FA 2 t72 fun t73 =>
            LD w4.drew t73 fun t74 =>
            NC t1 fun t76 =>
            FA 6 t76 fun t77 =>
            LD w4.drew t77 fun t78 =>
            LEN (.sl 1) t78 fun t79 =>
            NC t1 fun t81 =>
            FA 8 t81 fun t82 =>
            LD w4.drew t82 fun t83 =>
            NC t1 fun t86 =>
            FA 6 t86 fun t87 =>
            LD w4.drew t87 fun t88 =>
            CAL Tryz.prog 93 #[t0, t88] w4.drew (fun t89 w5 =>
              (Keeps w4.drew w5 ∧ (
              CAL Tryz.prog 163 #[t0, t74, t79, t83, t89] w5 (fun t90 w6 =>
                EX t90 0 fun t91 =>
                EX t90 1 fun t92 =>
                LEN (.sl 1) t92 fun t94 =>
                LOOP1 (.int .i64 0) w6 fun t95 w7 back =>
                  BIN .int .lss t95 t94 fun t96 =>
                  CND t96 (
                    IA 1 t92 t95 fun t98 =>
                    LD w7 t98 fun t99 =>
                    NC t0 fun t101 =>
                    FA 6 t101 fun t102 =>
                    LD w7 t102 fun t103 =>
                    CAL Tryz.prog 171 #[t103, t91, t95, t99] w7 (fun _ w8 =>
                      BIN .int .add t95 (.int .i64 1) fun t108 =>
                      back t108 w8) X) (
                    NC t1 fun t111 =>
                    FA 1 t111 fun t112 =>
                    LD w7.drew t112 fun t113 =>
                    CAL Tryz.prog 165 #[t91] w7.drew (fun t115 w9 =>
                      (Keeps w7.drew w9 ∧ (
                      CAL Tryz.prog 96 #[t0, t113, t115] w9 (fun _ w10 =>
                        J  w10) X))) X)) X))) X) X)) X) (
      BIN .int .eql t28 (.int .i64 8) fun t118 =>
      CND t118 (
        NC t1 fun t121 =>
        FA 3 t121 fun t122 =>
        LD w t122 fun t123 =>
        CAL Tryz.prog 91 #[t0, t123] w (fun t124 w11 =>
          NC t1 fun t127 =>
          FA 4 t127 fun t128 =>
          LD w11 t128 fun t129 =>
          CAL Tryz.prog 95 #[t0, t129] w11 (fun t130 w12 =>
            NC t130 fun t131 =>
            LD w12 t131 fun t132 =>
            NC t0 fun t135 =>
            FA 6 t135 fun t136 =>
            LD w12.drew t136 fun t137 =>
            NC t1 fun t139 =>
            FA 2 t139 fun t140 =>
            LD w12.drew t140 fun t141 =>
            CAL Tryz.prog 101 #[t137, t141] w12.drew (fun t142 w13 =>
              BIN .int .eql t142 (.int .i64 2) fun t143 =>
              CAL Tryz.prog 56 #[t0, t143] w13 (fun _ w14 =>
                BIN .int .lss t124 (.int .i64 0) fun t146 =>
                GRP t146 false (.bool true) w14 (fun J_2 =>
                  BIN .int .gtr t124 (.int .i64 65536) fun t149 =>
                  J_2 t149 w14)
                 (fun t150 w15 =>
                  CND t150 (
                    CAL Tryz.prog 89 #[(.int .i64 3)] w15 (fun t152 w16 =>
                      CAL Tryz.prog 98 #[t0, t152] w16 (fun _ w17 =>
                        K (.tuple #[]) w17) X) X) (
                    NC t1 fun t157 =>
                    FA 2 t157 fun t158 =>
                    LD w15.drew t158 fun t159 =>
                    NC t1 fun t162 =>
                    FA 8 t162 fun t163 =>
                    LD w15.drew t163 fun t164 =>
                    BSLC Tryz.prog 130 1 [(0, t132)] w15.drew fun t166 w18 =>
                    (Keeps w15.drew w18 ∧ (
                    CAL Tryz.prog 163 #[t0, t159, t124, t164, t166] w18 (fun t167 w19 =>
                      EX t167 0 fun t168 =>
                      EX t167 1 fun t169 =>
                      LOOP1 (.int .i64 0) w19 fun t171 w20 back_1 =>
                        BIN .int .lss t171 t124 fun t172 =>
                        CND t172 (
                          NC t0 fun t175 =>
                          FA 6 t175 fun t176 =>
                          LD w20.drew t176 fun t177 =>
                          IA 1 t169 (.int .i64 0) fun t181 =>
                          LD w20.drew t181 fun t182 =>
                          CAL Tryz.prog 171 #[t177, t168, t171, t182] w20.drew (fun _ w21 =>
                            BIN .int .add t171 (.int .i64 1) fun t184 =>
                            back_1 t184 w21) X) (
                          NC t1 fun t187 =>
                          FA 1 t187 fun t188 =>
                          LD w20.drew t188 fun t189 =>
                          CAL Tryz.prog 165 #[t168] w20.drew (fun t191 w22 =>
                            (Keeps w20.drew w22 ∧ (
                            CAL Tryz.prog 96 #[t0, t189, t191] w22 (fun _ w23 =>
                              J  w23) X))) X)) X))))) X) X) X) X) (
        BIN .int .eql t28 (.int .i64 6) fun t194 =>
        CND t194 (
          NC t1 fun t198 =>
          FA 2 t198 fun t199 =>
          LD w t199 fun t200 =>
          CAL Tryz.prog 166 #[t0, t200, (.int .i64 1), (.int .i64 1)] w (fun t201 w24 =>
            EX t201 0 fun t202 =>
            EX t201 1 fun _ =>
            NC t0 fun t206 =>
            FA 6 t206 fun t207 =>
            LD w24.drew t207 fun t208 =>
            NC t1 fun t211 =>
            FA 3 t211 fun t212 =>
            LD w24.drew t212 fun t213 =>
            CAL Tryz.prog 172 #[t208, t202, t213] w24.drew (fun t214 w25 =>
              EX t214 0 fun t215 =>
              EX t214 1 fun t216 =>
              BIN .int .eql t216 (.int .i64 0) fun t219 =>
              CAL Tryz.prog 56 #[t0, t219] w25 (fun _ w26 =>
                NC t1 fun t223 =>
                FA 1 t223 fun t224 =>
                LD w26 t224 fun t225 =>
                CAL Tryz.prog 96 #[t0, t225, t215] w26 (fun _ w27 =>
                  J  w27) X) X) X) X) (
          BIN .int .eql t28 (.int .i64 7) fun t229 =>
          CND t229 (
            NC t1 fun t233 =>
            FA 2 t233 fun t234 =>
            LD w t234 fun t235 =>
            CAL Tryz.prog 166 #[t0, t235, (.int .i64 1), (.int .i64 1)] w (fun t236 w28 =>
              EX t236 0 fun t237 =>
              EX t236 1 fun _ =>
              NC t0 fun t241 =>
              FA 6 t241 fun t242 =>
              LD w28.drew t242 fun t243 =>
              NC t1 fun t246 =>
              FA 3 t246 fun t247 =>
              LD w28.drew t247 fun t248 =>
              NC t1 fun t251 =>
              FA 4 t251 fun t252 =>
              LD w28.drew t252 fun t253 =>
              CAL Tryz.prog 95 #[t0, t253] w28.drew (fun t254 w29 =>
                (Keeps w28.drew w29 ∧ (
                NC t254 fun t255 =>
                LD w29 t255 fun t256 =>
                CAL Tryz.prog 171 #[t243, t237, t248, t256] w29 (fun t257 w30 =>
                  BIN .int .eql t257 (.int .i64 0) fun t258 =>
                  CAL Tryz.prog 56 #[t0, t258] w30 (fun _ w31 =>
                    J  w31) X) X))) X) X) (
            BIN .int .eql t28 (.int .i64 9) fun t261 =>
            CND t261 (
              NC t1 fun t265 =>
              FA 2 t265 fun t266 =>
              LD w t266 fun t267 =>
              CAL Tryz.prog 166 #[t0, t267, (.int .i64 2), (.int .i64 2)] w (fun t268 w32 =>
                EX t268 0 fun t269 =>
                EX t268 1 fun _ =>
                NC t0 fun t273 =>
                FA 6 t273 fun t274 =>
                LD w32.drew t274 fun t275 =>
                NC t1 fun t279 =>
                FA 3 t279 fun t280 =>
                LD w32.drew t280 fun t281 =>
                CAL Tryz.prog 91 #[t0, t281] w32.drew (fun t282 w33 =>
                  (Keeps w32.drew w33 ∧ (
                  CAL Tryz.prog 168 #[t282] w33 (fun t283 w34 =>
                    (Keeps w33 w34 ∧ (
                    CAL Tryz.prog 172 #[t275, t269, t283] w34 (fun t284 w35 =>
                      EX t284 0 fun t285 =>
                      EX t284 1 fun t286 =>
                      BIN .int .neq t286 (.int .i64 0) fun t288 =>
                      CND t288 (
                        CAL Tryz.prog 89 #[(.int .i64 2)] w35 (fun t290 w36 =>
                          CAL Tryz.prog 98 #[t0, t290] w36 (fun _ w37 =>
                            K (.tuple #[]) w37) X) X) (
                        NC t1 fun t294 =>
                        FA 1 t294 fun t295 =>
                        LD w35 t295 fun t296 =>
                        CAL Tryz.prog 96 #[t0, t296, t285] w35 (fun _ w38 =>
                          J  w38) X)) X))) X))) X) X) (
              BIN .int .eql t28 (.int .i64 10) fun t300 =>
              CND t300 (
                NC t1 fun t304 =>
                FA 2 t304 fun t305 =>
                LD w t305 fun t306 =>
                CAL Tryz.prog 166 #[t0, t306, (.int .i64 2), (.int .i64 2)] w (fun t307 w39 =>
                  EX t307 0 fun t308 =>
                  EX t307 1 fun _ =>
                  NC t0 fun t311 =>
                  FA 6 t311 fun t312 =>
                  LD w39.drew t312 fun t313 =>
                  NC t1 fun t317 =>
                  FA 3 t317 fun t318 =>
                  LD w39.drew t318 fun t319 =>
                  NC t1 fun t324 =>
                  FA 4 t324 fun t325 =>
                  LD w39.drew t325 fun t326 =>
                  CAL Tryz.prog 91 #[t0, t319] w39.drew (fun t320 w40 =>
                    (Keeps w39.drew w40 ∧ (
                    CAL Tryz.prog 168 #[t320] w40 (fun t321 w41 =>
                      (Keeps w40 w41 ∧ (
                      CAL Tryz.prog 95 #[t0, t326] w41 (fun t327 w42 =>
                        (Keeps w41 w42 ∧ (
                        NC t327 fun t328 =>
                        LD w42 t328 fun t329 =>
                        CAL Tryz.prog 171 #[t313, t308, t321, t329] w42 (fun t330 w43 =>
                          BIN .int .neq t330 (.int .i64 0) fun t331 =>
                          CND t331 (
                            CAL Tryz.prog 89 #[(.int .i64 2)] w43 (fun t333 w44 =>
                              CAL Tryz.prog 98 #[t0, t333] w44 (fun _ w45 =>
                                J  w45) X) X) (
                            J  w43)) X))) X))) X))) X) X) (
                CAL Tryz.prog 60 #[t0, (.int .i64 6)] w (fun _ w46 =>
                  J  w46) X)))))))
   (fun  w1 =>
    K (.tuple #[]) w1)
def plan105 : Plan := .seq (.reg (.sq 0 4 .nil)) (.jblock [] [] (.seq (.reg (.op 0 false (.op 1 false .nil))) (.cond (.seq (.reg (.sq 0 12 (.grp 11 true (.sq 12 22 .nil) 34 (.op 35 false .nil)))) (.seq (.reg (.sq 0 19 (.op 19 true (.sq 20 6 .nil)))) (.seq (.seq (.reg (.sq 0 3 .nil)) (.block (.loop [95] [0, 1, 4, 93, 94] (.seq (.reg (.op 0 false .nil)) (.seq (.cond (.leaf) (.leaf)) (.seq (.block (.seq (.reg (.sq 0 5 .nil)) (.reg (.sq 0 8 .nil)))) (.reg (.op 0 false (.op 1 false .nil))))))))) (.reg (.sq 0 6 (.op 6 true (.op 7 false .nil))))))) (.seq (.reg (.op 0 false (.op 1 false .nil))) (.cond (.seq (.reg (.sq 0 7 .nil)) (.seq (.reg (.sq 0 9 .nil)) (.seq (.reg (.sq 0 12 .nil)) (.seq (.seq (.reg (.sq 0 3 (.grp 2 false (.op 3 false (.op 4 false .nil)) 5 .nil))) (.cond (.seq (.reg (.sq 0 3 .nil)) (.leaf)) (.leaf))) (.seq (.reg (.sq 0 11 (.op 11 true (.sq 12 6 .nil)))) (.seq (.seq (.reg (.op 0 false (.op 1 false .nil))) (.block (.loop [171] [0, 1, 10, 11, 170] (.seq (.reg (.op 0 false .nil)) (.seq (.cond (.leaf) (.leaf)) (.seq (.block (.seq (.reg (.op 0 false (.op 1 false .nil))) (.reg (.sq 0 10 .nil)))) (.reg (.op 0 false (.op 1 false .nil))))))))) (.reg (.sq 0 6 (.op 6 true (.op 7 false .nil)))))))))) (.seq (.reg (.op 0 false (.op 1 false .nil))) (.cond (.seq (.reg (.sq 0 11 .nil)) (.seq (.reg (.sq 0 15 .nil)) (.seq (.reg (.sq 0 4 .nil)) (.reg (.sq 0 7 .nil))))) (.seq (.reg (.op 0 false (.op 1 false .nil))) (.cond (.seq (.reg (.sq 0 11 .nil)) (.reg (.sq 0 15 (.op 15 true (.sq 16 5 .nil))))) (.seq (.reg (.op 0 false (.op 1 false .nil))) (.cond (.seq (.reg (.sq 0 11 .nil)) (.seq (.reg (.sq 0 10 (.op 10 true (.op 11 true (.sq 12 6 .nil))))) (.seq (.seq (.reg (.op 0 false (.op 1 false .nil))) (.cond (.seq (.reg (.sq 0 3 .nil)) (.leaf)) (.leaf))) (.reg (.sq 0 7 .nil))))) (.seq (.reg (.op 0 false (.op 1 false .nil))) (.cond (.seq (.reg (.sq 0 11 .nil)) (.seq (.reg (.sq 0 10 (.sq 12 5 (.op 10 true (.op 11 true (.op 17 true (.sq 18 4 .nil))))))) (.cond (.reg (.sq 0 3 .nil)) (.leaf)))) (.reg (.op 0 false (.op 1 false .nil))))))))))))))))
theorem chk105 : chkC Tryz.prog (codeOf Tryz.f105) plan105 = true := by kernel_rfl
theorem n105 {t0 t1 : Value} {w : World} {K : Value → World → Prop} {X : List PanicEntry → World → Prop} (h : N105 t0 t1 w K X) : CAL Tryz.prog 105 #[t0, t1] w K X :=
  cal (args := [t0, t1]) plan105 Tryz.func105 rfl chk105 (by kernel_rfl) (R := N105 t0 t1 w K X) (by kernel_rfl) h

/-- (*bellows/vm.machine).name -/
def N157 (t0 t1 : Value) (w : World) (K : Value → World → Prop) (X : List PanicEntry → World → Prop) : Prop :=
  CAL Tryz.prog 153 #[t1] w (fun t9 w1 =>
    UN .not t9 fun t10 =>
    CND t10 (
      NC t0 fun t13 =>
      FA 6 t13 fun t14 =>
      LD w1.drew t14 fun t15 =>
      CAL Tryz.prog 156 #[t1] w1.drew (fun t17 w2 =>
        (Keeps w1.drew w2 ∧ (
        CAL Tryz.prog 155 #[t15, t17] w2 (fun t18 w3 =>
          EX t18 0 fun t19 =>
          EX t18 1 fun _ =>
          NC t0 fun t22 =>
          FA 0 t22 fun t23 =>
          LD w3 t23 fun t24 =>
          NC t24 fun t25 =>
          FA 1 t25 fun t26 =>
          LD w3 t26 fun t27 =>
          IA 3 t27 t19 fun t29 =>
          FA 2 t29 fun t30 =>
          LD w3 t30 fun t31 =>
          K t31 w3) X))) X) (
      CAL Tryz.prog 154 #[t1] w1 (fun t33 w4 =>
        BIN .int .geq t33 (.int .i64 0) fun t35 =>
        GRP t35 true (.bool false) w4 (fun J =>
          NC t0 fun t39 =>
          FA 0 t39 fun t40 =>
          LD w4 t40 fun t41 =>
          NC t41 fun t42 =>
          FA 3 t42 fun t43 =>
          LD w4 t43 fun t44 =>
          LEN (.sl 1) t44 fun t45 =>
          BIN .int .lss t33 t45 fun t46 =>
          J t46 w4)
         (fun t47 w5 =>
          CND t47 (
            NC t0 fun t49 =>
            FA 0 t49 fun t50 =>
            LD w5 t50 fun t51 =>
            NC t51 fun t52 =>
            FA 3 t52 fun t53 =>
            LD w5 t53 fun t54 =>
            IA 1 t54 t33 fun t56 =>
            LD w5 t56 fun t57 =>
            K t57 w5) (
            K (.string ⟨#[]⟩) w5))) X)) X
def plan157 : Plan := .seq (.reg (.op 0 false .nil)) (.seq (.seq (.reg (.sq 0 3 .nil)) (.cond (.seq (.reg (.sq 0 5 (.op 5 true (.sq 6 6 .nil)))) (.seq (.reg (.sq 0 12 .nil)) (.leaf))) (.leaf))) (.seq (.seq (.reg (.sq 0 3 .nil)) (.seq (.reg (.sq 0 3 (.grp 2 true (.sq 3 10 .nil) 13 .nil))) (.cond (.seq (.reg (.sq 0 11 .nil)) (.leaf)) (.leaf)))) (.seq (.reg (.op 0 false .nil)) (.leaf))))
theorem chk157 : chkC Tryz.prog (codeOf Tryz.f157) plan157 = true := by kernel_rfl
theorem n157 {t0 t1 : Value} {w : World} {K : Value → World → Prop} {X : List PanicEntry → World → Prop} (h : N157 t0 t1 w K X) : CAL Tryz.prog 157 #[t0, t1] w K X :=
  cal (args := [t0, t1]) plan157 Tryz.func157 rfl chk157 (by kernel_rfl) (R := N157 t0 t1 w K X) (by kernel_rfl) h

/-- (*bellows/vm.machine).make -/
def N163 (t0 t1 t2 t3 t4 : Value) (w : World) (K : Value → World → Prop) (X : List PanicEntry → World → Prop) : Prop :=
  NC t0 fun t20 =>
  FA 6 t20 fun t21 =>
  LD w t21 fun t22 =>
  CAL Tryz.prog 203 #[t22, t1, t2] w (fun t25 w1 =>
    EX t25 0 fun t26 =>
    EX t25 1 fun t27 =>
    BIN .int .eql t27 (.int .i64 0) fun t30 =>
    CAL Tryz.prog 56 #[t0, t30] w1 (fun _ w2 =>
      CAL Tryz.prog 104 #[t0, t3] w2 (fun _ w3 =>
        NC t0 fun t36 =>
        FA 10 t36 fun t37 =>
        LD w3 t37 fun t38 =>
        NC t0 fun t40 =>
        FA 10 t40 fun t41 =>
        LD w3 t41 fun t42 =>
        BIN .int .add t42 (.int .i64 1) fun t43 =>
        NC t0 fun t44 =>
        FA 10 t44 fun t45 =>
        ST 1 w3 t45 t43 fun w4 =>
        NC t0 fun t48 =>
        FA 1 t48 fun t49 =>
        FA 4 t49 fun t50 =>
        LD w4 t50 fun t51 =>
        LEN (.sl 1) t51 fun t52 =>
        BIN .int .lss t38 t52 fun t53 =>
        GRP t53 true (.bool false) w4 (fun J =>
          NC t0 fun t56 =>
          FA 1 t56 fun t57 =>
          FA 4 t57 fun t58 =>
          LD w4 t58 fun t59 =>
          IA 1 t59 t38 fun t61 =>
          LD w4 t61 fun t62 =>
          J t62 w4)
         (fun t63 w5 =>
          JOIN (fun (J_1 : Value → World → Prop) =>
            CND t63 (
              CAL Tryz.prog 204 #[t0, t4] w5 (fun t67 w7 =>
                J_1 t67 w7) X) (
              J_1 t4 w5))
           (fun t4_1 w6 =>
            JOIN (fun (J_2 : Value → World → Prop) =>
              NC t0 fun t70 =>
              FA 6 t70 fun t71 =>
              LD w6.drew t71 fun t72 =>
              NC t0 fun t75 =>
              FA 6 t75 fun t76 =>
              LD w6.drew t76 fun t77 =>
              CAL Tryz.prog 205 #[t72] w6.drew (fun t73 w9 =>
                (Keeps w6.drew w9 ∧ (
                CAL Tryz.prog 206 #[t77] w9 (fun t78 w10 =>
                  BIN .int .sub t73 t78 fun t79 =>
                  BIN .int .gtr t26 t79 fun t80 =>
                  CND t80 (
                    JOIN (fun (J_3 : Value → World → Prop) =>
                      UN .not t63 fun t82 =>
                      CND t82 (
                        CAL Tryz.prog 204 #[t0, t4_1] w10 (fun t85 w12 =>
                          J_3 t85 w12) X) (
                        J_3 t4_1 w10))
                     (fun t4_3 w11 =>
                      NC t0 fun t88 =>
                      FA 6 t88 fun t89 =>
                      LD w11.drew t89 fun t90 =>
                      NC t0 fun t93 =>
                      FA 6 t93 fun t94 =>
                      LD w11.drew t94 fun t95 =>
                      CAL Tryz.prog 205 #[t90] w11.drew (fun t91 w13 =>
                        (Keeps w11.drew w13 ∧ (
                        CAL Tryz.prog 206 #[t95] w13 (fun t96 w14 =>
                          BIN .int .sub t91 t96 fun t97 =>
                          BIN .int .gtr t26 t97 fun t98 =>
                          CND t98 (
                            CAL Tryz.prog 60 #[t0, (.int .i64 4)] w14 (fun _ w15 =>
                              J_2 t4_3 w15) X) (
                            J_2 t4_3 w14)) X))) X)) (
                    J_2 t4_1 w10)) X))) X)
             (fun t4_2 w8 =>
              NC t0 fun t103 =>
              FA 6 t103 fun t104 =>
              LD w8 t104 fun t105 =>
              CAL Tryz.prog 207 #[t105, t1, t2] w8 (fun t108 w16 =>
                EX t108 0 fun t109 =>
                EX t108 1 fun _ =>
                K (.tuple #[t109, t4_2]) w16) X)))) X) X) X
def plan163 : Plan := .seq (.reg (.op 0 false (.op 1 false .nil))) (.seq (.reg (.sq 0 12 .nil)) (.seq (.reg (.sq 0 4 .nil)) (.seq (.reg (.sq 0 3 .nil)) (.seq (.reg (.sq 0 5 .nil)) (.seq (.reg (.sq 0 8 .nil)) (.seq (.reg (.sq 0 9 (.grp 8 true (.sq 9 8 .nil) 17 (.op 18 false .nil)))) (.jseq [4] [0, 1, 2, 12, 15] (.seq (.reg (.op 0 false .nil)) (.cond (.reg (.sq 0 4 .nil)) (.leaf))) (.jseq [4] [0, 1, 2] (.seq (.reg (.sq 0 5 (.sq 6 4 (.op 5 true (.sq 10 3 .nil))))) (.cond (.jseq [4] [0, 1, 2, 12] (.seq (.reg (.op 0 false (.op 1 false .nil))) (.cond (.reg (.sq 0 4 .nil)) (.leaf))) (.seq (.reg (.sq 0 5 (.sq 6 4 (.op 5 true (.sq 10 3 .nil))))) (.cond (.reg (.op 0 false (.op 1 false .nil))) (.leaf)))) (.leaf))) (.seq (.reg (.sq 0 12 .nil)) (.seq (.reg (.sq 0 4 .nil)) (.leaf)))))))))))
theorem chk163 : chkC Tryz.prog (codeOf Tryz.f163) plan163 = true := by kernel_rfl
theorem n163 {t0 t1 t2 t3 t4 : Value} {w : World} {K : Value → World → Prop} {X : List PanicEntry → World → Prop} (h : N163 t0 t1 t2 t3 t4 w K X) : CAL Tryz.prog 163 #[t0, t1, t2, t3, t4] w K X :=
  cal (args := [t0, t1, t2, t3, t4]) plan163 Tryz.func163 rfl chk163 (by kernel_rfl) (R := N163 t0 t1 t2 t3 t4 w K X) (by kernel_rfl) h

/-- (*bellows/vm.machine).object -/
def N166 (t0 t1 t2 t3 : Value) (w : World) (K : Value → World → Prop) (X : List PanicEntry → World → Prop) : Prop :=
  CAL Tryz.prog 95 #[t0, t1] w (fun t16 w1 =>
    NC t16 fun t17 =>
    LD w1 t17 fun t18 =>
    CAL Tryz.prog 153 #[t18] w1 (fun t21 w2 =>
      UN .not t21 fun t22 =>
      CAL Tryz.prog 56 #[t0, t22] w2 (fun _ w3 =>
        CAL Tryz.prog 156 #[t18] w3 (fun t25 w4 =>
          NC t0 fun t28 =>
          FA 6 t28 fun t29 =>
          LD w4 t29 fun t30 =>
          CAL Tryz.prog 155 #[t30, t25] w4 (fun t32 w5 =>
            EX t32 0 fun t33 =>
            EX t32 1 fun _ =>
            NC t0 fun t36 =>
            FA 6 t36 fun t37 =>
            LD w5 t37 fun t38 =>
            CAL Tryz.prog 101 #[t38, t33] w5 (fun t40 w6 =>
              BIN .int .eql t40 t2 fun t44 =>
              GRP t44 false (.bool true) w6 (fun J =>
                BIN .int .eql t40 t3 fun t48 =>
                J t48 w6)
               (fun t49 w7 =>
                CAL Tryz.prog 56 #[t0, t49] w7 (fun _ w8 =>
                  NC t0 fun t53 =>
                  FA 6 t53 fun t54 =>
                  LD w8 t54 fun t55 =>
                  CAL Tryz.prog 209 #[t55, t25] w8 (fun t57 w9 =>
                    EX t57 0 fun t58 =>
                    EX t57 1 fun _ =>
                    K (.tuple #[t25, t58]) w9) X) X)) X) X) X) X) X) X
def plan166 : Plan := .seq (.reg (.op 0 false (.op 1 false .nil))) (.seq (.reg (.sq 0 6 .nil)) (.seq (.reg (.sq 0 5 .nil)) (.seq (.reg (.sq 0 3 .nil)) (.seq (.reg (.sq 0 11 .nil)) (.seq (.reg (.sq 0 7 .nil)) (.seq (.reg (.sq 0 5 (.grp 4 false (.sq 5 3 .nil) 8 (.op 9 false .nil)))) (.seq (.reg (.sq 0 10 .nil)) (.seq (.reg (.sq 0 4 .nil)) (.leaf)))))))))
theorem chk166 : chkC Tryz.prog (codeOf Tryz.f166) plan166 = true := by kernel_rfl
theorem n166 {t0 t1 t2 t3 : Value} {w : World} {K : Value → World → Prop} {X : List PanicEntry → World → Prop} (h : N166 t0 t1 t2 t3 w K X) : CAL Tryz.prog 166 #[t0, t1, t2, t3] w K X :=
  cal (args := [t0, t1, t2, t3]) plan166 Tryz.func166 rfl chk166 (by kernel_rfl) (R := N166 t0 t1 t2 t3 w K X) (by kernel_rfl) h

/-- bellows/vm.index -/
def N168 (t0 : Value) (w : World) (K : Value → World → Prop) (_X : List PanicEntry → World → Prop) : Prop :=
  BIN .int .lss t0 (.int .i64 0) fun t4 =>
  GRP t4 false (.bool true) w (fun J =>
    BIN .int .gtr t0 (.int .i64 65536) fun t7 =>
    J t7 w)
   (fun t8 w1 =>
    CND t8 (
      K (.int .i64 (-1)) w1) (
      K t0 w1))
def plan168 : Plan := .seq (.reg (.op 0 false .nil)) (.seq (.seq (.reg (.sq 0 3 (.grp 2 false (.op 3 false (.op 4 false .nil)) 5 .nil))) (.cond (.seq (.reg (.op 0 false .nil)) (.leaf)) (.leaf))) (.seq (.reg (.op 0 false (.op 1 false .nil))) (.leaf)))
theorem chk168 : chkC Tryz.prog (codeOf Tryz.f168) plan168 = true := by kernel_rfl
theorem n168 {t0 : Value} {w : World} {K : Value → World → Prop} {X : List PanicEntry → World → Prop} (h : N168 t0 w K X) : CAL Tryz.prog 168 #[t0] w K X :=
  cal (args := [t0]) plan168 Tryz.func168 rfl chk168 (by kernel_rfl) (R := N168 t0 w K X) (by kernel_rfl) h

/-- strings.Compare -/
def N170 (t0 t1 : Value) (w : World) (K : Value → World → Prop) (X : List PanicEntry → World → Prop) : Prop :=
  CAL Tryz.prog 211 #[t0, t1] w (fun t7 w1 =>
    K t7 w1) X
def plan170 : Plan := .seq (.reg (.op 0 false .nil)) (.seq (.reg (.sq 0 4 .nil)) (.leaf))
theorem chk170 : chkC Tryz.prog (codeOf Tryz.f170) plan170 = true := by kernel_rfl
theorem n170 {t0 t1 : Value} {w : World} {K : Value → World → Prop} {X : List PanicEntry → World → Prop} (h : N170 t0 t1 w K X) : CAL Tryz.prog 170 #[t0, t1] w K X :=
  cal (args := [t0, t1]) plan170 Tryz.func170 rfl chk170 (by kernel_rfl) (R := N170 t0 t1 w K X) (by kernel_rfl) h

/-- internal/bytealg.CompareString -/
def N211 (t0 t1 : Value) (w : World) (K : Value → World → Prop) (_X : List PanicEntry → World → Prop) : Prop :=
  XCAL Tryz.prog 223 #[t0, t1] w fun t7 w1 =>
    K t7 w1
def plan211 : Plan := .seq (.reg (.op 0 false .nil)) (.seq (.reg (.sq 0 4 .nil)) (.leaf))
theorem chk211 : chkC Tryz.prog (codeOf Tryz.f211) plan211 = true := by kernel_rfl
theorem n211 {t0 t1 : Value} {w : World} {K : Value → World → Prop} {X : List PanicEntry → World → Prop} (h : N211 t0 t1 w K X) : CAL Tryz.prog 211 #[t0, t1] w K X :=
  cal (args := [t0, t1]) plan211 Tryz.func211 rfl chk211 (by kernel_rfl) (R := N211 t0 t1 w K X) (by kernel_rfl) h

end Go.Proofs.YtgnfodphfgmdlaaGreat
/- Worlds that only grow; the machine of package vm in memory. -/
namespace Go.GX
open Go

/-- The second world has all blocks of the first one as they were. -/
structure Ext (w w' : World) : Prop where
  size : w.heap.size ≤ w'.heap.size
  same : ∀ i, i < w.heap.size → w'.heap[i]? = w.heap[i]?

theorem Ext.refl (w : World) : Ext w w := ⟨Nat.le_refl _, fun _ _ => rfl⟩
theorem Ext.trans {a b c : World} (h : Ext a b) (h' : Ext b c) : Ext a c :=
  ⟨Nat.le_trans h.size h'.size, fun i hi => by rw [h'.same i (Nat.lt_of_lt_of_le hi h.size), h.same i hi]⟩
theorem Ext.drew {a b : World} (h : Ext a b) : Ext a b.drew := ⟨h.size, h.same⟩
theorem Ext.of_drew {a b : World} (h : Ext a.drew b) : Ext a b := ⟨h.size, h.same⟩
theorem Ext.alloc {a b : World} (h : Ext a b) (o : Obj) : Ext a (b.alloc o) :=
  ⟨by simp; have := h.size; omega, fun i hi => by
    have := h.size
    simp only [World.alloc, Array.getElem?_push]
    rw [if_neg (by omega), h.same i hi]⟩
theorem Ext.block {a b : World} (h : Ext a b) {i : Nat} {o : Obj} (ho : a.heap[i]? = some o) : b.heap[i]? = some o := by
  rw [h.same i (Array.getElem?_eq_some_iff.1 ho).1]; exact ho
theorem cell_block {w : World} {a : Addr} {v : Value} (h : w.cell? a = some v) : a.block < w.heap.size := by
  unfold World.cell? at h
  split at h
  · rename_i hb; exact (Array.getElem?_eq_some_iff.1 hb).1
  · cases h
theorem Ext.cell {a b : World} (h : Ext a b) {x : Addr} {v : Value} (hx : a.cell? x = some v) : b.cell? x = some v := by
  unfold World.cell? at *
  rw [h.same x.block (cell_block (by unfold World.cell?; exact hx))]; exact hx
theorem Ext.keeps {a b : World} (h : Ext a b) : Keeps a b := fun _ _ hx => h.cell hx
theorem Ext.setCell {a b : World} (h : Ext a b) {x : Addr} (hx : a.heap.size ≤ x.block) (v : Value) : Ext a (b.setCell x v) :=
  ⟨by simpa using h.size, fun i hi => by
    simp only [World.setCell]
    rw [Array.getElem?_modify, if_neg (by omega), h.same i hi]⟩

/-- A block whose cells are known. -/
def Blk (w : World) (b : Nat) (t : TypeId) (cs : List Value) : Prop := w.heap[b]? = some (.cells cs.toArray t (0, 0))

theorem Blk.cell {w : World} {b : Nat} {t : TypeId} {cs : List Value} (h : Blk w b t cs) (o : Nat) : w.cell? ⟨b, o, none⟩ = cs[o]? := by
  unfold Blk at h; simp [World.cell?, h]
theorem Blk.frozen {w : World} {b : Nat} {t : TypeId} {cs : List Value} (h : Blk w b t cs) (o : Nat) : w.frozen? ⟨b, o, none⟩ = false := by
  unfold Blk at h; simp [World.frozen?, h]
theorem Blk.lt {w : World} {b : Nat} {t : TypeId} {cs : List Value} (h : Blk w b t cs) : b < w.heap.size := (Array.getElem?_eq_some_iff.1 h).1
theorem Blk.ext {w w' : World} {b : Nat} {t : TypeId} {cs : List Value} (h : Blk w b t cs) (e : Ext w w') : Blk w' b t cs := e.block h
theorem Blk.set {w : World} {b o : Nat} {t : TypeId} {cs : List Value} (h : Blk w b t cs) (v : Value) : Blk (w.setCell ⟨b, o, none⟩ v) b t (cs.set o v) := by
  unfold Blk at *
  simp only [World.setCell, Array.getElem?_modify, if_true, h]
  simp
theorem Blk.other {w : World} {b : Nat} {t : TypeId} {cs : List Value} (h : Blk w b t cs) {x : Addr} (hx : x.block ≠ b) (v : Value) : Blk (w.setCell x v) b t cs := by
  unfold Blk at *
  simp only [World.setCell]
  rw [Array.getElem?_modify, if_neg hx]; exact h
theorem Blk.new (w : World) (t : TypeId) (cs : List Value) : Blk (w.alloc (.cells cs.toArray t)) w.heap.size t cs := by
  unfold Blk World.alloc
  simp

theorem wrCells_one {w : World} {b o : Nat} {t : TypeId} {cs : List Value} (h : Blk w b t cs) (ho : o < cs.length) {v : Value} (hv : v.oneCell' = true) :
    wrCells w ⟨b, o, none⟩ [v] 0 = some (w.setCell ⟨b, o, none⟩ v) := by
  have h1 : w.cell? ⟨b, o, none⟩ = some cs[o] := by rw [h.cell, List.getElem?_eq_getElem ho]
  simp [wrCells, Addr.add, h1, h.frozen, hv]

/-- A store of one cell into a known block. -/
theorem ST_one {w : World} {b o : Nat} {t : TypeId} {cs : List Value} (h : Blk w b t cs) (ho : o < cs.length) {v : Value} (hc : v.cells = #[v]) (hv : v.oneCell' = true) {K : World → Prop}
    (hK : K (w.setCell ⟨b, o, none⟩ v)) : ST 1 w (.pointer (some ⟨b, o, none⟩)) v K := by
  unfold ST STO
  rw [hc]
  refine ⟨rfl, ?_⟩
  show (match wrCells w ⟨b, o, none⟩ [v] 0 with | some w' => K w' | none => False)
  rw [wrCells_one h ho hv]; exact hK

theorem LD_blk {w : World} {b o : Nat} {t : TypeId} {cs : List Value} (h : Blk w b t cs) {v : Value} (hv : cs[o]? = some v) {K : Value → Prop} (hK : K v) : LD w (.pointer (some ⟨b, o, none⟩)) K := by
  rw [LD_some (by rw [h.cell]; exact hv)]; exact hK

end Go.GX

namespace Go.Proofs.YtgnfodphfgmdlaaGreat
open Go Go.GX

/-- What 'end' throws. -/
def over (k : Int) : List PanicEntry := [{ v := .iface 80 (.agg #[.int .i64 k]), recovered := false }]

theorem bld80 (v : Value) (h : v.cells = #[v]) (K : Value → Prop) : BLD Tryz.prog 80 [(0, v)] K = K (.agg #[v]) := by
  have : bldP Tryz.prog 80 = some (.fields [(0, 1)] [.int .i64 0]) := by kernel_rfl
  simp [BLD, this, buildV, fillL, h, setRange]

section
variable {w : World} {K : Value → World → Prop} {X : List PanicEntry → World → Prop}

theorem c60 (v : Value) (k : Int) (h : X (over k) w) : CAL Tryz.prog 60 #[v, .int .i64 k] w K X := n60 <| by
  unfold N60
  rw [bld80 _ rfl]; exact h

theorem c56 (v : Value) (b : Bool) (ht : b = true → K (.tuple #[]) w) (hf : b = false → X (over 6) w) : CAL Tryz.prog 56 #[v, .bool b] w K X := n56 <| by
  unfold N56
  rw [UN_not, CND_bool]
  cases b with
  | true => exact ht rfl
  | false => exact c60 _ _ (hf rfl)
end

end Go.Proofs.YtgnfodphfgmdlaaGreat
/- The machine of package vm as plain functions on lists: what a run of an image does, step by step. -/
namespace Go.GX
open Go

structure InstrS where
  op : Int
  d : Int
  a : Int
  b : Int
  c : Int
  n : Int
  l : List Int
  m : List Int
  live : List Int
  deriving DecidableEq

structure BlockS where
  inn : List Int
  code : List InstrS
  deriving DecidableEq

structure FuncS where
  params : List Int
  result : Int
  slots : Int
  blocks : List BlockS
  deriving DecidableEq

structure TypeS where
  imm : Bool
  shapes : List Int
  deriving DecidableEq

structure ShapeS where
  kind : Int
  fields : List Int
  name : ByteArray

structure ImageS where
  types : List TypeS
  shapes : List ShapeS
  strings : List ByteArray
  names : List ByteArray
  funcs : List FuncS
  main : Int
  exn : Int

/-- A frame: its function, the place in it, the slots' words. -/
structure Fr where
  fn : FuncS
  block : Int
  pos : Int
  slots : List Nat

/-- A heap: its words, where heads stand, its layouts (kind and number of fields), its top. -/
structure Hp where
  words : List Nat
  objs : List Nat
  lays : List (Int × Int)
  top : Nat

/-- The machine; the frame that runs is the first one. -/
structure Vm where
  frs : List Fr
  words : Int
  inp : Int
  made : Int
  kind : Int
  output : List Nat
  exn : ByteArray
  steps : Int
  swept : Int
  hp : Hp

/-- What a run is given: image and script (within its limits); what a collection does. -/
structure Cx where
  im : ImageS
  input : List Nat
  fuel : Int
  heap : Int
  stack : Int
  collect : List Bool
  gc : Hp → List Nat → Option (Hp × List Nat)

/-- What comes of a part of a step: it goes on, the run is over (with this kind), or nothing is said. -/
inductive Res (α : Type) where
  | ok (a : α) (s : Vm)
  | stop (k : Int) (s : Vm)
  | bad

def Res.bind {α β : Type} (r : Res α) (f : α → Vm → Res β) : Res β :=
  match r with
  | .ok a s => f a s
  | .stop k s => .stop k s
  | .bad => .bad

@[simp] theorem Res.bind_ok {α β : Type} (a : α) (s : Vm) (f : α → Vm → Res β) : (Res.ok a s).bind f = f a s := rfl
@[simp] theorem Res.bind_stop {α β : Type} (k : Int) (s : Vm) (f : α → Vm → Res β) : (Res.stop k s).bind f = .stop k s := rfl
@[simp] theorem Res.bind_bad {α β : Type} (f : α → Vm → Res β) : (Res.bad : Res α).bind f = .bad := rfl

/-- An element by an int. -/
def nth {α : Type} (l : List α) (i : Int) : Option α := if 0 ≤ i then l[i.toNat]? else none

def mustP (b : Bool) (s : Vm) : Res Unit := if b = true then .ok () s else .stop 6 s

/-- -1, 0 or 1, as bytes are less, the same, or more. -/
def cmpP : List Nat → List Nat → Int
  | [], [] => 0
  | [], _ :: _ => -1
  | _ :: _, [] => 1
  | a :: l, b :: m => if a < b then -1 else if b < a then 1 else cmpP l m

/-- A string's bytes. -/
def bytesOf (s : ByteArray) : List Nat := s.data.toList.map (·.toNat)

/-! ### The heap -/

def isP (h : Hp) (x : Int) : Bool := decide (0 ≤ x) && decide (x < h.top) && decide (x.toNat ∈ h.objs)
def fitsP (h : Hp) (w : Nat) : Bool := decide (w % 2 = 1) || isP h (w / 2 : Nat)
def kindP (h : Hp) (shape : Int) : Int := match nth h.lays shape with | some l => l.1 | none => 0
def wordP (h : Hp) (i : Int) : Nat := (h.words[i.toNat]?).getD 0
def shapeP (h : Hp) (x : Int) : Int := if isP h x then (wShape (wordP h x) : Nat) else 0
def lenP (h : Hp) (x : Int) : Int := if isP h x then (wLen (wordP h x) : Nat) else 0
/-- How many words; else an error's number. -/
def needL (lays : List (Int × Int)) (shape n : Int) : Int ⊕ Int :=
  if n < 0 then .inr 1 else
  match nth lays shape with
  | none => .inr 1
  | some l =>
    if l.1 = 1 ∧ n ≠ l.2 then .inr 1
    else if n > 65536 then .inr 2
    else if l.1 = 3 then .inl (1 + (n + 7) / 8) else .inl (1 + n)
def needP (h : Hp) (shape n : Int) : Int ⊕ Int := needL h.lays shape n
def hasP (h : Hp) (x i : Int) (bytes : Bool) : Bool :=
  isP h x && (decide (kindP h (wShape (wordP h x) : Nat) = 3) == bytes) && decide (0 ≤ i) && decide (i < (wLen (wordP h x) : Nat))
def loadP (h : Hp) (x i : Int) : Option Nat := if hasP h x i false then some (wordP h (x + 1 + i)) else none
def storeP (h : Hp) (x i : Int) (w : Nat) : Option Hp :=
  if hasP h x i false && fitsP h w then some { h with words := h.words.set (x + 1 + i).toNat w } else none
def bOf (w : Nat) (i : Int) : Nat := w / 2 ^ (i % 8 * 8).toNat % 256
def byteP (h : Hp) (x i : Int) : Option Nat := if hasP h x i true then some (bOf (wordP h (x + 1 + i / 8)) i) else none
def withByte (w : Nat) (i : Int) (b : Nat) : Nat := w - bOf w i * 2 ^ (i % 8 * 8).toNat + b * 2 ^ (i % 8 * 8).toNat
def setByteP (h : Hp) (x i : Int) (b : Nat) : Hp :=
  if hasP h x i true then { h with words := h.words.set (x + 1 + i / 8).toNat (withByte (wordP h (x + 1 + i / 8)) i b) } else h
def textP (h : Hp) (x : Int) : List Nat :=
  if isP h x && decide (kindP h (wShape (wordP h x) : Nat) = 3) then (List.range (wLen (wordP h x))).map fun i => bOf (wordP h (x + 1 + (i / 8 : Nat))) i else []
/-- An object behind all others, where there is room for it. -/
def allocP (h : Hp) (shape n need : Int) : Hp :=
  { h with
    words := if kindP h shape = 3 then h.words.set h.top (wHead shape.toNat n.toNat)
             else (h.words.take h.top) ++ (wHead shape.toNat n.toNat :: List.replicate n.toNat 1) ++ h.words.drop (h.top + 1 + n.toNat)
    objs := h.objs ++ [h.top], top := h.top + need.toNat }
def setsP (h : Hp) (x : Int) : List Nat → Int → Hp
  | [], _ => h
  | w :: ws, i => setsP ((storeP h x i w).getD h) x ws (i + 1)
def bytesP (h : Hp) (x : Int) : List Nat → Int → Hp
  | [], _ => h
  | b :: bs, i => bytesP (setByteP h x i b) x bs (i + 1)

/-! ### Frames and slots -/

def getP (i : Int) (s : Vm) : Res Nat :=
  match s.frs with
  | [] => .bad
  | f :: _ => match nth f.slots i with
    | some x => .ok x s
    | none => .stop 6 s

def setP (i : Int) (x : Nat) (s : Vm) : Res Unit :=
  match s.frs with
  | [] => .bad
  | f :: fs => match nth f.slots i with
    | some _ => .ok () { s with frs := { f with slots := f.slots.set i.toNat x } :: fs }
    | none => .stop 6 s

def setIntP (i n : Int) (s : Vm) : Res Unit := setP i (wImm n) s

def numP (i : Int) (s : Vm) : Res Int := (getP i s).bind fun x s => if x % 2 = 1 then .ok (wInt x) s else .stop 6 s

def objectP (i kind other : Int) (s : Vm) : Res (Int × Int) := (getP i s).bind fun x s =>
  if x % 2 = 1 then .stop 6 s else
  if kindP s.hp (shapeP s.hp (x / 2 : Nat)) = kind ∨ kindP s.hp (shapeP s.hp (x / 2 : Nat)) = other then .ok ((x / 2 : Nat), lenP s.hp (x / 2 : Nat)) s else .stop 6 s

def readP : List Int → Vm → Res (List Nat)
  | [], s => .ok [] s
  | i :: is, s => (getP i s).bind fun x s => (readP is s).bind fun xs s => .ok (x :: xs) s

/-- The slots that live, in a row where all others are 0. -/
def keepL (old : List Nat) : List Int → List Nat → Option (List Nat)
  | [], acc => some acc
  | i :: is, acc => match nth old i with
    | some x => keepL old is (acc.set i.toNat x)
    | none => none

def keepP (live : List Int) (s : Vm) : Res Unit :=
  match s.frs with
  | [] => .bad
  | f :: fs => match keepL f.slots live (List.replicate f.slots.length 1) with
    | some l => .ok () { s with frs := { f with slots := l } :: fs }
    | none => .stop 6 s

def callP (c : Cx) (f : Int) (args : List Nat) (s : Vm) : Res Unit :=
  match nth c.im.funcs f with
  | none => .stop 6 s
  | some x =>
    if (args.length : Int) ≤ x.slots ∧ args.length = x.params.length ∧ x.blocks ≠ [] then
      if s.words + x.slots + 2 > c.stack then .stop 5 s
      else .ok () { s with words := s.words + (x.slots + 2), frs := { fn := x, block := 0, pos := 0, slots := args ++ List.replicate (x.slots.toNat - args.length) 1 } :: s.frs }
    else .stop 6 s

def popP (s : Vm) : Res Unit :=
  match s.frs with
  | [] => .bad
  | f :: fs => .ok () { s with words := s.words - (f.fn.slots + 2), frs := fs }

/-- The call that a frame waits for. -/
def pendingP (f : Fr) : Option InstrS :=
  match nth f.fn.blocks f.block with
  | some b => nth b.code (f.pos - 1)
  | none => none

def jumpP (block : Int) (s : Vm) : Res Unit :=
  match s.frs with
  | [] => .bad
  | f :: fs => .ok () { s with frs := { f with block := block, pos := 0 } :: fs }

def nameP (c : Cx) (x : Nat) (s : Vm) : ByteArray :=
  if x % 2 = 1 then (nth c.im.names (wInt x)).getD ByteArray.empty
  else ((nth c.im.shapes (shapeP s.hp (x / 2 : Nat))).map (·.name)).getD ByteArray.empty

/-- What is thrown, with the frames behind the one that threw. -/
def unwindP (c : Cx) (x : Nat) (s : Vm) : List Fr → Int → Res Unit
  | [], n => .stop 2 { s with frs := [], words := n, exn := nameP c x s }
  | f :: fs, n => match pendingP f with
    | none => .bad
    | some i =>
      if i.b = -1 then unwindP c x s fs (n - (f.fn.slots + 2))
      else (setP i.c x { s with frs := f :: fs, words := n }).bind fun _ s => jumpP i.b s

def throwP (c : Cx) (x : Nat) (s : Vm) : Res Unit := (popP s).bind fun _ s => unwindP c x s s.frs s.words

/-! ### Memory -/

def fillFrs : List Fr → List Nat → List Fr × List Nat
  | [], r => ([], r)
  | f :: fs, r =>
    let (gs, r') := fillFrs fs r
    ({ f with slots := r'.take f.slots.length } :: gs, r'.drop f.slots.length)

/-- The roots: the slots of all frames, the oldest frame first, and what is held beside. -/
def rootsP (s : Vm) (held : List Nat) : List Nat := (s.frs.reverse.flatMap (·.slots)) ++ held

def sweepP (c : Cx) (held : List Nat) (s : Vm) : Res (List Nat) :=
  if (rootsP s held).all (fitsP s.hp) then
    match c.gc s.hp (rootsP s held) with
    | none => .bad
    | some (h, r) =>
      let (fs, rest) := fillFrs s.frs r
      .ok rest { s with hp := h, frs := fs, swept := s.swept + 1 }
  else .stop 6 s

def makeP (c : Cx) (shape n : Int) (live : List Int) (held : List Nat) (s : Vm) : Res (Int × List Nat) :=
  match needP s.hp shape n with
  | .inr _ => .stop 6 s
  | .inl need => (keepP live s).bind fun _ s =>
    let swept := (nth c.collect s.made).getD false
    (if swept then sweepP c held { s with made := s.made + 1 } else .ok held { s with made := s.made + 1 }).bind fun held s =>
    (if need > s.hp.words.length - s.hp.top then
      (if swept then .ok held s else sweepP c held s).bind fun held s =>
        if need > s.hp.words.length - s.hp.top then .stop 4 s else .ok held s
     else .ok held s).bind fun held s =>
    .ok (s.hp.top, held) { s with hp := allocP s.hp shape n need }

def textM (c : Cx) (x : InstrS) (t : List Nat) (s : Vm) : Res Unit :=
  (makeP c 0 t.length x.live [] s).bind fun p s => setP x.d (2 * p.1.toNat) { s with hp := bytesP s.hp p.1 t 0 }

/-! ### Instructions -/

def primP (x : InstrS) (s : Vm) : Res (Int × Bool) := (numP x.a s).bind fun a s => (numP x.b s).bind fun b s =>
  if x.n = 1 then .ok (wWrap (a + b), true) s
  else if x.n = 2 then .ok (wWrap (a - b), true) s
  else if x.n = 3 then .ok (wWrap (a * b), true) s
  else if x.n = 4 then (if b = 0 then .ok (0, false) s else .ok (wWrap (wQuo a b), true) s)
  else if x.n = 5 then (if b = 0 then .ok (0, false) s else .ok (wWrap (wRem a b), true) s)
  else if x.n = 6 then .ok (if a < b then 1 else 0, true) s
  else if x.n = 7 then .ok (if a ≤ b then 1 else 0, true) s
  else if x.n = 8 then .ok (if a = b then 1 else 0, true) s
  else .stop 6 s

def indexP (n : Int) : Int := if n < 0 ∨ n > 65536 then -1 else n

def bytesM (c : Cx) (x : InstrS) (s : Vm) : Res Unit :=
  if x.op = 11 then (objectP x.a 2 3 s).bind fun p s => setIntP x.d p.2 s
  else (objectP x.a 3 3 s).bind fun p s =>
  if x.op = 12 then (numP x.b s).bind fun n s =>
    match byteP s.hp p.1 (indexP n) with
    | none => throwP c (wImm 2) s
    | some b => setIntP x.d b s
  else (objectP x.b 3 3 s).bind fun q s =>
  if x.op = 14 then setIntP x.d (cmpP (textP s.hp p.1) (textP s.hp q.1)) s
  else if kindP s.hp 0 = 3 then
    if (textP s.hp p.1).length + (textP s.hp q.1).length > 65536 then throwP c (wImm 3) s
    else textM c x (textP s.hp p.1 ++ textP s.hp q.1) s
  else .stop 6 s

def fieldsM (c : Cx) (x : InstrS) (s : Vm) : Res Unit :=
  if x.op = 5 then
    if kindP s.hp x.a = 1 ∧ (nth c.im.shapes (max 0 x.a)).map (·.fields.length) = some x.l.length then
      (readP x.l s).bind fun held s => (makeP c x.a x.l.length x.live held s).bind fun p s =>
        setP x.d (2 * p.1.toNat) { s with hp := setsP s.hp p.1 p.2 0 }
    else .stop 6 s
  else if x.op = 8 then
    (numP x.b s).bind fun n s => (getP x.c s).bind fun w s =>
    if kindP s.hp x.a = 2 then
      if n < 0 ∨ n > 65536 then throwP c (wImm 3) s
      else (makeP c x.a n x.live [w] s).bind fun p s =>
        match p.2 with
        | v :: _ => setP x.d (2 * p.1.toNat) { s with hp := setsP s.hp p.1 (List.replicate n.toNat v) 0 }
        | [] => .bad
    else .stop 6 s
  else if x.op = 6 then (objectP x.a 1 1 s).bind fun p s =>
    match loadP s.hp p.1 x.b with
    | some w => setP x.d w s
    | none => .stop 6 s
  else if x.op = 7 then (objectP x.a 1 1 s).bind fun p s => (getP x.c s).bind fun w s =>
    match storeP s.hp p.1 x.b w with
    | some h => .ok () { s with hp := h }
    | none => .stop 6 s
  else if x.op = 9 then (objectP x.a 2 2 s).bind fun p s => (numP x.b s).bind fun n s =>
    match loadP s.hp p.1 (indexP n) with
    | some w => setP x.d w s
    | none => throwP c (wImm 2) s
  else if x.op = 10 then (objectP x.a 2 2 s).bind fun p s => (numP x.b s).bind fun n s => (getP x.c s).bind fun w s =>
    match storeP s.hp p.1 (indexP n) w with
    | some h => .ok () { s with hp := h }
    | none => throwP c (wImm 2) s
  else .stop 6 s

def instrP (c : Cx) (x : InstrS) (s : Vm) : Res Unit :=
  if x.op = 1 then setIntP x.d x.n s
  else if x.op = 3 then (getP x.a s).bind fun w s => setP x.d w s
  else if x.op = 4 then (primP x s).bind fun p s => if p.2 then setIntP x.d p.1 s else throwP c (wImm 1) s
  else if x.op = 15 then match nth c.input s.inp with
    | some b => setIntP x.d b { s with inp := s.inp + 1 }
    | none => setIntP x.d (-1) s
  else if x.op = 16 then (numP x.a s).bind fun n s => .ok () { s with output := s.output ++ [(n % 256).toNat] }
  else if x.op = 2 then match nth c.im.strings x.a with
    | some t => if kindP s.hp 0 = 3 then textM c x (bytesOf t) s else .stop 6 s
    | none => .stop 6 s
  else if x.op = 13 ∨ x.op = 14 ∨ x.op = 11 ∨ x.op = 12 then bytesM c x s
  else if x.op = 17 then (readP x.l s).bind fun args s => (keepP x.live s).bind fun _ s => callP c x.a args s
  else fieldsM c x s

/-- The block that is told beside a key. -/
def pickP (key : Int) : List Int → Option Int
  | k :: b :: rest => if k = key then some b else pickP key rest
  | _ => none

def chooseP (x : InstrS) (s : Vm) : Res Unit := (getP x.a s).bind fun w s =>
  if w % 2 = 1 then match pickP (wInt w) x.l with
    | some b => jumpP b s
    | none => if x.b = -1 then .stop 6 s else jumpP x.b s
  else match pickP (shapeP s.hp (w / 2 : Nat)) x.m with
    | some b => jumpP b s
    | none => .stop 6 s

def lastP (c : Cx) (x : InstrS) (s : Vm) : Res Unit :=
  if x.op = 18 then jumpP x.a s
  else if x.op = 19 then (numP x.a s).bind fun n s => if n ≠ 0 then jumpP x.b s else jumpP x.c s
  else if x.op = 20 then chooseP x s
  else if x.op = 21 then (readP x.l s).bind fun args s => (popP s).bind fun _ s => callP c x.a args s
  else if x.op = 22 then (getP x.a s).bind fun w s => (popP s).bind fun _ s =>
    match s.frs with
    | [] => .stop 1 s
    | f :: _ => match pendingP f with
      | none => .bad
      | some i => setP i.d w s
  else if x.op = 23 then (getP x.a s).bind fun w s => throwP c w s
  else .stop 6 s

/-- One step. -/
def stepP (c : Cx) (s : Vm) : Res Unit :=
  match s.frs with
  | [] => .bad
  | f :: fs => match nth f.fn.blocks f.block with
    | none => .stop 6 s
    | some b => match b.code[f.pos.toNat]? with
      | none => .stop 6 s
      | some x =>
        if s.steps = c.fuel then .stop 3 s
        else
          let s := { s with steps := s.steps + 1, frs := { f with pos := f.pos + 1 } :: fs }
          if x.op ≥ 18 then lastP c x s else instrP c x s

/-- So many steps. -/
def runP (c : Cx) : Nat → Vm → Res Unit
  | 0, s => .ok () s
  | n + 1, s => (stepP c s).bind fun _ s => runP c n s

def layOf (x : ShapeS) : Int × Int := (x.kind, if x.kind = 1 then x.fields.length else 0)

def hp0 (c : Cx) : Hp := { words := List.replicate c.heap.toNat 0, objs := [], lays := c.im.shapes.map layOf, top := 0 }
def vm0 (h : Hp) : Vm := { frs := [], words := 0, inp := 0, made := 0, kind := 0, output := [], exn := ByteArray.empty, steps := 0, swept := 0, hp := h }

end Go.GX
/- What holds of the plain machine all along: its numbers keep their bounds, its heap is a row of whole objects. -/
namespace Go.GX
open Go

/-- An int of 64 bits. -/
def I64 (n : Int) : Prop := -9223372036854775808 ≤ n ∧ n < 9223372036854775808

/-- The greatest length of what came in. -/
def LenOk (n : Nat) : Prop := n ≤ 140737488355328

/-- Objects one behind the other, from a place to a place. -/
def Chain (words : List Nat) (lays : List (Int × Int)) : Nat → List Nat → Nat → Prop
  | a, [], b => a = b
  | a, x :: xs, b => x = a ∧ ∃ sh n k : Nat, words[a]? = some (wHead sh n) ∧ sh < lays.length ∧ n ≤ 65536 ∧ needL lays sh n = .inl (k : Int) ∧ a + k ≤ words.length ∧ Chain words lays (a + k) xs b

structure HpOk (h : Hp) : Prop where
  len : h.words.length ≤ 65536
  w64 : ∀ x ∈ h.words, W64 x
  nlays : h.lays.length ≤ 512
  lays : ∀ l ∈ h.lays, 1 ≤ l.1 ∧ l.1 ≤ 3 ∧ 0 ≤ l.2 ∧ l.2 ≤ 65536
  chain : Chain h.words h.lays 0 h.objs h.top
  top : h.top ≤ h.words.length
  fit : ∀ x ∈ h.objs, kindP h (wShape (wordP h x) : Nat) ≠ 3 → ∀ i : Nat, i < wLen (wordP h x) → fitsP h (wordP h (x + 1 + i : Nat)) = true
  zero : ∀ i : Nat, h.top ≤ i → wordP h i = 0
  pad : ∀ x ∈ h.objs, kindP h (wShape (wordP h x) : Nat) = 3 → wLen (wordP h x) % 8 ≠ 0 → wordP h (x + 1 + wLen (wordP h x) / 8 : Nat) < 2 ^ (wLen (wordP h x) % 8 * 8)

def frsWords : List Fr → Int
  | [] => 0
  | f :: fs => f.slots.length + 2 + frsWords fs

structure MOk (c : Cx) (s : Vm) : Prop where
  heap : HpOk s.hp
  hlays : s.hp.lays = c.im.shapes.map layOf
  words : s.words = frsWords s.frs
  stack : s.words ≤ c.stack
  room : ∀ f ∈ s.frs, (f.slots.length : Int) = f.fn.slots
  fns : ∀ f ∈ s.frs, f.fn ∈ c.im.funcs
  slots : ∀ f ∈ s.frs, ∀ x ∈ f.slots, W64 x ∧ fitsP s.hp x = true
  block : ∀ f ∈ s.frs, I64 f.block
  pos : ∀ f ∈ s.frs, 0 ≤ f.pos ∧ f.pos ≤ 562949953421312
  steps : 0 ≤ s.steps ∧ s.steps ≤ c.fuel
  made : 0 ≤ s.made ∧ s.made ≤ s.steps
  swept : 0 ≤ s.swept ∧ s.swept ≤ s.made
  inp : 0 ≤ s.inp ∧ s.inp ≤ c.input.length
  output : (s.output.length : Int) ≤ s.steps
  kind : s.kind = 0

/-- The lists of an instruction are not long. -/
structure Short (x : InstrS) : Prop where
  l : x.l.length ≤ 1048576
  m : x.m.length ≤ 1048576
  live : x.live.length ≤ 1048576

/-- What holds of what is given. -/
structure Cx.Ok (c : Cx) : Prop where
  fuel : 0 ≤ c.fuel ∧ c.fuel ≤ 16777216
  heap : 0 ≤ c.heap ∧ c.heap ≤ 65536
  stack : 0 ≤ c.stack ∧ c.stack ≤ 65536
  slots : ∀ f ∈ c.im.funcs, f.slots ≤ 200
  fields : ∀ f ∈ c.im.shapes, f.fields.length ≤ 200
  strings : ∀ f ∈ c.im.strings, f.size ≤ 16384
  short : ∀ f ∈ c.im.funcs, ∀ b ∈ f.blocks, b.code.length ≤ 20000 ∧ ∀ x ∈ b.code, Short x

theorem frsWords_nonneg : ∀ l : List Fr, 2 * (l.length : Int) ≤ frsWords l
  | [] => by simp [frsWords]
  | f :: fs => by have := frsWords_nonneg fs; simp [frsWords]; omega

theorem MOk.frs_len {c : Cx} {s : Vm} (h : MOk c s) (ok : c.Ok) : (s.frs.length : Int) ≤ 32768 := by
  have h1 := h.words; have h2 := h.stack; have h3 := frsWords_nonneg s.frs; have h4 := ok.stack.2; omega

theorem nth_some {α : Type} {l : List α} {i : Int} {x : α} (h : nth l i = some x) : 0 ≤ i ∧ l[i.toNat]? = some x := by
  unfold nth at h; split at h
  · exact ⟨by assumption, h⟩
  · cases h
theorem nth_lt {α : Type} {l : List α} {i : Int} {x : α} (h : nth l i = some x) : 0 ≤ i ∧ i < l.length := by
  have := nth_some h; have h2 := (List.getElem?_eq_some_iff.1 this.2).1; omega
theorem nth_mem {α : Type} {l : List α} {i : Int} {x : α} (h : nth l i = some x) : x ∈ l := List.mem_of_getElem? (nth_some h).2
theorem nth_none {α : Type} {l : List α} {i : Int} (h : nth l i = none) : ¬ (0 ≤ i ∧ i < l.length) := by
  unfold nth at h; split at h
  · rw [List.getElem?_eq_none_iff] at h; omega
  · omega
theorem nth_of {α : Type} {l : List α} {i : Int} (h : 0 ≤ i ∧ i < l.length) : ∃ x, nth l i = some x := by
  cases e : nth l i with
  | some x => exact ⟨x, rfl⟩
  | none => exact absurd h (nth_none e)
theorem nth_nat {α : Type} (l : List α) (i : Nat) : nth l (i : Int) = l[i]? := by simp [nth]
end Go.GX
/- Images in memory: plain data, and what it means that a world holds them. -/
namespace Go.GX
open Go

/-- A slice whose elements are related to those of a list. -/
def Sl {α : Type} (sz : Nat) (R : Addr → α → Prop) (v : Value) (l : List α) : Prop :=
  LenOk l.length ∧ ∃ a c, v = .slice a l.length c ∧ (l = [] ∨ ∃ b o, a = some ⟨b, o, none⟩ ∧ ∀ i x, l[i]? = some x → R ⟨b, o + i * sz, none⟩ x)

theorem Sl.len {α : Type} {sz : Nat} {R : Addr → α → Prop} {v : Value} {l : List α} (h : Sl sz R v l) : l.length ≤ 140737488355328 := h.1

theorem Sl.mono {α : Type} {sz : Nat} {R R' : Addr → α → Prop} (hR : ∀ a x, R a x → R' a x) {v : Value} {l : List α} (h : Sl sz R v l) : Sl sz R' v l := by
  obtain ⟨hl, a, c, hv, h⟩ := h
  refine ⟨hl, a, c, hv, h.imp id ?_⟩
  rintro ⟨b, o, ha, hx⟩
  exact ⟨b, o, ha, fun i x hi => hR _ _ (hx i x hi)⟩

theorem add_lit (b o n : Nat) : (⟨b, o, none⟩ : Addr).add n = ⟨b, o + n, none⟩ := by
  unfold Addr.add; split
  · rename_i h; subst h; rfl
  · rfl

theorem IA_sl {α : Type} {sz : Nat} {R : Addr → α → Prop} {v : Value} {l : List α} (h : Sl sz R v l) {k : IntKind} {i : Int} (h0 : 0 ≤ i) {x : α} (hx : l[i.toNat]? = some x)
    {K : Value → Prop} (hK : ∀ b o, R ⟨b, o, none⟩ x → K (.pointer (some ⟨b, o, none⟩))) : IA sz v (.int k i) K := by
  obtain ⟨_, a, c, rfl, h⟩ := h
  have hlt : i.toNat < l.length := (List.getElem?_eq_some_iff.1 hx).1
  rcases h with rfl | ⟨b, o, rfl, h⟩
  · simp at hlt
  · rw [IA_slice]
    refine ⟨⟨h0, by omega⟩, ?_⟩
    rw [add_lit]
    exact hK _ _ (h _ _ hx)

theorem LEN_sl {α : Type} {sz n : Nat} {R : Addr → α → Prop} {v : Value} {l : List α} (h : Sl sz R v l) {K : Value → Prop} (hK : K (.int .i64 l.length)) : LEN (.sl n) v K := by
  obtain ⟨_, a, c, rfl, _⟩ := h
  exact hK

section
variable (w : World)

def IntAt (a : Addr) (n : Int) : Prop := w.cell? a = some (.int .i64 n) ∧ I64 n
def StrAt (a : Addr) (s : ByteArray) : Prop := w.cell? a = some (.string s) ∧ LenOk s.size
def ByteAt (a : Addr) (n : Nat) : Prop := w.cell? a = some (.int .u8 n) ∧ n < 256
def BoolAt (a : Addr) (b : Bool) : Prop := w.cell? a = some (.bool b)

/-- The k-th cell from an address on holds a slice. -/
def SlAt {α : Type} (sz : Nat) (R : Addr → α → Prop) (a : Addr) (l : List α) : Prop := ∃ v, w.cell? a = some v ∧ Sl sz R v l

def off (a : Addr) (k : Nat) : Addr := ⟨a.block, a.off + k, none⟩

structure InstrAt (a : Addr) (x : InstrS) : Prop where
  op : IntAt w (off a 0) x.op
  d : IntAt w (off a 1) x.d
  a' : IntAt w (off a 2) x.a
  b : IntAt w (off a 3) x.b
  c : IntAt w (off a 4) x.c
  n : IntAt w (off a 5) x.n
  l : SlAt w 1 (IntAt w) (off a 6) x.l
  m : SlAt w 1 (IntAt w) (off a 7) x.m
  live : SlAt w 1 (IntAt w) (off a 8) x.live

structure BlockAt (a : Addr) (x : BlockS) : Prop where
  inn : SlAt w 1 (IntAt w) (off a 0) x.inn
  code : SlAt w 9 (InstrAt w) (off a 1) x.code

structure FuncAt (a : Addr) (x : FuncS) : Prop where
  params : SlAt w 1 (IntAt w) (off a 0) x.params
  result : IntAt w (off a 1) x.result
  slots : IntAt w (off a 2) x.slots
  blocks : SlAt w 2 (BlockAt w) (off a 3) x.blocks

structure TypeAt (a : Addr) (x : TypeS) : Prop where
  imm : BoolAt w (off a 0) x.imm
  shapes : SlAt w 1 (IntAt w) (off a 1) x.shapes

structure ShapeAt (a : Addr) (x : ShapeS) : Prop where
  kind : IntAt w (off a 0) x.kind
  fields : SlAt w 1 (IntAt w) (off a 1) x.fields
  name : StrAt w (off a 2) x.name

/-- The seven cells of an image. -/
structure ImgV (vs : List Value) (m : ImageS) : Prop where
  cells : ∃ t s st nm f, vs = [t, s, st, nm, f, .int .i64 m.main, .int .i64 m.exn] ∧ Sl 2 (TypeAt w) t m.types ∧ Sl 3 (ShapeAt w) s m.shapes ∧ Sl 1 (StrAt w) st m.strings ∧ Sl 1 (StrAt w) nm m.names ∧ Sl 4 (FuncAt w) f m.funcs
  main : I64 m.main
  exn : I64 m.exn

structure ImgAt (a : Addr) (m : ImageS) : Prop where
  types : SlAt w 2 (TypeAt w) (off a 0) m.types
  shapes : SlAt w 3 (ShapeAt w) (off a 1) m.shapes
  strings : SlAt w 1 (StrAt w) (off a 2) m.strings
  names : SlAt w 1 (StrAt w) (off a 3) m.names
  funcs : SlAt w 4 (FuncAt w) (off a 4) m.funcs
  main : IntAt w (off a 5) m.main
  exn : IntAt w (off a 6) m.exn
end

section
variable {w w' : World} (e : Ext w w')
include e

theorem IntAt.ext {a : Addr} {n : Int} (h : IntAt w a n) : IntAt w' a n := ⟨e.cell h.1, h.2⟩
theorem StrAt.ext {a : Addr} {n : ByteArray} (h : StrAt w a n) : StrAt w' a n := ⟨e.cell h.1, h.2⟩
theorem ByteAt.ext {a : Addr} {n : Nat} (h : ByteAt w a n) : ByteAt w' a n := ⟨e.cell h.1, h.2⟩
theorem BoolAt.ext {a : Addr} {n : Bool} (h : BoolAt w a n) : BoolAt w' a n := e.cell h
theorem SlAt.ext {α : Type} {sz : Nat} {R R' : Addr → α → Prop} (hR : ∀ a x, R a x → R' a x) {a : Addr} {l : List α} (h : SlAt w sz R a l) : SlAt w' sz R' a l :=
  let ⟨v, h1, h2⟩ := h; ⟨v, e.cell h1, h2.mono hR⟩
theorem InstrAt.ext {a : Addr} {x : InstrS} (h : InstrAt w a x) : InstrAt w' a x :=
  ⟨h.op.ext e, h.d.ext e, h.a'.ext e, h.b.ext e, h.c.ext e, h.n.ext e, h.l.ext e (fun _ _ h => h.ext e), h.m.ext e (fun _ _ h => h.ext e), h.live.ext e (fun _ _ h => h.ext e)⟩
theorem BlockAt.ext {a : Addr} {x : BlockS} (h : BlockAt w a x) : BlockAt w' a x := ⟨h.inn.ext e (fun _ _ h => h.ext e), h.code.ext e (fun _ _ h => h.ext e)⟩
theorem FuncAt.ext {a : Addr} {x : FuncS} (h : FuncAt w a x) : FuncAt w' a x :=
  ⟨h.params.ext e (fun _ _ h => h.ext e), h.result.ext e, h.slots.ext e, h.blocks.ext e (fun _ _ h => h.ext e)⟩
theorem TypeAt.ext {a : Addr} {x : TypeS} (h : TypeAt w a x) : TypeAt w' a x := ⟨h.imm.ext e, h.shapes.ext e (fun _ _ h => h.ext e)⟩
theorem ShapeAt.ext {a : Addr} {x : ShapeS} (h : ShapeAt w a x) : ShapeAt w' a x := ⟨h.kind.ext e, h.fields.ext e (fun _ _ h => h.ext e), h.name.ext e⟩
theorem ImgAt.ext {a : Addr} {x : ImageS} (h : ImgAt w a x) : ImgAt w' a x :=
  ⟨h.types.ext e (fun _ _ h => h.ext e), h.shapes.ext e (fun _ _ h => h.ext e), h.strings.ext e (fun _ _ h => h.ext e), h.names.ext e (fun _ _ h => h.ext e),
   h.funcs.ext e (fun _ _ h => h.ext e), h.main.ext e, h.exn.ext e⟩
theorem ImgV.ext {vs : List Value} {x : ImageS} (h : ImgV w vs x) : ImgV w' vs x :=
  let ⟨⟨t, s, st, nm, f, h0, h1, h2, h3, h4, h5⟩, h6, h7⟩ := h
  ⟨⟨t, s, st, nm, f, h0, h1.mono (fun _ _ h => h.ext e), h2.mono (fun _ _ h => h.ext e), h3.mono (fun _ _ h => h.ext e), h4.mono (fun _ _ h => h.ext e), h5.mono (fun _ _ h => h.ext e)⟩, h6, h7⟩
end

/-! ### Loads -/
section
variable {w : World} {K : Value → Prop}
theorem LD_int {a : Addr} {n : Int} (h : IntAt w a n) (hK : K (.int .i64 n)) : LD w (.pointer (some a)) K := by rw [LD_some h.1]; exact hK
theorem LD_str {a : Addr} {n : ByteArray} (h : StrAt w a n) (hK : K (.string n)) : LD w (.pointer (some a)) K := by rw [LD_some h.1]; exact hK
theorem LD_byte {a : Addr} {n : Nat} (h : ByteAt w a n) (hK : K (.int .u8 n)) : LD w (.pointer (some a)) K := by rw [LD_some h.1]; exact hK
theorem LD_bool {a : Addr} {n : Bool} (h : BoolAt w a n) (hK : K (.bool n)) : LD w (.pointer (some a)) K := by rw [LD_some h]; exact hK
theorem LD_sl {α : Type} {a : Addr} {sz : Nat} {R : Addr → α → Prop} {l : List α} (h : SlAt w sz R a l) (hK : ∀ v, Sl sz R v l → K v) : LD w (.pointer (some a)) K := by
  obtain ⟨v, h1, h2⟩ := h
  rw [LD_some h1]; exact hK v h2
end

end Go.GX
