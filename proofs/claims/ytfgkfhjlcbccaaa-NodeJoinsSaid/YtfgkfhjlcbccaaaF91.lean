import Derived.Test.YtfgkfhjlcbccaaaF90
set_option linter.unusedVariables false
set_option linter.unusedSimpArgs false
namespace Go.Am
/-! 10: cryostat/cryostatlaw9.NodeForms -/
def law9_NodeForms.cx : Cx := ⟨tys, [18, 19, 21, 22, 24, 25, 76, 77, 85, 86, 92, 93], [], [(38, [4, 6, 7, 8, 9])], [(32, law9_awake), (13, law0_CopyPage), (27, node_Split), (29, node_Join), (18, law0_Num), (21, ref1_PageMay)], noDyn, [.tmp 2]⟩
def law9_NodeForms : Sm := fun xs H Q => ∃ k, callK (law9_NodeForms.cx) Go.Proofs.Try.f10 k xs H Q
def law9_NodeForms.l38 (k : Nat) (bx0 : Bool) (bx1 : Bool) (ax2 : Pl) (nx3 : Nat) (ax4 : Pl) (nx5 : Nat) (ax6 : Pl) (nx7 : Nat) (bx8 : Bool) (bx9 : Bool) (xx10 : Pl) (nx11 : Nat) (xx12 : Pl) (nx13 : Nat) (xx14 : Pl) (nx15 : Nat) (bx16 : Bool) (bx17 : Bool) (xx18 : Pl) (nx19 : Nat) (xx20 : Pl) (nx21 : Nat) (xx22 : Pl) (nx23 : Nat) (sx24 : ByteArray) (bx25 : Bool) (bx26 : Bool) (xx27 : Pl) (nx28 : Nat) (xx29 : Pl) (nx30 : Nat) (xx31 : Pl) (nx32 : Nat) (H : Hp) (Q : Post) : Prop := loopK (law9_NodeForms.cx) Go.Proofs.Try.f10 38 k (B 4 ((.bx [(.bool bx0), (.bool bx1), (.sl ax2 nx3 1), (.sl ax4 nx5 1), (.sl ax6 nx7 1)]) :: .bad :: (.bx [(.bool bx8), (.bool bx9), (.sl xx10 nx11 1), (.sl xx12 nx13 1), (.sl xx14 nx15 1)]) :: (.bx [(.bool bx16), (.bool bx17), (.sl xx18 nx19 1), (.sl xx20 nx21 1), (.sl xx22 nx23 1)]) :: (.g (.str sx24)) :: (.bx [(.bool bx25), (.bool bx26), (.sl xx27 nx28 1), (.sl xx29 nx30 1), (.sl xx31 nx32 1)]) :: B 112 ([]))) H Q
theorem law9_NodeForms_eq (k : Nat) (z0 : Int) (H : Hp) (Q : Post) : callK (law9_NodeForms.cx) Go.Proofs.Try.f10 (k + 1) [.g (.int .i64 z0)] H Q = (
 cl law9_awake [] H fun r0 H1 =>
 rG r0 fun v2 =>
 dB v2 fun b3 =>
 bite (!b3)
 (Q (.g (.bool false)) H1)
 (cl law0_CopyPage [(.agg [(.bool true), (.bool true), (.sl (some ((ln (pu (pu H1 (.row true 9 [(.str (mkS [97])), (.str (mkS [98])), (.str (mkS [99])), (.str (mkS [100])), (.str (mkS [101]))])) (.row true 9 [(.str (mkS [])), (.str (mkS [])), (.str (mkS [])), (.str (mkS [])), (.str (mkS []))]))), 0)) 2 1), (.sl (some ((ln (pu (pu (pu H1 (.row true 9 [(.str (mkS [97])), (.str (mkS [98])), (.str (mkS [99])), (.str (mkS [100])), (.str (mkS [101]))])) (.row true 9 [(.str (mkS [])), (.str (mkS [])), (.str (mkS [])), (.str (mkS [])), (.str (mkS []))])) (.row true 9 [(.str (mkS [120])), (.str (mkS [121]))]))), 0)) 2 1), (.sl none 0 1)])] (pu (pu (pu (pu (pu (pu H1 (.row true 9 [(.str (mkS [97])), (.str (mkS [98])), (.str (mkS [99])), (.str (mkS [100])), (.str (mkS [101]))])) (.row true 9 [(.str (mkS [])), (.str (mkS [])), (.str (mkS [])), (.str (mkS [])), (.str (mkS []))])) (.row true 9 [(.str (mkS [120])), (.str (mkS [121]))])) (.row true 9 [(.str (mkS [])), (.str (mkS []))])) (.row true 9 [(.str (mkS [112])), (.str (mkS [113]))])) (.row true 3 [(.int .i64 1), (.int .i64 2), (.int .i64 3)])) fun r4 H5 =>
  rA r4 fun c6 =>
  uC c6 fun v7 c8 =>
  dB v7 fun b9 =>
  uC c8 fun v10 c11 =>
  dB v10 fun b12 =>
  uC c11 fun v13 c14 =>
  dL 1 v13 fun x15 n16 =>
  uC c14 fun v17 c18 =>
  dL 1 v17 fun x19 n20 =>
  uC c18 fun v21 c22 =>
  dL 1 v21 fun x23 n24 =>
  uN c22 (cl law0_CopyPage [(.agg [(.bool true), (.bool true), (.sl (some ((ln (pu (pu H1 (.row true 9 [(.str (mkS [97])), (.str (mkS [98])), (.str (mkS [99])), (.str (mkS [100])), (.str (mkS [101]))])) (.row true 9 [(.str (mkS [])), (.str (mkS [])), (.str (mkS [])), (.str (mkS [])), (.str (mkS []))]))), 0)) 2 1), (.sl (some ((ln (pu (pu (pu H1 (.row true 9 [(.str (mkS [97])), (.str (mkS [98])), (.str (mkS [99])), (.str (mkS [100])), (.str (mkS [101]))])) (.row true 9 [(.str (mkS [])), (.str (mkS [])), (.str (mkS [])), (.str (mkS [])), (.str (mkS []))])) (.row true 9 [(.str (mkS [120])), (.str (mkS [121]))]))), 0)) 2 1), (.sl none 0 1)])] H5 fun r25 H26 =>
  rA r25 fun c27 =>
  uC c27 fun v28 c29 =>
  dB v28 fun b30 =>
  uC c29 fun v31 c32 =>
  dB v31 fun b33 =>
  uC c32 fun v34 c35 =>
  dL 1 v34 fun x36 n37 =>
  uC c35 fun v38 c39 =>
  dL 1 v38 fun x40 n41 =>
  uC c39 fun v42 c43 =>
  dL 1 v42 fun x44 n45 =>
  uN c43 (cl law0_CopyPage [(.agg [(.bool true), (.bool true), (.sl (some ((ln H1), 0)) 5 1), (.sl (some ((ln (pu H1 (.row true 9 [(.str (mkS [97])), (.str (mkS [98])), (.str (mkS [99])), (.str (mkS [100])), (.str (mkS [101]))]))), 0)) 5 1), (.sl none 0 1)])] H26 fun r46 H47 =>
  rA r46 fun c48 =>
  uC c48 fun v49 c50 =>
  dB v49 fun b51 =>
  uC c50 fun v52 c53 =>
  dB v52 fun b54 =>
  uC c53 fun v55 c56 =>
  dL 1 v55 fun x57 n58 =>
  uC c56 fun v59 c60 =>
  dL 1 v59 fun x61 n62 =>
  uC c60 fun v63 c64 =>
  dL 1 v63 fun x65 n66 =>
  uN c64 (bite (eqI (Int.tmod (wrapI .u64 z0) 8) 0)
  (chk true (chk ((leI 0 0) && (ltI 0 (nI n37))) (pS x36 fun n67 n68 =>
   wr H47 n67 (n68 + ((tN 0) * 1)) (.str (mkS [119])) fun H69 =>
   law9_NodeForms.l38 k true true (some ((ln (pu (pu H1 (.row true 9 [(.str (mkS [97])), (.str (mkS [98])), (.str (mkS [99])), (.str (mkS [100])), (.str (mkS [101]))])) (.row true 9 [(.str (mkS [])), (.str (mkS [])), (.str (mkS [])), (.str (mkS [])), (.str (mkS []))]))), 0)) 2 (some ((ln (pu (pu (pu H1 (.row true 9 [(.str (mkS [97])), (.str (mkS [98])), (.str (mkS [99])), (.str (mkS [100])), (.str (mkS [101]))])) (.row true 9 [(.str (mkS [])), (.str (mkS [])), (.str (mkS [])), (.str (mkS [])), (.str (mkS []))])) (.row true 9 [(.str (mkS [120])), (.str (mkS [121]))]))), 0)) 2 none 0 b9 b12 x15 n16 x19 n20 x23 n24 b30 b33 x36 n37 x40 n41 x44 n45 (mkS [109]) false b54 x57 n58 x61 n62 x65 n66 H69 Q)))
  (bite (eqI (Int.tmod (wrapI .u64 z0) 8) 1)
   (cl law0_CopyPage [(.agg [(.bool true), (.bool false), (.sl (some ((ln (pu (pu (pu (pu H1 (.row true 9 [(.str (mkS [97])), (.str (mkS [98])), (.str (mkS [99])), (.str (mkS [100])), (.str (mkS [101]))])) (.row true 9 [(.str (mkS [])), (.str (mkS [])), (.str (mkS [])), (.str (mkS [])), (.str (mkS []))])) (.row true 9 [(.str (mkS [120])), (.str (mkS [121]))])) (.row true 9 [(.str (mkS [])), (.str (mkS []))]))), 0)) 2 1), (.sl none 0 1), (.sl (some ((ln (pu (pu (pu (pu (pu H1 (.row true 9 [(.str (mkS [97])), (.str (mkS [98])), (.str (mkS [99])), (.str (mkS [100])), (.str (mkS [101]))])) (.row true 9 [(.str (mkS [])), (.str (mkS [])), (.str (mkS [])), (.str (mkS [])), (.str (mkS []))])) (.row true 9 [(.str (mkS [120])), (.str (mkS [121]))])) (.row true 9 [(.str (mkS [])), (.str (mkS []))])) (.row true 9 [(.str (mkS [112])), (.str (mkS [113]))]))), 0)) 3 1)])] H47 fun r70 H71 =>
    rA r70 fun c72 =>
    uC c72 fun v73 c74 =>
    dB v73 fun b75 =>
    uC c74 fun v76 c77 =>
    dB v76 fun b78 =>
    uC c77 fun v79 c80 =>
    dL 1 v79 fun x81 n82 =>
    uC c80 fun v83 c84 =>
    dL 1 v83 fun x85 n86 =>
    uC c84 fun v87 c88 =>
    dL 1 v87 fun x89 n90 =>
    uN c88 (chk true (chk ((leN 0 (tN 4)) && ((leN (tN 4) n58) || (room H71 x57 ((tN 4) * 1)))) (law9_NodeForms.l38 k true true (some ((ln (pu (pu H1 (.row true 9 [(.str (mkS [97])), (.str (mkS [98])), (.str (mkS [99])), (.str (mkS [100])), (.str (mkS [101]))])) (.row true 9 [(.str (mkS [])), (.str (mkS [])), (.str (mkS [])), (.str (mkS [])), (.str (mkS []))]))), 0)) 2 (some ((ln (pu (pu (pu H1 (.row true 9 [(.str (mkS [97])), (.str (mkS [98])), (.str (mkS [99])), (.str (mkS [100])), (.str (mkS [101]))])) (.row true 9 [(.str (mkS [])), (.str (mkS [])), (.str (mkS [])), (.str (mkS [])), (.str (mkS []))])) (.row true 9 [(.str (mkS [120])), (.str (mkS [121]))]))), 0)) 2 none 0 b9 b12 x15 n16 x19 n20 x23 n24 b75 b78 x81 n82 x85 n86 x89 n90 (mkS [109]) b51 b54 (shf x57 0) ((tN 4) - 0) x61 n62 x65 n66 H71 Q))))
   (bite (eqI (Int.tmod (wrapI .u64 z0) 8) 2)
    (chk true (chk ((leN 0 (tN 4)) && ((leN (tN 4) n62) || (room H47 x61 ((tN 4) * 1)))) (law9_NodeForms.l38 k true true (some ((ln (pu (pu H1 (.row true 9 [(.str (mkS [97])), (.str (mkS [98])), (.str (mkS [99])), (.str (mkS [100])), (.str (mkS [101]))])) (.row true 9 [(.str (mkS [])), (.str (mkS [])), (.str (mkS [])), (.str (mkS [])), (.str (mkS []))]))), 0)) 2 (some ((ln (pu (pu (pu H1 (.row true 9 [(.str (mkS [97])), (.str (mkS [98])), (.str (mkS [99])), (.str (mkS [100])), (.str (mkS [101]))])) (.row true 9 [(.str (mkS [])), (.str (mkS [])), (.str (mkS [])), (.str (mkS [])), (.str (mkS []))])) (.row true 9 [(.str (mkS [120])), (.str (mkS [121]))]))), 0)) 2 none 0 false b12 x15 n16 x19 n20 x23 n24 b30 b33 x36 n37 x40 n41 x44 n45 (mkS [109]) b51 b54 x57 n58 (shf x61 0) ((tN 4) - 0) x65 n66 H47 Q)))
    (bite (eqI (Int.tmod (wrapI .u64 z0) 8) 3)
     (cl law0_CopyPage [(.agg [(.bool true), (.bool false), (.sl (some ((ln (pu (pu (pu (pu H1 (.row true 9 [(.str (mkS [97])), (.str (mkS [98])), (.str (mkS [99])), (.str (mkS [100])), (.str (mkS [101]))])) (.row true 9 [(.str (mkS [])), (.str (mkS [])), (.str (mkS [])), (.str (mkS [])), (.str (mkS []))])) (.row true 9 [(.str (mkS [120])), (.str (mkS [121]))])) (.row true 9 [(.str (mkS [])), (.str (mkS []))]))), 0)) 2 1), (.sl none 0 1), (.sl (some ((ln (pu (pu (pu (pu (pu H1 (.row true 9 [(.str (mkS [97])), (.str (mkS [98])), (.str (mkS [99])), (.str (mkS [100])), (.str (mkS [101]))])) (.row true 9 [(.str (mkS [])), (.str (mkS [])), (.str (mkS [])), (.str (mkS [])), (.str (mkS []))])) (.row true 9 [(.str (mkS [120])), (.str (mkS [121]))])) (.row true 9 [(.str (mkS [])), (.str (mkS []))])) (.row true 9 [(.str (mkS [112])), (.str (mkS [113]))]))), 0)) 3 1)])] H47 fun r91 H92 =>
      rA r91 fun c93 =>
      uC c93 fun v94 c95 =>
      dB v94 fun b96 =>
      uC c95 fun v97 c98 =>
      dB v97 fun b99 =>
      uC c98 fun v100 c101 =>
      dL 1 v100 fun x102 n103 =>
      uC c101 fun v104 c105 =>
      dL 1 v104 fun x106 n107 =>
      uC c105 fun v108 c109 =>
      dL 1 v108 fun x110 n111 =>
      uN c109 (cl law0_CopyPage [(.agg [(.bool true), (.bool false), (.sl (some ((ln (pu (pu (pu (pu H1 (.row true 9 [(.str (mkS [97])), (.str (mkS [98])), (.str (mkS [99])), (.str (mkS [100])), (.str (mkS [101]))])) (.row true 9 [(.str (mkS [])), (.str (mkS [])), (.str (mkS [])), (.str (mkS [])), (.str (mkS []))])) (.row true 9 [(.str (mkS [120])), (.str (mkS [121]))])) (.row true 9 [(.str (mkS [])), (.str (mkS []))]))), 0)) 2 1), (.sl none 0 1), (.sl (some ((ln (pu (pu (pu (pu (pu H1 (.row true 9 [(.str (mkS [97])), (.str (mkS [98])), (.str (mkS [99])), (.str (mkS [100])), (.str (mkS [101]))])) (.row true 9 [(.str (mkS [])), (.str (mkS [])), (.str (mkS [])), (.str (mkS [])), (.str (mkS []))])) (.row true 9 [(.str (mkS [120])), (.str (mkS [121]))])) (.row true 9 [(.str (mkS [])), (.str (mkS []))])) (.row true 9 [(.str (mkS [112])), (.str (mkS [113]))]))), 0)) 3 1)])] H92 fun r112 H113 =>
      rA r112 fun c114 =>
      uC c114 fun v115 c116 =>
      dB v115 fun b117 =>
      uC c116 fun v118 c119 =>
      dB v118 fun b120 =>
      uC c119 fun v121 c122 =>
      dL 1 v121 fun x123 n124 =>
      uC c122 fun v125 c126 =>
      dL 1 v125 fun x127 n128 =>
      uC c126 fun v129 c130 =>
      dL 1 v129 fun x131 n132 =>
      uN c130 (chk true (chk ((leI 0 2) && (ltI 2 (nI n58))) (pS x57 fun n133 n134 =>
      wr H113 n133 (n134 + ((tN 2) * 1)) (.str (mkS [98])) fun H135 =>
      law9_NodeForms.l38 k true true (some ((ln (pu (pu H1 (.row true 9 [(.str (mkS [97])), (.str (mkS [98])), (.str (mkS [99])), (.str (mkS [100])), (.str (mkS [101]))])) (.row true 9 [(.str (mkS [])), (.str (mkS [])), (.str (mkS [])), (.str (mkS [])), (.str (mkS []))]))), 0)) 2 (some ((ln (pu (pu (pu H1 (.row true 9 [(.str (mkS [97])), (.str (mkS [98])), (.str (mkS [99])), (.str (mkS [100])), (.str (mkS [101]))])) (.row true 9 [(.str (mkS [])), (.str (mkS [])), (.str (mkS [])), (.str (mkS [])), (.str (mkS []))])) (.row true 9 [(.str (mkS [120])), (.str (mkS [121]))]))), 0)) 2 none 0 b96 b99 x102 n103 x106 n107 x110 n111 b117 b120 x123 n124 x127 n128 x131 n132 (mkS [113]) b51 b54 x57 n58 x61 n62 x65 n66 H135 Q)))))
     (bite (eqI (Int.tmod (wrapI .u64 z0) 8) 4)
      (cl law0_CopyPage [(.agg [(.bool true), (.bool false), (.sl (some ((ln (pu (pu (pu (pu H1 (.row true 9 [(.str (mkS [97])), (.str (mkS [98])), (.str (mkS [99])), (.str (mkS [100])), (.str (mkS [101]))])) (.row true 9 [(.str (mkS [])), (.str (mkS [])), (.str (mkS [])), (.str (mkS [])), (.str (mkS []))])) (.row true 9 [(.str (mkS [120])), (.str (mkS [121]))])) (.row true 9 [(.str (mkS [])), (.str (mkS []))]))), 0)) 2 1), (.sl none 0 1), (.sl (some ((ln (pu (pu (pu (pu (pu H1 (.row true 9 [(.str (mkS [97])), (.str (mkS [98])), (.str (mkS [99])), (.str (mkS [100])), (.str (mkS [101]))])) (.row true 9 [(.str (mkS [])), (.str (mkS [])), (.str (mkS [])), (.str (mkS [])), (.str (mkS []))])) (.row true 9 [(.str (mkS [120])), (.str (mkS [121]))])) (.row true 9 [(.str (mkS [])), (.str (mkS []))])) (.row true 9 [(.str (mkS [112])), (.str (mkS [113]))]))), 0)) 3 1)])] H47 fun r136 H137 =>
       rA r136 fun c138 =>
       uC c138 fun v139 c140 =>
       dB v139 fun b141 =>
       uC c140 fun v142 c143 =>
       dB v142 fun b144 =>
       uC c143 fun v145 c146 =>
       dL 1 v145 fun x147 n148 =>
       uC c146 fun v149 c150 =>
       dL 1 v149 fun x151 n152 =>
       uC c150 fun v153 c154 =>
       dL 1 v153 fun x155 n156 =>
       uN c154 (cl law0_CopyPage [(.agg [(.bool true), (.bool true), (.sl (some ((ln (pu (pu H1 (.row true 9 [(.str (mkS [97])), (.str (mkS [98])), (.str (mkS [99])), (.str (mkS [100])), (.str (mkS [101]))])) (.row true 9 [(.str (mkS [])), (.str (mkS [])), (.str (mkS [])), (.str (mkS [])), (.str (mkS []))]))), 0)) 2 1), (.sl (some ((ln (pu (pu (pu H1 (.row true 9 [(.str (mkS [97])), (.str (mkS [98])), (.str (mkS [99])), (.str (mkS [100])), (.str (mkS [101]))])) (.row true 9 [(.str (mkS [])), (.str (mkS [])), (.str (mkS [])), (.str (mkS [])), (.str (mkS []))])) (.row true 9 [(.str (mkS [120])), (.str (mkS [121]))]))), 0)) 2 1), (.sl none 0 1)])] (pu (pu H137 (.row true 9 [(.str (mkS [116])), (.str (mkS [117]))])) (.row true 3 [(.int .i64 3), (.int .i64 4), (.int .i64 5)])) fun r157 H158 =>
       rA r157 fun c159 =>
       uC c159 fun v160 c161 =>
       dB v160 fun b162 =>
       uC c161 fun v163 c164 =>
       dB v163 fun b165 =>
       uC c164 fun v166 c167 =>
       dL 1 v166 fun x168 n169 =>
       uC c167 fun v170 c171 =>
       dL 1 v170 fun x172 n173 =>
       uC c171 fun v174 c175 =>
       dL 1 v174 fun x176 n177 =>
       uN c175 (law9_NodeForms.l38 k true true (some ((ln (pu (pu H1 (.row true 9 [(.str (mkS [97])), (.str (mkS [98])), (.str (mkS [99])), (.str (mkS [100])), (.str (mkS [101]))])) (.row true 9 [(.str (mkS [])), (.str (mkS [])), (.str (mkS [])), (.str (mkS [])), (.str (mkS []))]))), 0)) 2 (some ((ln (pu (pu (pu H1 (.row true 9 [(.str (mkS [97])), (.str (mkS [98])), (.str (mkS [99])), (.str (mkS [100])), (.str (mkS [101]))])) (.row true 9 [(.str (mkS [])), (.str (mkS [])), (.str (mkS [])), (.str (mkS [])), (.str (mkS []))])) (.row true 9 [(.str (mkS [120])), (.str (mkS [121]))]))), 0)) 2 none 0 b141 b144 x147 n148 x151 n152 x155 n156 true false (some ((ln H137), 0)) 2 none 0 (some ((ln (pu H137 (.row true 9 [(.str (mkS [116])), (.str (mkS [117]))]))), 0)) 3 (mkS [115]) b162 b165 x168 n169 x172 n173 x176 n177 H158 Q)))
      (bite (eqI (Int.tmod (wrapI .u64 z0) 8) 5)
       (cl law0_CopyPage [(.agg [(.bool true), (.bool false), (.sl (some ((ln (pu (pu (pu (pu H1 (.row true 9 [(.str (mkS [97])), (.str (mkS [98])), (.str (mkS [99])), (.str (mkS [100])), (.str (mkS [101]))])) (.row true 9 [(.str (mkS [])), (.str (mkS [])), (.str (mkS [])), (.str (mkS [])), (.str (mkS []))])) (.row true 9 [(.str (mkS [120])), (.str (mkS [121]))])) (.row true 9 [(.str (mkS [])), (.str (mkS []))]))), 0)) 2 1), (.sl none 0 1), (.sl (some ((ln (pu (pu (pu (pu (pu H1 (.row true 9 [(.str (mkS [97])), (.str (mkS [98])), (.str (mkS [99])), (.str (mkS [100])), (.str (mkS [101]))])) (.row true 9 [(.str (mkS [])), (.str (mkS [])), (.str (mkS [])), (.str (mkS [])), (.str (mkS []))])) (.row true 9 [(.str (mkS [120])), (.str (mkS [121]))])) (.row true 9 [(.str (mkS [])), (.str (mkS []))])) (.row true 9 [(.str (mkS [112])), (.str (mkS [113]))]))), 0)) 3 1)])] H47 fun r178 H179 =>
        rA r178 fun c180 =>
        uC c180 fun v181 c182 =>
        dB v181 fun b183 =>
        uC c182 fun v184 c185 =>
        dB v184 fun b186 =>
        uC c185 fun v187 c188 =>
        dL 1 v187 fun x189 n190 =>
        uC c188 fun v191 c192 =>
        dL 1 v191 fun x193 n194 =>
        uC c192 fun v195 c196 =>
        dL 1 v195 fun x197 n198 =>
        uN c196 (cl law0_CopyPage [(.agg [(.bool true), (.bool false), (.sl (some ((ln (pu (pu (pu (pu H1 (.row true 9 [(.str (mkS [97])), (.str (mkS [98])), (.str (mkS [99])), (.str (mkS [100])), (.str (mkS [101]))])) (.row true 9 [(.str (mkS [])), (.str (mkS [])), (.str (mkS [])), (.str (mkS [])), (.str (mkS []))])) (.row true 9 [(.str (mkS [120])), (.str (mkS [121]))])) (.row true 9 [(.str (mkS [])), (.str (mkS []))]))), 0)) 2 1), (.sl none 0 1), (.sl (some ((ln (pu (pu (pu (pu (pu H1 (.row true 9 [(.str (mkS [97])), (.str (mkS [98])), (.str (mkS [99])), (.str (mkS [100])), (.str (mkS [101]))])) (.row true 9 [(.str (mkS [])), (.str (mkS [])), (.str (mkS [])), (.str (mkS [])), (.str (mkS []))])) (.row true 9 [(.str (mkS [120])), (.str (mkS [121]))])) (.row true 9 [(.str (mkS [])), (.str (mkS []))])) (.row true 9 [(.str (mkS [112])), (.str (mkS [113]))]))), 0)) 3 1)])] (pu (pu H179 (.row true 9 [(.str (mkS [116])), (.str (mkS [117]))])) (.row true 3 [(.int .i64 4), (.int .i64 5), (.int .i64 6)])) fun r199 H200 =>
        rA r199 fun c201 =>
        uC c201 fun v202 c203 =>
        dB v202 fun b204 =>
        uC c203 fun v205 c206 =>
        dB v205 fun b207 =>
        uC c206 fun v208 c209 =>
        dL 1 v208 fun x210 n211 =>
        uC c209 fun v212 c213 =>
        dL 1 v212 fun x214 n215 =>
        uC c213 fun v216 c217 =>
        dL 1 v216 fun x218 n219 =>
        uN c217 (law9_NodeForms.l38 k true true (some ((ln (pu (pu H1 (.row true 9 [(.str (mkS [97])), (.str (mkS [98])), (.str (mkS [99])), (.str (mkS [100])), (.str (mkS [101]))])) (.row true 9 [(.str (mkS [])), (.str (mkS [])), (.str (mkS [])), (.str (mkS [])), (.str (mkS []))]))), 0)) 2 (some ((ln (pu (pu (pu H1 (.row true 9 [(.str (mkS [97])), (.str (mkS [98])), (.str (mkS [99])), (.str (mkS [100])), (.str (mkS [101]))])) (.row true 9 [(.str (mkS [])), (.str (mkS [])), (.str (mkS [])), (.str (mkS [])), (.str (mkS []))])) (.row true 9 [(.str (mkS [120])), (.str (mkS [121]))]))), 0)) 2 none 0 b183 b186 x189 n190 x193 n194 x197 n198 true false (some ((ln H179), 0)) 2 none 0 (some ((ln (pu H179 (.row true 9 [(.str (mkS [116])), (.str (mkS [117]))]))), 0)) 3 (mkS [115]) b204 b207 x210 n211 x214 n215 x218 n219 H200 Q)))
       (bite (eqI (Int.tmod (wrapI .u64 z0) 8) 6)
        (law9_NodeForms.l38 k true true (some ((ln (pu (pu H1 (.row true 9 [(.str (mkS [97])), (.str (mkS [98])), (.str (mkS [99])), (.str (mkS [100])), (.str (mkS [101]))])) (.row true 9 [(.str (mkS [])), (.str (mkS [])), (.str (mkS [])), (.str (mkS [])), (.str (mkS []))]))), 0)) 2 (some ((ln (pu (pu (pu H1 (.row true 9 [(.str (mkS [97])), (.str (mkS [98])), (.str (mkS [99])), (.str (mkS [100])), (.str (mkS [101]))])) (.row true 9 [(.str (mkS [])), (.str (mkS [])), (.str (mkS [])), (.str (mkS [])), (.str (mkS []))])) (.row true 9 [(.str (mkS [120])), (.str (mkS [121]))]))), 0)) 2 none 0 true true (some ((ln H47), 0)) 3 (some ((ln (pu H47 (.row true 9 [(.str (mkS [97])), (.str (mkS [98])), (.str (mkS [99]))]))), 0)) 3 none 0 b30 b33 x36 n37 x40 n41 x44 n45 (mkS [109]) b51 false x57 n58 x61 n62 x65 n66 (pu (pu H47 (.row true 9 [(.str (mkS [97])), (.str (mkS [98])), (.str (mkS [99]))])) (.row true 9 [(.str (mkS [])), (.str (mkS [])), (.str (mkS []))])) Q)
        (chk true (chk ((leI 0 1) && (ltI 1 (nI n37))) (pS x36 fun n220 n221 =>
         wr H47 n220 (n221 + ((tN 1) * 1)) (.str (mkS [])) fun H222 =>
         chk true (chk ((leI 0 4) && (ltI 4 (nI n58))) (pS x57 fun n223 n224 =>
         wr H222 n223 (n224 + ((tN 4) * 1)) (.str (mkS [116, 111, 111, 108, 111, 110, 103])) fun H225 =>
         law9_NodeForms.l38 k true true (some ((ln (pu (pu H1 (.row true 9 [(.str (mkS [97])), (.str (mkS [98])), (.str (mkS [99])), (.str (mkS [100])), (.str (mkS [101]))])) (.row true 9 [(.str (mkS [])), (.str (mkS [])), (.str (mkS [])), (.str (mkS [])), (.str (mkS []))]))), 0)) 2 (some ((ln (pu (pu (pu H1 (.row true 9 [(.str (mkS [97])), (.str (mkS [98])), (.str (mkS [99])), (.str (mkS [100])), (.str (mkS [101]))])) (.row true 9 [(.str (mkS [])), (.str (mkS [])), (.str (mkS [])), (.str (mkS [])), (.str (mkS []))])) (.row true 9 [(.str (mkS [120])), (.str (mkS [121]))]))), 0)) 2 none 0 b9 b12 x15 n16 x19 n20 x23 n24 b30 b33 x36 n37 x40 n41 x44 n45 (mkS [109]) b51 b54 x57 n58 x61 n62 x65 n66 H225 Q)))))))))))))))) := by kernel_rfl
theorem law9_NodeForms.l38_eq (k : Nat) (bx0 : Bool) (bx1 : Bool) (ax2 : Pl) (nx3 : Nat) (ax4 : Pl) (nx5 : Nat) (ax6 : Pl) (nx7 : Nat) (bx8 : Bool) (bx9 : Bool) (xx10 : Pl) (nx11 : Nat) (xx12 : Pl) (nx13 : Nat) (xx14 : Pl) (nx15 : Nat) (bx16 : Bool) (bx17 : Bool) (xx18 : Pl) (nx19 : Nat) (xx20 : Pl) (nx21 : Nat) (xx22 : Pl) (nx23 : Nat) (sx24 : ByteArray) (bx25 : Bool) (bx26 : Bool) (xx27 : Pl) (nx28 : Nat) (xx29 : Pl) (nx30 : Nat) (xx31 : Pl) (nx32 : Nat) (H : Hp) (Q : Post) : law9_NodeForms.l38 (k + 1) bx0 bx1 ax2 nx3 ax4 nx5 ax6 nx7 bx8 bx9 xx10 nx11 xx12 nx13 xx14 nx15 bx16 bx17 xx18 nx19 xx20 nx21 xx22 nx23 sx24 bx25 bx26 xx27 nx28 xx29 nx30 xx31 nx32 H Q = (
 cl node_Split [(.agg [(.bool bx25), (.bool bx26), (.sl xx27 nx28 1), (.sl xx29 nx30 1), (.sl xx31 nx32 1)])] H fun r0 H1 =>
 rT r0 fun c2 =>
 uR c2 fun q3 c4 =>
 rC q3 fun c5 =>
 uC c5 fun v6 c7 =>
 dB v6 fun b8 =>
 uC c7 fun v9 c10 =>
 dB v9 fun b11 =>
 uC c10 fun v12 c13 =>
 dL 1 v12 fun x14 n15 =>
 uC c13 fun v16 c17 =>
 dL 1 v16 fun x18 n19 =>
 uC c17 fun v20 c21 =>
 dL 1 v20 fun x22 n23 =>
 uN c21 (uR c4 fun q24 c25 =>
 rS q24 fun v26 =>
 dS v26 fun s27 =>
 uR c25 fun q28 c29 =>
 rC q28 fun c30 =>
 uC c30 fun v31 c32 =>
 dB v31 fun b33 =>
 uC c32 fun v34 c35 =>
 dB v34 fun b36 =>
 uC c35 fun v37 c38 =>
 dL 1 v37 fun x39 n40 =>
 uC c38 fun v41 c42 =>
 dL 1 v41 fun x43 n44 =>
 uC c42 fun v45 c46 =>
 dL 1 v45 fun x47 n48 =>
 uN c46 (uR c29 fun q49 c50 =>
 rS q49 fun v51 =>
 dI .i64 v51 fun i52 =>
 uE c50 (cl node_Join [(.agg [(.bool bx8), (.bool bx9), (.sl xx10 nx11 1), (.sl xx12 nx13 1), (.sl xx14 nx15 1)]), (.g (.str sx24)), (.agg [(.bool bx16), (.bool bx17), (.sl xx18 nx19 1), (.sl xx20 nx21 1), (.sl xx22 nx23 1)])] H1 fun r53 H54 =>
 rT r53 fun c55 =>
 uR c55 fun q56 c57 =>
 rC q56 fun c58 =>
 uC c58 fun v59 c60 =>
 dB v59 fun b61 =>
 uC c60 fun v62 c63 =>
 dB v62 fun b64 =>
 uC c63 fun v65 c66 =>
 dL 1 v65 fun x67 n68 =>
 uC c66 fun v69 c70 =>
 dL 1 v69 fun x71 n72 =>
 uC c70 fun v73 c74 =>
 dL 1 v73 fun x75 n76 =>
 uN c74 (uR c57 fun q77 c78 =>
 rS q77 fun v79 =>
 dI .i64 v79 fun i80 =>
 uE c78 (cl law0_Num [(.g (.int .i64 i52))] H54 fun r81 H82 =>
 rG r81 fun v83 =>
 dI .i64 v83 fun i84 =>
 bite (eqI i84 900)
 (cl law0_Num [(.g (.int .i64 i80))] H82 fun r85 H86 =>
  rG r85 fun v87 =>
  dI .i64 v87 fun i88 =>
  bite (eqI i88 900)
  (cl ref1_PageMay [(.agg [(.bool bx0), (.bool bx1), (.sl ax2 nx3 1), (.sl ax4 nx5 1), (.sl ax6 nx7 1)])] H86 fun r89 H90 =>
   rG r89 fun v91 =>
   dB v91 fun b92 =>
   Q (.g (.bool b92)) H90)
  (Q (.g (.bool false)) H86))
 (Q (.g (.bool false)) H82))))))) := by kernel_rfl
theorem law9_NodeForms_ok : Sound Go.Proofs.Try.prog 10 (law9_NodeForms) := prog_ok.sound (cx := law9_NodeForms.cx) rfl (EnvOK.cons ((law9_awake_ok).c ⟨_, Go.Proofs.Try.func32, by kernel_rfl, by kernel_rfl⟩) (EnvOK.cons ((law0_CopyPage_ok).c ⟨_, Go.Proofs.Try.func13, by kernel_rfl, by kernel_rfl⟩) (EnvOK.cons ((node_Split_ok).c ⟨_, Go.Proofs.Try.func27, by kernel_rfl, by kernel_rfl⟩) (EnvOK.cons ((node_Join_ok).c ⟨_, Go.Proofs.Try.func29, by kernel_rfl, by kernel_rfl⟩) (EnvOK.cons ((law0_Num_ok).c ⟨_, Go.Proofs.Try.func18, by kernel_rfl, by kernel_rfl⟩) (EnvOK.cons ((ref1_PageMay_ok).c ⟨_, Go.Proofs.Try.func21, by kernel_rfl, by kernel_rfl⟩) (EnvOK.nil _))))))) (noDyn_ok _) Go.Proofs.Try.func10 rfl

/-! 11: cryostat/cryostatlaw9.NodeJoins -/
def law9_NodeJoins.cx : Cx := ⟨tys, [20, 26, 84], [(8, [1, 5, 6, 7, 8, 9]), (14, [1, 5, 6, 7, 8, 10]), (18, [1, 5, 6, 7, 8, 11]), (22, [1, 5, 6, 7, 8, 12])], [(13, [1, 5, 6, 7, 8]), (30, [6, 7, 8])], [(32, law9_awake), (29, node_Join), (18, law0_Num), (19, law0_SamePage)], noDyn, [.tmp 4]⟩
def law9_NodeJoins : Sm := fun xs H Q => ∃ k, callK (law9_NodeJoins.cx) Go.Proofs.Try.f11 k xs H Q
def law9_NodeJoins.l8 (k : Nat) (bx0 : Bool) (ix1 : Int) (bx2 : Bool) (bx3 : Bool) (xx4 : Pl) (nx5 : Nat) (ax6 : Pl) (nx7 : Nat) (ax8 : Pl) (nx9 : Nat) (bx10 : Bool) (bx11 : Bool) (xx12 : Pl) (nx13 : Nat) (ax14 : Pl) (nx15 : Nat) (ax16 : Pl) (nx17 : Nat) (bx18 : Bool) (bx19 : Bool) (ax20 : Pl) (nx21 : Nat) (ax22 : Pl) (nx23 : Nat) (ax24 : Pl) (nx25 : Nat) (ix26 : Int) (H : Hp) (Q : Post) : Prop := loopK (law9_NodeJoins.cx) Go.Proofs.Try.f11 8 k (.bad :: (.g (.bool bx0)) :: B 3 ((.g (.int .i64 ix1)) :: (.bx [(.bool bx2), (.bool bx3), (.sl xx4 nx5 1), (.sl ax6 nx7 1), (.sl ax8 nx9 1)]) :: (.bx [(.bool bx10), (.bool bx11), (.sl xx12 nx13 1), (.sl ax14 nx15 1), (.sl ax16 nx17 1)]) :: (.bx [(.bool bx18), (.bool bx19), (.sl ax20 nx21 1), (.sl ax22 nx23 1), (.sl ax24 nx25 1)]) :: (.g (.int .i64 ix26)) :: B 133 ([]))) H Q
def law9_NodeJoins.l13 (k : Nat) (bx0 : Bool) (ix1 : Int) (bx2 : Bool) (bx3 : Bool) (xx4 : Pl) (nx5 : Nat) (ax6 : Pl) (nx7 : Nat) (ax8 : Pl) (nx9 : Nat) (bx10 : Bool) (bx11 : Bool) (xx12 : Pl) (nx13 : Nat) (ax14 : Pl) (nx15 : Nat) (ax16 : Pl) (nx17 : Nat) (bx18 : Bool) (bx19 : Bool) (xx20 : Pl) (nx21 : Nat) (ax22 : Pl) (nx23 : Nat) (ax24 : Pl) (nx25 : Nat) (H : Hp) (Q : Post) : Prop := loopK (law9_NodeJoins.cx) Go.Proofs.Try.f11 13 k (.bad :: (.g (.bool bx0)) :: B 3 ((.g (.int .i64 ix1)) :: (.bx [(.bool bx2), (.bool bx3), (.sl xx4 nx5 1), (.sl ax6 nx7 1), (.sl ax8 nx9 1)]) :: (.bx [(.bool bx10), (.bool bx11), (.sl xx12 nx13 1), (.sl ax14 nx15 1), (.sl ax16 nx17 1)]) :: (.bx [(.bool bx18), (.bool bx19), (.sl xx20 nx21 1), (.sl ax22 nx23 1), (.sl ax24 nx25 1)]) :: B 134 ([]))) H Q
def law9_NodeJoins.l14 (k : Nat) (bx0 : Bool) (ix1 : Int) (bx2 : Bool) (bx3 : Bool) (xx4 : Pl) (nx5 : Nat) (ax6 : Pl) (nx7 : Nat) (ax8 : Pl) (nx9 : Nat) (bx10 : Bool) (bx11 : Bool) (xx12 : Pl) (nx13 : Nat) (ax14 : Pl) (nx15 : Nat) (ax16 : Pl) (nx17 : Nat) (bx18 : Bool) (bx19 : Bool) (xx20 : Pl) (nx21 : Nat) (ax22 : Pl) (nx23 : Nat) (ax24 : Pl) (nx25 : Nat) (ix26 : Int) (H : Hp) (Q : Post) : Prop := loopK (law9_NodeJoins.cx) Go.Proofs.Try.f11 14 k (.bad :: (.g (.bool bx0)) :: B 3 ((.g (.int .i64 ix1)) :: (.bx [(.bool bx2), (.bool bx3), (.sl xx4 nx5 1), (.sl ax6 nx7 1), (.sl ax8 nx9 1)]) :: (.bx [(.bool bx10), (.bool bx11), (.sl xx12 nx13 1), (.sl ax14 nx15 1), (.sl ax16 nx17 1)]) :: (.bx [(.bool bx18), (.bool bx19), (.sl xx20 nx21 1), (.sl ax22 nx23 1), (.sl ax24 nx25 1)]) :: .bad :: (.g (.int .i64 ix26)) :: B 132 ([]))) H Q
def law9_NodeJoins.l18 (k : Nat) (bx0 : Bool) (ix1 : Int) (bx2 : Bool) (bx3 : Bool) (xx4 : Pl) (nx5 : Nat) (ax6 : Pl) (nx7 : Nat) (ax8 : Pl) (nx9 : Nat) (bx10 : Bool) (bx11 : Bool) (xx12 : Pl) (nx13 : Nat) (ax14 : Pl) (nx15 : Nat) (ax16 : Pl) (nx17 : Nat) (bx18 : Bool) (bx19 : Bool) (xx20 : Pl) (nx21 : Nat) (ax22 : Pl) (nx23 : Nat) (ax24 : Pl) (nx25 : Nat) (ix26 : Int) (H : Hp) (Q : Post) : Prop := loopK (law9_NodeJoins.cx) Go.Proofs.Try.f11 18 k (.bad :: (.g (.bool bx0)) :: B 3 ((.g (.int .i64 ix1)) :: (.bx [(.bool bx2), (.bool bx3), (.sl xx4 nx5 1), (.sl ax6 nx7 1), (.sl ax8 nx9 1)]) :: (.bx [(.bool bx10), (.bool bx11), (.sl xx12 nx13 1), (.sl ax14 nx15 1), (.sl ax16 nx17 1)]) :: (.bx [(.bool bx18), (.bool bx19), (.sl xx20 nx21 1), (.sl ax22 nx23 1), (.sl ax24 nx25 1)]) :: .bad :: .bad :: (.g (.int .i64 ix26)) :: B 131 ([]))) H Q
def law9_NodeJoins.l22 (k : Nat) (bx0 : Bool) (ix1 : Int) (bx2 : Bool) (bx3 : Bool) (xx4 : Pl) (nx5 : Nat) (ax6 : Pl) (nx7 : Nat) (ax8 : Pl) (nx9 : Nat) (bx10 : Bool) (bx11 : Bool) (xx12 : Pl) (nx13 : Nat) (ax14 : Pl) (nx15 : Nat) (ax16 : Pl) (nx17 : Nat) (bx18 : Bool) (bx19 : Bool) (xx20 : Pl) (nx21 : Nat) (ax22 : Pl) (nx23 : Nat) (ax24 : Pl) (nx25 : Nat) (ix26 : Int) (H : Hp) (Q : Post) : Prop := loopK (law9_NodeJoins.cx) Go.Proofs.Try.f11 22 k (.bad :: (.g (.bool bx0)) :: B 3 ((.g (.int .i64 ix1)) :: (.bx [(.bool bx2), (.bool bx3), (.sl xx4 nx5 1), (.sl ax6 nx7 1), (.sl ax8 nx9 1)]) :: (.bx [(.bool bx10), (.bool bx11), (.sl xx12 nx13 1), (.sl ax14 nx15 1), (.sl ax16 nx17 1)]) :: (.bx [(.bool bx18), (.bool bx19), (.sl xx20 nx21 1), (.sl ax22 nx23 1), (.sl ax24 nx25 1)]) :: B 3 ((.g (.int .i64 ix26)) :: B 130 ([])))) H Q
def law9_NodeJoins.l30 (k : Nat) (bx0 : Bool) (bx1 : Bool) (xx2 : Pl) (nx3 : Nat) (xx4 : Pl) (nx5 : Nat) (ax6 : Pl) (nx7 : Nat) (bx8 : Bool) (bx9 : Bool) (xx10 : Pl) (nx11 : Nat) (xx12 : Pl) (nx13 : Nat) (ax14 : Pl) (nx15 : Nat) (bx16 : Bool) (bx17 : Bool) (xx18 : Pl) (nx19 : Nat) (ax20 : Pl) (nx21 : Nat) (ax22 : Pl) (nx23 : Nat) (H : Hp) (Q : Post) : Prop := loopK (law9_NodeJoins.cx) Go.Proofs.Try.f11 30 k (B 6 ((.bx [(.bool bx0), (.bool bx1), (.sl xx2 nx3 1), (.sl xx4 nx5 1), (.sl ax6 nx7 1)]) :: (.bx [(.bool bx8), (.bool bx9), (.sl xx10 nx11 1), (.sl xx12 nx13 1), (.sl ax14 nx15 1)]) :: (.bx [(.bool bx16), (.bool bx17), (.sl xx18 nx19 1), (.sl ax20 nx21 1), (.sl ax22 nx23 1)]) :: B 134 ([]))) H Q
theorem law9_NodeJoins_eq (k : Nat) (z0 : Int) (z1 : Bool) (H : Hp) (Q : Post) : callK (law9_NodeJoins.cx) Go.Proofs.Try.f11 (k + 1) [.g (.int .i64 z0), .g (.bool z1)] H Q = (
 cl law9_awake [] H fun r0 H1 =>
 rG r0 fun v2 =>
 dB v2 fun b3 =>
 bite (!b3)
 (Q (.g (.bool false)) H1)
 (chk true (chk (leI 0 (wrapI .i64 (1 + (bitsI .and .i64 z0 1)))) (chk ((leN 0 (tN (wrapI .i64 (1 + (bitsI .and .i64 z0 1))))) && ((leN (tN (wrapI .i64 (1 + (bitsI .and .i64 z0 1)))) 2) || (room (pu H1 (.row true 9 [(.str (mkS [97])), (.str (mkS [98]))])) (some ((ln H1), 0)) ((tN (wrapI .i64 (1 + (bitsI .and .i64 z0 1)))) * 1)))) (chk true (chk (leI 0 (wrapI .i64 (2 - (bitsI .and .i64 z0 1)))) (chk ((leN 0 (tN (wrapI .i64 (2 - (bitsI .and .i64 z0 1))))) && ((leN (tN (wrapI .i64 (2 - (bitsI .and .i64 z0 1)))) 2) || (room (pu (pu H1 (.row true 9 [(.str (mkS [97])), (.str (mkS [98]))])) (.row true 9 [(.str (mkS [120])), (.str (mkS [121]))])) (some ((ln (pu H1 (.row true 9 [(.str (mkS [97])), (.str (mkS [98]))]))), 0)) ((tN (wrapI .i64 (2 - (bitsI .and .i64 z0 1)))) * 1)))) (law9_NodeJoins.l8 k z1 (bitsI .and .i64 z0 1) true z1 (shf (some ((ln H1), 0)) 0) ((tN (wrapI .i64 (1 + (bitsI .and .i64 z0 1)))) - 0) none 0 none 0 true z1 (shf (some ((ln (pu H1 (.row true 9 [(.str (mkS [97])), (.str (mkS [98]))]))), 0)) 0) ((tN (wrapI .i64 (2 - (bitsI .and .i64 z0 1)))) - 0) none 0 none 0 true z1 none 0 none 0 none 0 0 (pu (pu H1 (.row true 9 [(.str (mkS [97])), (.str (mkS [98]))])) (.row true 9 [(.str (mkS [120])), (.str (mkS [121]))])) Q)))))))) := by kernel_rfl
theorem law9_NodeJoins.l8_eq (k : Nat) (bx0 : Bool) (ix1 : Int) (bx2 : Bool) (bx3 : Bool) (xx4 : Pl) (nx5 : Nat) (ax6 : Pl) (nx7 : Nat) (ax8 : Pl) (nx9 : Nat) (bx10 : Bool) (bx11 : Bool) (xx12 : Pl) (nx13 : Nat) (ax14 : Pl) (nx15 : Nat) (ax16 : Pl) (nx17 : Nat) (bx18 : Bool) (bx19 : Bool) (ax20 : Pl) (nx21 : Nat) (ax22 : Pl) (nx23 : Nat) (ax24 : Pl) (nx25 : Nat) (ix26 : Int) (H : Hp) (Q : Post) : law9_NodeJoins.l8 (k + 1) bx0 ix1 bx2 bx3 xx4 nx5 ax6 nx7 ax8 nx9 bx10 bx11 xx12 nx13 ax14 nx15 ax16 nx17 bx18 bx19 ax20 nx21 ax22 nx23 ax24 nx25 ix26 H Q = (
 bite (ltI ix26 (wrapI .i64 (1 + ix1)))
 (chk true (chk ((leI 0 ix26) && (ltI ix26 (nI nx5))) (pS xx4 fun n0 n1 =>
  rd H n0 (n1 + ((tN ix26) * 1)) fun v2 =>
  dS v2 fun s3 =>
  chk true (ap H 9 1 16 ax20 nx21 [(.str s3)] 1 fun x4 n5 H6 =>
  law9_NodeJoins.l8 k bx0 ix1 bx2 bx3 xx4 nx5 ax6 nx7 ax8 nx9 bx10 bx11 xx12 nx13 ax14 nx15 ax16 nx17 bx18 bx19 x4 n5 ax22 nx23 ax24 nx25 (wrapI .i64 (ix26 + 1)) H6 Q))))
 (bite (!bx0)
  (chk true (ap H 9 1 16 ax20 nx21 [(.str (mkS [109]))] 1 fun x7 n8 H9 =>
   law9_NodeJoins.l13 k bx0 ix1 bx2 bx3 xx4 nx5 ax6 nx7 ax8 nx9 bx10 bx11 xx12 nx13 ax14 nx15 ax16 nx17 bx18 bx19 x7 n8 ax22 nx23 ax24 nx25 H9 Q))
  (law9_NodeJoins.l13 k bx0 ix1 bx2 bx3 xx4 nx5 ax6 nx7 ax8 nx9 bx10 bx11 xx12 nx13 ax14 nx15 ax16 nx17 bx18 bx19 ax20 nx21 ax22 nx23 ax24 nx25 H Q))) := by kernel_rfl
theorem law9_NodeJoins.l13_eq (k : Nat) (bx0 : Bool) (ix1 : Int) (bx2 : Bool) (bx3 : Bool) (xx4 : Pl) (nx5 : Nat) (ax6 : Pl) (nx7 : Nat) (ax8 : Pl) (nx9 : Nat) (bx10 : Bool) (bx11 : Bool) (xx12 : Pl) (nx13 : Nat) (ax14 : Pl) (nx15 : Nat) (ax16 : Pl) (nx17 : Nat) (bx18 : Bool) (bx19 : Bool) (xx20 : Pl) (nx21 : Nat) (ax22 : Pl) (nx23 : Nat) (ax24 : Pl) (nx25 : Nat) (H : Hp) (Q : Post) : law9_NodeJoins.l13 (k + 1) bx0 ix1 bx2 bx3 xx4 nx5 ax6 nx7 ax8 nx9 bx10 bx11 xx12 nx13 ax14 nx15 ax16 nx17 bx18 bx19 xx20 nx21 ax22 nx23 ax24 nx25 H Q = (
 law9_NodeJoins.l14 k bx0 ix1 bx2 bx3 xx4 nx5 ax6 nx7 ax8 nx9 bx10 bx11 xx12 nx13 ax14 nx15 ax16 nx17 bx18 bx19 xx20 nx21 ax22 nx23 ax24 nx25 0 H Q) := by kernel_rfl
theorem law9_NodeJoins.l14_eq (k : Nat) (bx0 : Bool) (ix1 : Int) (bx2 : Bool) (bx3 : Bool) (xx4 : Pl) (nx5 : Nat) (ax6 : Pl) (nx7 : Nat) (ax8 : Pl) (nx9 : Nat) (bx10 : Bool) (bx11 : Bool) (xx12 : Pl) (nx13 : Nat) (ax14 : Pl) (nx15 : Nat) (ax16 : Pl) (nx17 : Nat) (bx18 : Bool) (bx19 : Bool) (xx20 : Pl) (nx21 : Nat) (ax22 : Pl) (nx23 : Nat) (ax24 : Pl) (nx25 : Nat) (ix26 : Int) (H : Hp) (Q : Post) : law9_NodeJoins.l14 (k + 1) bx0 ix1 bx2 bx3 xx4 nx5 ax6 nx7 ax8 nx9 bx10 bx11 xx12 nx13 ax14 nx15 ax16 nx17 bx18 bx19 xx20 nx21 ax22 nx23 ax24 nx25 ix26 H Q = (
 bite (ltI ix26 (wrapI .i64 (2 - ix1)))
 (chk true (chk ((leI 0 ix26) && (ltI ix26 (nI nx13))) (pS xx12 fun n0 n1 =>
  rd H n0 (n1 + ((tN ix26) * 1)) fun v2 =>
  dS v2 fun s3 =>
  chk true (ap H 9 1 16 xx20 nx21 [(.str s3)] 1 fun x4 n5 H6 =>
  law9_NodeJoins.l14 k bx0 ix1 bx2 bx3 xx4 nx5 ax6 nx7 ax8 nx9 bx10 bx11 xx12 nx13 ax14 nx15 ax16 nx17 bx18 bx19 x4 n5 ax22 nx23 ax24 nx25 (wrapI .i64 (ix26 + 1)) H6 Q))))
 (law9_NodeJoins.l18 k bx0 ix1 bx2 bx3 xx4 nx5 ax6 nx7 ax8 nx9 bx10 bx11 xx12 nx13 ax14 nx15 ax16 nx17 bx18 bx19 xx20 nx21 ax22 nx23 ax24 nx25 0 H Q)) := by kernel_rfl
theorem law9_NodeJoins.l18_eq (k : Nat) (bx0 : Bool) (ix1 : Int) (bx2 : Bool) (bx3 : Bool) (xx4 : Pl) (nx5 : Nat) (ax6 : Pl) (nx7 : Nat) (ax8 : Pl) (nx9 : Nat) (bx10 : Bool) (bx11 : Bool) (xx12 : Pl) (nx13 : Nat) (ax14 : Pl) (nx15 : Nat) (ax16 : Pl) (nx17 : Nat) (bx18 : Bool) (bx19 : Bool) (xx20 : Pl) (nx21 : Nat) (ax22 : Pl) (nx23 : Nat) (ax24 : Pl) (nx25 : Nat) (ix26 : Int) (H : Hp) (Q : Post) : law9_NodeJoins.l18 (k + 1) bx0 ix1 bx2 bx3 xx4 nx5 ax6 nx7 ax8 nx9 bx10 bx11 xx12 nx13 ax14 nx15 ax16 nx17 bx18 bx19 xx20 nx21 ax22 nx23 ax24 nx25 ix26 H Q = (
 bite (ltI ix26 3)
 (bite bx0
  (rdN (pu H (.row true 5 [(.int .u8 (wrapI .u8 (wrapI .i64 (48 + ix26))))])) (some ((ln H), 0)) 1 fun c0 =>
   txt c0 fun s1 =>
   chk true (ap (pu H (.row true 5 [(.int .u8 (wrapI .u8 (wrapI .i64 (48 + ix26))))])) 9 1 16 ax22 nx23 [(.str s1)] 1 fun x2 n3 H4 =>
   law9_NodeJoins.l18 k bx0 ix1 bx2 bx3 xx4 nx5 ax6 nx7 ax8 nx9 bx10 bx11 xx12 nx13 ax14 nx15 ax16 nx17 bx18 bx19 xx20 nx21 x2 n3 ax24 nx25 (wrapI .i64 (ix26 + 1)) H4 Q))
  (law9_NodeJoins.l22 k bx0 ix1 bx2 bx3 xx4 nx5 ax6 nx7 ax8 nx9 bx10 bx11 xx12 nx13 ax14 nx15 ax16 nx17 bx18 bx19 xx20 nx21 ax22 nx23 ax24 nx25 0 H Q))
 (law9_NodeJoins.l22 k bx0 ix1 bx2 bx3 xx4 nx5 ax6 nx7 ax8 nx9 bx10 bx11 xx12 nx13 ax14 nx15 ax16 nx17 bx18 bx19 xx20 nx21 ax22 nx23 ax24 nx25 0 H Q)) := by kernel_rfl
theorem law9_NodeJoins.l22_eq (k : Nat) (bx0 : Bool) (ix1 : Int) (bx2 : Bool) (bx3 : Bool) (xx4 : Pl) (nx5 : Nat) (ax6 : Pl) (nx7 : Nat) (ax8 : Pl) (nx9 : Nat) (bx10 : Bool) (bx11 : Bool) (xx12 : Pl) (nx13 : Nat) (ax14 : Pl) (nx15 : Nat) (ax16 : Pl) (nx17 : Nat) (bx18 : Bool) (bx19 : Bool) (xx20 : Pl) (nx21 : Nat) (ax22 : Pl) (nx23 : Nat) (ax24 : Pl) (nx25 : Nat) (ix26 : Int) (H : Hp) (Q : Post) : law9_NodeJoins.l22 (k + 1) bx0 ix1 bx2 bx3 xx4 nx5 ax6 nx7 ax8 nx9 bx10 bx11 xx12 nx13 ax14 nx15 ax16 nx17 bx18 bx19 xx20 nx21 ax22 nx23 ax24 nx25 ix26 H Q = (
 bite (ltI ix26 5)
 (bite (!bx0)
  (chk true (ap H 3 1 8 ax24 nx25 [(.int .i64 (wrapI .i64 (7 + ix26)))] 1 fun x0 n1 H2 =>
   law9_NodeJoins.l22 k bx0 ix1 bx2 bx3 xx4 nx5 ax6 nx7 ax8 nx9 bx10 bx11 xx12 nx13 ax14 nx15 ax16 nx17 bx18 bx19 xx20 nx21 ax22 nx23 x0 n1 (wrapI .i64 (ix26 + 1)) H2 Q))
  (bite bx0
   (chk true (chk (leI 0 (wrapI .i64 (1 + ix1))) (chk ((leN 0 (tN (wrapI .i64 (1 + ix1)))) && ((leN (tN (wrapI .i64 (1 + ix1))) nx23) || (room H ax22 ((tN (wrapI .i64 (1 + ix1))) * 1)))) (chk true (chk (leI 0 (wrapI .i64 (1 + ix1))) (chk (leN (tN (wrapI .i64 (1 + ix1))) nx23) (law9_NodeJoins.l30 k bx2 bx3 xx4 nx5 (shf ax22 0) ((tN (wrapI .i64 (1 + ix1))) - 0) ax8 nx9 bx10 bx11 xx12 nx13 (shf ax22 ((tN (wrapI .i64 (1 + ix1))) * 1)) (nx23 - (tN (wrapI .i64 (1 + ix1)))) ax16 nx17 bx18 bx19 xx20 nx21 ax22 nx23 ax24 nx25 H Q)))))))
   (chk true (chk (leI 0 (wrapI .i64 (2 + ix1))) (chk ((leN 0 (tN (wrapI .i64 (2 + ix1)))) && ((leN (tN (wrapI .i64 (2 + ix1))) nx25) || (room H ax24 ((tN (wrapI .i64 (2 + ix1))) * 1)))) (chk true (chk (leI 0 (wrapI .i64 (2 + ix1))) (chk (leN (tN (wrapI .i64 (2 + ix1))) nx25) (law9_NodeJoins.l30 k bx2 bx3 xx4 nx5 ax6 nx7 (shf ax24 0) ((tN (wrapI .i64 (2 + ix1))) - 0) bx10 bx11 xx12 nx13 ax14 nx15 (shf ax24 ((tN (wrapI .i64 (2 + ix1))) * 1)) (nx25 - (tN (wrapI .i64 (2 + ix1)))) bx18 bx19 xx20 nx21 ax22 nx23 ax24 nx25 H Q)))))))))
 (bite bx0
  (chk true (chk (leI 0 (wrapI .i64 (1 + ix1))) (chk ((leN 0 (tN (wrapI .i64 (1 + ix1)))) && ((leN (tN (wrapI .i64 (1 + ix1))) nx23) || (room H ax22 ((tN (wrapI .i64 (1 + ix1))) * 1)))) (chk true (chk (leI 0 (wrapI .i64 (1 + ix1))) (chk (leN (tN (wrapI .i64 (1 + ix1))) nx23) (law9_NodeJoins.l30 k bx2 bx3 xx4 nx5 (shf ax22 0) ((tN (wrapI .i64 (1 + ix1))) - 0) ax8 nx9 bx10 bx11 xx12 nx13 (shf ax22 ((tN (wrapI .i64 (1 + ix1))) * 1)) (nx23 - (tN (wrapI .i64 (1 + ix1)))) ax16 nx17 bx18 bx19 xx20 nx21 ax22 nx23 ax24 nx25 H Q)))))))
  (chk true (chk (leI 0 (wrapI .i64 (2 + ix1))) (chk ((leN 0 (tN (wrapI .i64 (2 + ix1)))) && ((leN (tN (wrapI .i64 (2 + ix1))) nx25) || (room H ax24 ((tN (wrapI .i64 (2 + ix1))) * 1)))) (chk true (chk (leI 0 (wrapI .i64 (2 + ix1))) (chk (leN (tN (wrapI .i64 (2 + ix1))) nx25) (law9_NodeJoins.l30 k bx2 bx3 xx4 nx5 ax6 nx7 (shf ax24 0) ((tN (wrapI .i64 (2 + ix1))) - 0) bx10 bx11 xx12 nx13 ax14 nx15 (shf ax24 ((tN (wrapI .i64 (2 + ix1))) * 1)) (nx25 - (tN (wrapI .i64 (2 + ix1)))) bx18 bx19 xx20 nx21 ax22 nx23 ax24 nx25 H Q))))))))) := by kernel_rfl
theorem law9_NodeJoins.l30_eq (k : Nat) (bx0 : Bool) (bx1 : Bool) (xx2 : Pl) (nx3 : Nat) (xx4 : Pl) (nx5 : Nat) (ax6 : Pl) (nx7 : Nat) (bx8 : Bool) (bx9 : Bool) (xx10 : Pl) (nx11 : Nat) (xx12 : Pl) (nx13 : Nat) (ax14 : Pl) (nx15 : Nat) (bx16 : Bool) (bx17 : Bool) (xx18 : Pl) (nx19 : Nat) (ax20 : Pl) (nx21 : Nat) (ax22 : Pl) (nx23 : Nat) (H : Hp) (Q : Post) : law9_NodeJoins.l30 (k + 1) bx0 bx1 xx2 nx3 xx4 nx5 ax6 nx7 bx8 bx9 xx10 nx11 xx12 nx13 ax14 nx15 bx16 bx17 xx18 nx19 ax20 nx21 ax22 nx23 H Q = (
 cl node_Join [(.agg [(.bool bx0), (.bool bx1), (.sl xx2 nx3 1), (.sl xx4 nx5 1), (.sl ax6 nx7 1)]), (.g (.str (mkS [109]))), (.agg [(.bool bx8), (.bool bx9), (.sl xx10 nx11 1), (.sl xx12 nx13 1), (.sl ax14 nx15 1)])] H fun r0 H1 =>
 rT r0 fun c2 =>
 uR c2 fun q3 c4 =>
 rC q3 fun c5 =>
 uC c5 fun v6 c7 =>
 dB v6 fun b8 =>
 uC c7 fun v9 c10 =>
 dB v9 fun b11 =>
 uC c10 fun v12 c13 =>
 dL 1 v12 fun x14 n15 =>
 uC c13 fun v16 c17 =>
 dL 1 v16 fun x18 n19 =>
 uC c17 fun v20 c21 =>
 dL 1 v20 fun x22 n23 =>
 uN c21 (uR c4 fun q24 c25 =>
 rS q24 fun v26 =>
 dI .i64 v26 fun i27 =>
 uE c25 (cl law0_Num [(.g (.int .i64 i27))] H1 fun r28 H29 =>
 rG r28 fun v30 =>
 dI .i64 v30 fun i31 =>
 bite (eqI i31 0)
 (cl law0_SamePage [(.agg [(.bool b8), (.bool b11), (.sl x14 n15 1), (.sl x18 n19 1), (.sl x22 n23 1)]), (.agg [(.bool bx16), (.bool bx17), (.sl xx18 nx19 1), (.sl ax20 nx21 1), (.sl ax22 nx23 1)])] H29 fun r32 H33 =>
  rG r32 fun v34 =>
  dB v34 fun b35 =>
  Q (.g (.bool b35)) H33)
 (Q (.g (.bool false)) H29)))) := by kernel_rfl
theorem law9_NodeJoins_ok : Sound Go.Proofs.Try.prog 11 (law9_NodeJoins) := prog_ok.sound (cx := law9_NodeJoins.cx) rfl (EnvOK.cons ((law9_awake_ok).c ⟨_, Go.Proofs.Try.func32, by kernel_rfl, by kernel_rfl⟩) (EnvOK.cons ((node_Join_ok).c ⟨_, Go.Proofs.Try.func29, by kernel_rfl, by kernel_rfl⟩) (EnvOK.cons ((law0_Num_ok).c ⟨_, Go.Proofs.Try.func18, by kernel_rfl, by kernel_rfl⟩) (EnvOK.cons ((law0_SamePage_ok).c ⟨_, Go.Proofs.Try.func19, by kernel_rfl, by kernel_rfl⟩) (EnvOK.nil _))))) (noDyn_ok _) Go.Proofs.Try.func11 rfl

/-! 12: cryostat/cryostatlaw9.NodeSlots -/
def law9_NodeSlots.cx : Cx := ⟨tys, [5, 47, 60], [(5, [0, 1, 5, 6]), (12, [5, 7, 8, 9, 10])], [], [(32, law9_awake), (25, node_Slot), (26, ref9_Slot), (18, law0_Num)], noDyn, [.tmp 4]⟩
def law9_NodeSlots : Sm := fun xs H Q => ∃ k, callK (law9_NodeSlots.cx) Go.Proofs.Try.f12 k xs H Q
theorem law9_NodeSlots_eq (k : Nat) (z0 : Pl) (z0n : Nat) (z1 : Int) (H : Hp) (Q : Post) : callK (law9_NodeSlots.cx) Go.Proofs.Try.f12 (k + 1) [.g (.sl z0 z0n 1), .g (.int .i64 z1)] H Q = (
 cl law9_awake [] H fun r0 H1 =>
 rG r0 fun v2 =>
 dB v2 fun b3 =>
 bite (!b3)
 (Q (.g (.bool false)) H1)
 (False)) := by kernel_rfl
theorem law9_NodeSlots_ok : Sound Go.Proofs.Try.prog 12 (law9_NodeSlots) := prog_ok.sound (cx := law9_NodeSlots.cx) rfl (EnvOK.cons ((law9_awake_ok).c ⟨_, Go.Proofs.Try.func32, by kernel_rfl, by kernel_rfl⟩) (EnvOK.cons ((node_Slot_ok).c ⟨_, Go.Proofs.Try.func25, by kernel_rfl, by kernel_rfl⟩) (EnvOK.cons ((ref9_Slot_ok).c ⟨_, Go.Proofs.Try.func26, by kernel_rfl, by kernel_rfl⟩) (EnvOK.cons ((law0_Num_ok).c ⟨_, Go.Proofs.Try.func18, by kernel_rfl, by kernel_rfl⟩) (EnvOK.nil _))))) (noDyn_ok _) Go.Proofs.Try.func12 rfl


end Go.Am
