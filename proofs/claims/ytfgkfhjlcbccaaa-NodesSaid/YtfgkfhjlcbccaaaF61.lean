import Derived.Test.YtfgkfhjlcbccaaaF60
set_option linter.unusedVariables false
set_option linter.unusedSimpArgs false
namespace Go.Am
/-! 17: cryostat/cryostatref1.GetPage -/
def ref1_GetPage.cx : Cx := ⟨tys, [], [(6, [0, 2, 4, 5, 6]), (16, [0, 2, 4, 11])], [], [(38, ref1_taken), (15, ref1_PutPage)], noDyn, [.cell 2 25, .tmp 3]⟩
def ref1_GetPage : Sm := fun xs H Q => ∃ k, callK (ref1_GetPage.cx) Go.Proofs.Try.f17 k xs H Q
def ref1_GetPage.l6 (k : Nat) (sx0 : ByteArray) (bx1 : Bool) (bx2 : Bool) (ax3 : Pl) (nx4 : Nat) (ax5 : Pl) (nx6 : Nat) (ax7 : Pl) (nx8 : Nat) (bx9 : Bool) (bx10 : Bool) (ax11 : Pl) (nx12 : Nat) (ax13 : Pl) (nx14 : Nat) (ax15 : Pl) (nx16 : Nat) (ix17 : Int) (ix18 : Int) (H : Hp) (Q : Post) : Prop := loopK (ref1_GetPage.cx) Go.Proofs.Try.f17 6 k ((.g (.str sx0)) :: .bad :: (.bx [(.bool bx1), (.bool bx2), (.sl ax3 nx4 1), (.sl ax5 nx6 1), (.sl ax7 nx8 1)]) :: .bad :: (.bx [(.bool bx9), (.bool bx10), (.sl ax11 nx12 1), (.sl ax13 nx14 1), (.sl ax15 nx16 1)]) :: (.g (.int .i64 ix17)) :: (.g (.int .i64 ix18)) :: B 94 ([])) H Q
def ref1_GetPage.l16 (k : Nat) (sx0 : ByteArray) (bx1 : Bool) (bx2 : Bool) (ax3 : Pl) (nx4 : Nat) (ax5 : Pl) (nx6 : Nat) (ax7 : Pl) (nx8 : Nat) (bx9 : Bool) (bx10 : Bool) (ax11 : Pl) (nx12 : Nat) (ax13 : Pl) (nx14 : Nat) (ax15 : Pl) (nx16 : Nat) (ix17 : Int) (H : Hp) (Q : Post) : Prop := loopK (ref1_GetPage.cx) Go.Proofs.Try.f17 16 k ((.g (.str sx0)) :: .bad :: (.bx [(.bool bx1), (.bool bx2), (.sl ax3 nx4 1), (.sl ax5 nx6 1), (.sl ax7 nx8 1)]) :: .bad :: (.bx [(.bool bx9), (.bool bx10), (.sl ax11 nx12 1), (.sl ax13 nx14 1), (.sl ax15 nx16 1)]) :: B 6 ((.g (.int .i64 ix17)) :: B 89 ([]))) H Q
theorem ref1_GetPage_eq (k : Nat) (z0 : ByteArray) (H : Hp) (Q : Post) : callK (ref1_GetPage.cx) Go.Proofs.Try.f17 (k + 1) [.g (.str z0)] H Q = (
 bite (ltI (sz z0) 2)
 (Q (.tup [(.a [(.bool false), (.bool false), (.sl none 0 1), (.sl none 0 1), (.sl none 0 1)]), (.s (.int .i64 600))]) H)
 (chk ((leI 0 0) && (ltI 0 (sz z0))) (ref1_GetPage.l6 k z0 false false none 0 none 0 none 0 true (eqI (byt z0 (tN 0)) 1) none 0 none 0 none 0 2 0 H Q))) := by kernel_rfl
theorem ref1_GetPage.l6_eq (k : Nat) (sx0 : ByteArray) (bx1 : Bool) (bx2 : Bool) (ax3 : Pl) (nx4 : Nat) (ax5 : Pl) (nx6 : Nat) (ax7 : Pl) (nx8 : Nat) (bx9 : Bool) (bx10 : Bool) (ax11 : Pl) (nx12 : Nat) (ax13 : Pl) (nx14 : Nat) (ax15 : Pl) (nx16 : Nat) (ix17 : Int) (ix18 : Int) (H : Hp) (Q : Post) : ref1_GetPage.l6 (k + 1) sx0 bx1 bx2 ax3 nx4 ax5 nx6 ax7 nx8 bx9 bx10 ax11 nx12 ax13 nx14 ax15 nx16 ix17 ix18 H Q = (
 chk ((leI 0 1) && (ltI 1 (sz sx0))) (bite (ltI ix18 (wrapI .i64 (byt sx0 (tN 1))))
 (bite (leI ix18 4)
  (cl ref1_taken [(.g (.str sx0)), (.g (.int .i64 ix17))] H fun r0 H1 =>
   rT r0 fun c2 =>
   uR c2 fun q3 c4 =>
   rS q3 fun v5 =>
   dS v5 fun s6 =>
   uR c4 fun q7 c8 =>
   rS q7 fun v9 =>
   dI .i64 v9 fun i10 =>
   uE c8 (chk true (ap H1 9 1 16 ax11 nx12 [(.str s6)] 1 fun x11 n12 H13 =>
   bite bx10
   (cl ref1_taken [(.g (.str sx0)), (.g (.int .i64 i10))] H13 fun r14 H15 =>
    rT r14 fun c16 =>
    uR c16 fun q17 c18 =>
    rS q17 fun v19 =>
    dS v19 fun s20 =>
    uR c18 fun q21 c22 =>
    rS q21 fun v23 =>
    dI .i64 v23 fun i24 =>
    uE c22 (chk true (ap H15 9 1 16 ax13 nx14 [(.str s20)] 1 fun x25 n26 H27 =>
    ref1_GetPage.l6 k sx0 bx1 bx2 ax3 nx4 ax5 nx6 ax7 nx8 bx9 bx10 x11 n12 x25 n26 ax15 nx16 i24 (wrapI .i64 (ix18 + 1)) H27 Q)))
   (ref1_GetPage.l6 k sx0 bx1 bx2 ax3 nx4 ax5 nx6 ax7 nx8 bx9 bx10 x11 n12 ax13 nx14 ax15 nx16 i10 (wrapI .i64 (ix18 + 1)) H13 Q))))
  (ref1_GetPage.l16 k sx0 bx1 bx2 ax3 nx4 ax5 nx6 ax7 nx8 bx9 bx10 ax11 nx12 ax13 nx14 ax15 nx16 (mxI ix17 0) H Q))
 (ref1_GetPage.l16 k sx0 bx1 bx2 ax3 nx4 ax5 nx6 ax7 nx8 bx9 bx10 ax11 nx12 ax13 nx14 ax15 nx16 (mxI ix17 0) H Q))) := by kernel_rfl
theorem ref1_GetPage.l16_eq (k : Nat) (sx0 : ByteArray) (bx1 : Bool) (bx2 : Bool) (ax3 : Pl) (nx4 : Nat) (ax5 : Pl) (nx6 : Nat) (ax7 : Pl) (nx8 : Nat) (bx9 : Bool) (bx10 : Bool) (ax11 : Pl) (nx12 : Nat) (ax13 : Pl) (nx14 : Nat) (ax15 : Pl) (nx16 : Nat) (ix17 : Int) (H : Hp) (Q : Post) : ref1_GetPage.l16 (k + 1) sx0 bx1 bx2 ax3 nx4 ax5 nx6 ax7 nx8 bx9 bx10 ax11 nx12 ax13 nx14 ax15 nx16 ix17 H Q = (
 bite (ltI ix17 (sz sx0))
 (bite (!bx10)
  (bite (ltI ix17 200)
   (chk ((leI 0 ix17) && (ltI ix17 (sz sx0))) (chk true (ap H 3 1 8 ax15 nx16 [(.int .i64 (wrapI .i64 (byt sx0 (tN ix17))))] 1 fun x0 n1 H2 =>
    ref1_GetPage.l16 k sx0 bx1 bx2 ax3 nx4 ax5 nx6 ax7 nx8 bx9 bx10 ax11 nx12 ax13 nx14 x0 n1 (wrapI .i64 (ix17 + 1)) H2 Q)))
   (cl ref1_PutPage [(.agg [(.bool bx9), (.bool bx10), (.sl ax11 nx12 1), (.sl ax13 nx14 1), (.sl ax15 nx16 1)])] H fun r3 H4 =>
    rT r3 fun c5 =>
    uR c5 fun q6 c7 =>
    rS q6 fun v8 =>
    dS v8 fun s9 =>
    uR c7 fun q10 c11 =>
    rS q10 fun v12 =>
    dI .i64 v12 fun i13 =>
    uE c11 (bite (!(eqI i13 0))
    (Q (.tup [(.a [(.bool false), (.bool false), (.sl none 0 1), (.sl none 0 1), (.sl none 0 1)]), (.s (.int .i64 600))]) H4)
    (bite (!(strEq s9 sx0))
     (Q (.tup [(.a [(.bool false), (.bool false), (.sl none 0 1), (.sl none 0 1), (.sl none 0 1)]), (.s (.int .i64 600))]) H4)
     (Q (.tup [(.a [(.bool bx9), (.bool bx10), (.sl ax11 nx12 1), (.sl ax13 nx14 1), (.sl ax15 nx16 1)]), (.s (.int .i64 0))]) H4)))))
  (cl ref1_PutPage [(.agg [(.bool bx9), (.bool bx10), (.sl ax11 nx12 1), (.sl ax13 nx14 1), (.sl ax15 nx16 1)])] H fun r14 H15 =>
   rT r14 fun c16 =>
   uR c16 fun q17 c18 =>
   rS q17 fun v19 =>
   dS v19 fun s20 =>
   uR c18 fun q21 c22 =>
   rS q21 fun v23 =>
   dI .i64 v23 fun i24 =>
   uE c22 (bite (!(eqI i24 0))
   (Q (.tup [(.a [(.bool false), (.bool false), (.sl none 0 1), (.sl none 0 1), (.sl none 0 1)]), (.s (.int .i64 600))]) H15)
   (bite (!(strEq s20 sx0))
    (Q (.tup [(.a [(.bool false), (.bool false), (.sl none 0 1), (.sl none 0 1), (.sl none 0 1)]), (.s (.int .i64 600))]) H15)
    (Q (.tup [(.a [(.bool bx9), (.bool bx10), (.sl ax11 nx12 1), (.sl ax13 nx14 1), (.sl ax15 nx16 1)]), (.s (.int .i64 0))]) H15)))))
 (cl ref1_PutPage [(.agg [(.bool bx9), (.bool bx10), (.sl ax11 nx12 1), (.sl ax13 nx14 1), (.sl ax15 nx16 1)])] H fun r25 H26 =>
  rT r25 fun c27 =>
  uR c27 fun q28 c29 =>
  rS q28 fun v30 =>
  dS v30 fun s31 =>
  uR c29 fun q32 c33 =>
  rS q32 fun v34 =>
  dI .i64 v34 fun i35 =>
  uE c33 (bite (!(eqI i35 0))
  (Q (.tup [(.a [(.bool false), (.bool false), (.sl none 0 1), (.sl none 0 1), (.sl none 0 1)]), (.s (.int .i64 600))]) H26)
  (bite (!(strEq s31 sx0))
   (Q (.tup [(.a [(.bool false), (.bool false), (.sl none 0 1), (.sl none 0 1), (.sl none 0 1)]), (.s (.int .i64 600))]) H26)
   (Q (.tup [(.a [(.bool bx9), (.bool bx10), (.sl ax11 nx12 1), (.sl ax13 nx14 1), (.sl ax15 nx16 1)]), (.s (.int .i64 0))]) H26))))) := by kernel_rfl
theorem ref1_GetPage_ok : Sound Go.Proofs.Try.prog 17 (ref1_GetPage) := prog_ok.sound (cx := ref1_GetPage.cx) rfl (EnvOK.cons ((ref1_taken_ok).c ⟨_, Go.Proofs.Try.func38, by kernel_rfl, by kernel_rfl⟩) (EnvOK.cons ((ref1_PutPage_ok).c ⟨_, Go.Proofs.Try.func15, by kernel_rfl, by kernel_rfl⟩) (EnvOK.nil _))) (noDyn_ok _) Go.Proofs.Try.func17 rfl

/-! 18: cryostat/cryostatlaw0.Num -/
def law0_Num.cx : Cx := ⟨tys, [], [], [], [], noDyn, [.tmp 2]⟩
def law0_Num : Sm := fun xs H Q => ∃ k, callK (law0_Num.cx) Go.Proofs.Try.f18 k xs H Q
theorem law0_Num_eq (k : Nat) (z0 : Int) (H : Hp) (Q : Post) : callK (law0_Num.cx) Go.Proofs.Try.f18 (k + 1) [.g (.int .i64 z0)] H Q = (
 Q (.g (.int .i64 z0)) H) := by kernel_rfl
theorem law0_Num_ok : Sound Go.Proofs.Try.prog 18 (law0_Num) := prog_ok.sound (cx := law0_Num.cx) rfl (EnvOK.nil _) (noDyn_ok _) Go.Proofs.Try.func18 rfl

/-! 33: cryostat/cryostatlaw0.SameTexts -/
def law0_SameTexts.cx : Cx := ⟨tys, [], [(4, [0, 1, 5])], [], [], noDyn, [.tmp 4]⟩
def law0_SameTexts : Sm := fun xs H Q => ∃ k, callK (law0_SameTexts.cx) Go.Proofs.Try.f33 k xs H Q
def law0_SameTexts.l4 (k : Nat) (xx0 : Pl) (nx1 : Nat) (xx2 : Pl) (nx3 : Nat) (ix4 : Int) (H : Hp) (Q : Post) : Prop := loopK (law0_SameTexts.cx) Go.Proofs.Try.f33 4 k ((.g (.sl xx0 nx1 1)) :: (.g (.sl xx2 nx3 1)) :: B 3 ((.g (.int .i64 ix4)) :: B 20 ([]))) H Q
theorem law0_SameTexts_eq (k : Nat) (z0 : Pl) (z0n : Nat) (z1 : Pl) (z1n : Nat) (H : Hp) (Q : Post) : callK (law0_SameTexts.cx) Go.Proofs.Try.f33 (k + 1) [.g (.sl z0 z0n 1), .g (.sl z1 z1n 1)] H Q = (
 bite (!(eqI (nI z0n) (nI z1n)))
 (Q (.g (.bool false)) H)
 (law0_SameTexts.l4 k z0 z0n z1 z1n 0 H Q)) := by kernel_rfl
theorem law0_SameTexts.l4_eq (k : Nat) (xx0 : Pl) (nx1 : Nat) (xx2 : Pl) (nx3 : Nat) (ix4 : Int) (H : Hp) (Q : Post) : law0_SameTexts.l4 (k + 1) xx0 nx1 xx2 nx3 ix4 H Q = (
 bite (ltI ix4 (nI nx1))
 (chk true (chk ((leI 0 ix4) && (ltI ix4 (nI nx1))) (pS xx0 fun n0 n1 =>
  rd H n0 (n1 + ((tN ix4) * 1)) fun v2 =>
  dS v2 fun s3 =>
  chk true (chk ((leI 0 ix4) && (ltI ix4 (nI nx3))) (pS xx2 fun n4 n5 =>
  rd H n4 (n5 + ((tN ix4) * 1)) fun v6 =>
  dS v6 fun s7 =>
  bite (!(strEq s3 s7))
  (Q (.g (.bool false)) H)
  (law0_SameTexts.l4 k xx0 nx1 xx2 nx3 (wrapI .i64 (ix4 + 1)) H Q))))))
 (Q (.g (.bool true)) H)) := by kernel_rfl
theorem law0_SameTexts_ok : Sound Go.Proofs.Try.prog 33 (law0_SameTexts) := prog_ok.sound (cx := law0_SameTexts.cx) rfl (EnvOK.nil _) (noDyn_ok _) Go.Proofs.Try.func33 rfl

/-! 34: cryostat/cryostatlaw0.SameInts -/
def law0_SameInts.cx : Cx := ⟨tys, [], [(4, [0, 1, 5])], [], [], noDyn, [.tmp 4]⟩
def law0_SameInts : Sm := fun xs H Q => ∃ k, callK (law0_SameInts.cx) Go.Proofs.Try.f34 k xs H Q
def law0_SameInts.l4 (k : Nat) (xx0 : Pl) (nx1 : Nat) (xx2 : Pl) (nx3 : Nat) (ix4 : Int) (H : Hp) (Q : Post) : Prop := loopK (law0_SameInts.cx) Go.Proofs.Try.f34 4 k ((.g (.sl xx0 nx1 1)) :: (.g (.sl xx2 nx3 1)) :: B 3 ((.g (.int .i64 ix4)) :: B 20 ([]))) H Q
theorem law0_SameInts_eq (k : Nat) (z0 : Pl) (z0n : Nat) (z1 : Pl) (z1n : Nat) (H : Hp) (Q : Post) : callK (law0_SameInts.cx) Go.Proofs.Try.f34 (k + 1) [.g (.sl z0 z0n 1), .g (.sl z1 z1n 1)] H Q = (
 bite (!(eqI (nI z0n) (nI z1n)))
 (Q (.g (.bool false)) H)
 (law0_SameInts.l4 k z0 z0n z1 z1n 0 H Q)) := by kernel_rfl
theorem law0_SameInts.l4_eq (k : Nat) (xx0 : Pl) (nx1 : Nat) (xx2 : Pl) (nx3 : Nat) (ix4 : Int) (H : Hp) (Q : Post) : law0_SameInts.l4 (k + 1) xx0 nx1 xx2 nx3 ix4 H Q = (
 bite (ltI ix4 (nI nx1))
 (chk true (chk ((leI 0 ix4) && (ltI ix4 (nI nx1))) (pS xx0 fun n0 n1 =>
  rd H n0 (n1 + ((tN ix4) * 1)) fun v2 =>
  dI .i64 v2 fun i3 =>
  chk true (chk ((leI 0 ix4) && (ltI ix4 (nI nx3))) (pS xx2 fun n4 n5 =>
  rd H n4 (n5 + ((tN ix4) * 1)) fun v6 =>
  dI .i64 v6 fun i7 =>
  bite (!(eqI i3 i7))
  (Q (.g (.bool false)) H)
  (law0_SameInts.l4 k xx0 nx1 xx2 nx3 (wrapI .i64 (ix4 + 1)) H Q))))))
 (Q (.g (.bool true)) H)) := by kernel_rfl
theorem law0_SameInts_ok : Sound Go.Proofs.Try.prog 34 (law0_SameInts) := prog_ok.sound (cx := law0_SameInts.cx) rfl (EnvOK.nil _) (noDyn_ok _) Go.Proofs.Try.func34 rfl

/-! 19: cryostat/cryostatlaw0.SamePage -/
def law0_SamePage.cx : Cx := ⟨tys, [], [], [], [(33, law0_SameTexts), (34, law0_SameInts)], noDyn, [.tmp 4]⟩
def law0_SamePage : Sm := fun xs H Q => ∃ k, callK (law0_SamePage.cx) Go.Proofs.Try.f19 k xs H Q
theorem law0_SamePage_eq (k : Nat) (z0 : Bool) (z1 : Bool) (z2 : Pl) (z2n : Nat) (z3 : Pl) (z3n : Nat) (z4 : Pl) (z4n : Nat) (z5 : Bool) (z6 : Bool) (z7 : Pl) (z7n : Nat) (z8 : Pl) (z8n : Nat) (z9 : Pl) (z9n : Nat) (H : Hp) (Q : Post) : callK (law0_SamePage.cx) Go.Proofs.Try.f19 (k + 1) [.agg [.bool z0, .bool z1, .sl z2 z2n 1, .sl z3 z3n 1, .sl z4 z4n 1], .agg [.bool z5, .bool z6, .sl z7 z7n 1, .sl z8 z8n 1, .sl z9 z9n 1]] H Q = (
 bite (eqB z0 z5)
 (bite (eqB z1 z6)
  (cl law0_SameTexts [(.g (.sl z2 z2n 1)), (.g (.sl z7 z7n 1))] H fun r0 H1 =>
   rG r0 fun v2 =>
   dB v2 fun b3 =>
   bite b3
   (cl law0_SameTexts [(.g (.sl z3 z3n 1)), (.g (.sl z8 z8n 1))] H1 fun r4 H5 =>
    rG r4 fun v6 =>
    dB v6 fun b7 =>
    bite b7
    (cl law0_SameInts [(.g (.sl z4 z4n 1)), (.g (.sl z9 z9n 1))] H5 fun r8 H9 =>
     rG r8 fun v10 =>
     dB v10 fun b11 =>
     Q (.g (.bool b11)) H9)
    (Q (.g (.bool false)) H5))
   (Q (.g (.bool false)) H1))
  (Q (.g (.bool false)) H))
 (Q (.g (.bool false)) H)) := by kernel_rfl
theorem law0_SamePage_ok : Sound Go.Proofs.Try.prog 19 (law0_SamePage) := prog_ok.sound (cx := law0_SamePage.cx) rfl (EnvOK.cons ((law0_SameTexts_ok).c ⟨_, Go.Proofs.Try.func33, by kernel_rfl, by kernel_rfl⟩) (EnvOK.cons ((law0_SameInts_ok).c ⟨_, Go.Proofs.Try.func34, by kernel_rfl, by kernel_rfl⟩) (EnvOK.nil _))) (noDyn_ok _) Go.Proofs.Try.func19 rfl

/-! 41: cryostat/cryostatlaw0.SpoilTexts -/
def law0_SpoilTexts.cx : Cx := ⟨tys, [], [(1, [0, 2])], [], [], noDyn, []⟩
def law0_SpoilTexts : Sm := fun xs H Q => ∃ k, callK (law0_SpoilTexts.cx) Go.Proofs.Try.f41 k xs H Q
def law0_SpoilTexts.l1 (k : Nat) (xx0 : Pl) (nx1 : Nat) (ix2 : Int) (H : Hp) (Q : Post) : Prop := loopK (law0_SpoilTexts.cx) Go.Proofs.Try.f41 1 k ((.g (.sl xx0 nx1 1)) :: .bad :: (.g (.int .i64 ix2)) :: B 14 ([])) H Q
theorem law0_SpoilTexts_eq (k : Nat) (z0 : Pl) (z0n : Nat) (H : Hp) (Q : Post) : callK (law0_SpoilTexts.cx) Go.Proofs.Try.f41 (k + 1) [.g (.sl z0 z0n 1)] H Q = (
 law0_SpoilTexts.l1 k z0 z0n 0 H Q) := by kernel_rfl
theorem law0_SpoilTexts.l1_eq (k : Nat) (xx0 : Pl) (nx1 : Nat) (ix2 : Int) (H : Hp) (Q : Post) : law0_SpoilTexts.l1 (k + 1) xx0 nx1 ix2 H Q = (
 bite (ltI ix2 (nI nx1))
 (chk true (chk ((leI 0 ix2) && (ltI ix2 (nI nx1))) (pS xx0 fun n0 n1 =>
  rd H n0 (n1 + ((tN ix2) * 1)) fun v2 =>
  dS v2 fun s3 =>
  catS (mkS [126]) s3 fun s4 =>
  chk true (chk ((leI 0 ix2) && (ltI ix2 (nI nx1))) (pS xx0 fun n5 n6 =>
  wr H n5 (n6 + ((tN ix2) * 1)) (.str s4) fun H7 =>
  law0_SpoilTexts.l1 k xx0 nx1 (wrapI .i64 (ix2 + 1)) H7 Q)))))
 (Q (.tup []) H)) := by kernel_rfl
theorem law0_SpoilTexts_ok : Sound Go.Proofs.Try.prog 41 (law0_SpoilTexts) := prog_ok.sound (cx := law0_SpoilTexts.cx) rfl (EnvOK.nil _) (noDyn_ok _) Go.Proofs.Try.func41 rfl

/-! 42: cryostat/cryostatlaw0.SpoilInts -/
def law0_SpoilInts.cx : Cx := ⟨tys, [], [(1, [0, 2])], [], [], noDyn, []⟩
def law0_SpoilInts : Sm := fun xs H Q => ∃ k, callK (law0_SpoilInts.cx) Go.Proofs.Try.f42 k xs H Q
def law0_SpoilInts.l1 (k : Nat) (xx0 : Pl) (nx1 : Nat) (ix2 : Int) (H : Hp) (Q : Post) : Prop := loopK (law0_SpoilInts.cx) Go.Proofs.Try.f42 1 k ((.g (.sl xx0 nx1 1)) :: .bad :: (.g (.int .i64 ix2)) :: B 14 ([])) H Q
theorem law0_SpoilInts_eq (k : Nat) (z0 : Pl) (z0n : Nat) (H : Hp) (Q : Post) : callK (law0_SpoilInts.cx) Go.Proofs.Try.f42 (k + 1) [.g (.sl z0 z0n 1)] H Q = (
 law0_SpoilInts.l1 k z0 z0n 0 H Q) := by kernel_rfl
theorem law0_SpoilInts.l1_eq (k : Nat) (xx0 : Pl) (nx1 : Nat) (ix2 : Int) (H : Hp) (Q : Post) : law0_SpoilInts.l1 (k + 1) xx0 nx1 ix2 H Q = (
 bite (ltI ix2 (nI nx1))
 (chk true (chk ((leI 0 ix2) && (ltI ix2 (nI nx1))) (pS xx0 fun n0 n1 =>
  rd H n0 (n1 + ((tN ix2) * 1)) fun v2 =>
  dI .i64 v2 fun i3 =>
  chk true (chk ((leI 0 ix2) && (ltI ix2 (nI nx1))) (pS xx0 fun n4 n5 =>
  wr H n4 (n5 + ((tN ix2) * 1)) (.int .i64 (wrapI .i64 ((-9) - i3))) fun H6 =>
  law0_SpoilInts.l1 k xx0 nx1 (wrapI .i64 (ix2 + 1)) H6 Q)))))
 (Q (.tup []) H)) := by kernel_rfl
theorem law0_SpoilInts_ok : Sound Go.Proofs.Try.prog 42 (law0_SpoilInts) := prog_ok.sound (cx := law0_SpoilInts.cx) rfl (EnvOK.nil _) (noDyn_ok _) Go.Proofs.Try.func42 rfl

/-! 22: cryostat/cryostatlaw0.SpoilPage -/
def law0_SpoilPage.cx : Cx := ⟨tys, [], [], [], [(41, law0_SpoilTexts), (42, law0_SpoilInts)], noDyn, []⟩
def law0_SpoilPage : Sm := fun xs H Q => ∃ k, callK (law0_SpoilPage.cx) Go.Proofs.Try.f22 k xs H Q
theorem law0_SpoilPage_eq (k : Nat) (z0 : Bool) (z1 : Bool) (z2 : Pl) (z2n : Nat) (z3 : Pl) (z3n : Nat) (z4 : Pl) (z4n : Nat) (H : Hp) (Q : Post) : callK (law0_SpoilPage.cx) Go.Proofs.Try.f22 (k + 1) [.agg [.bool z0, .bool z1, .sl z2 z2n 1, .sl z3 z3n 1, .sl z4 z4n 1]] H Q = (
 cl law0_SpoilTexts [(.g (.sl z2 z2n 1))] H fun r0 H1 =>
 cl law0_SpoilTexts [(.g (.sl z3 z3n 1))] H1 fun r2 H3 =>
 cl law0_SpoilInts [(.g (.sl z4 z4n 1))] H3 fun r4 H5 =>
 Q (.tup []) H5) := by kernel_rfl
theorem law0_SpoilPage_ok : Sound Go.Proofs.Try.prog 22 (law0_SpoilPage) := prog_ok.sound (cx := law0_SpoilPage.cx) rfl (EnvOK.cons ((law0_SpoilTexts_ok).c ⟨_, Go.Proofs.Try.func41, by kernel_rfl, by kernel_rfl⟩) (EnvOK.cons ((law0_SpoilInts_ok).c ⟨_, Go.Proofs.Try.func42, by kernel_rfl, by kernel_rfl⟩) (EnvOK.nil _))) (noDyn_ok _) Go.Proofs.Try.func22 rfl

/-! 23: cryostat/cryostatlaw6.awake -/
def law6_awake.cx : Cx := ⟨tys, [15, 16, 28, 29], [], [], [(14, page_Put), (16, page_Get), (18, law0_Num), (19, law0_SamePage), (20, page_May)], noDyn, [.tmp 0]⟩
def law6_awake : Sm := fun xs H Q => ∃ k, callK (law6_awake.cx) Go.Proofs.Try.f23 k xs H Q
theorem law6_awake_eq (k : Nat)  (H : Hp) (Q : Post) : callK (law6_awake.cx) Go.Proofs.Try.f23 (k + 1) [] H Q = (
 cl page_Put [(.agg [(.bool true), (.bool true), (.sl (some ((ln H), 0)) 2 1), (.sl (some ((ln (pu H (.row true 9 [(.str (mkS [97])), (.str (mkS [98, 99]))]))), 0)) 2 1), (.sl none 0 1)])] (pu (pu H (.row true 9 [(.str (mkS [97])), (.str (mkS [98, 99]))])) (.row true 9 [(.str (mkS [])), (.str (mkS [120]))])) fun r0 H1 =>
 rT r0 fun c2 =>
 uR c2 fun q3 c4 =>
 rS q3 fun v5 =>
 dS v5 fun s6 =>
 uR c4 fun q7 c8 =>
 rS q7 fun v9 =>
 dI .i64 v9 fun i10 =>
 uE c8 (cl page_Get [(.g (.str s6))] H1 fun r11 H12 =>
 rT r11 fun c13 =>
 uR c13 fun q14 c15 =>
 rC q14 fun c16 =>
 uC c16 fun v17 c18 =>
 dB v17 fun b19 =>
 uC c18 fun v20 c21 =>
 dB v20 fun b22 =>
 uC c21 fun v23 c24 =>
 dL 1 v23 fun x25 n26 =>
 uC c24 fun v27 c28 =>
 dL 1 v27 fun x29 n30 =>
 uC c28 fun v31 c32 =>
 dL 1 v31 fun x33 n34 =>
 uN c32 (uR c15 fun q35 c36 =>
 rS q35 fun v37 =>
 dI .i64 v37 fun i38 =>
 uE c36 (cl page_Put [(.agg [(.bool true), (.bool false), (.sl (some ((ln H12), 0)) 1 1), (.sl none 0 1), (.sl (some ((ln (pu H12 (.row true 9 [(.str (mkS [109]))]))), 0)) 2 1)])] (pu (pu H12 (.row true 9 [(.str (mkS [109]))])) (.row true 3 [(.int .i64 3), (.int .i64 1)])) fun r39 H40 =>
 rT r39 fun c41 =>
 uR c41 fun q42 c43 =>
 rS q42 fun v44 =>
 dS v44 fun s45 =>
 uR c43 fun q46 c47 =>
 rS q46 fun v48 =>
 dI .i64 v48 fun i49 =>
 uE c47 (cl page_Get [(.g (.str s45))] H40 fun r50 H51 =>
 rT r50 fun c52 =>
 uR c52 fun q53 c54 =>
 rC q53 fun c55 =>
 uC c55 fun v56 c57 =>
 dB v56 fun b58 =>
 uC c57 fun v59 c60 =>
 dB v59 fun b61 =>
 uC c60 fun v62 c63 =>
 dL 1 v62 fun x64 n65 =>
 uC c63 fun v66 c67 =>
 dL 1 v66 fun x68 n69 =>
 uC c67 fun v70 c71 =>
 dL 1 v70 fun x72 n73 =>
 uN c71 (uR c54 fun q74 c75 =>
 rS q74 fun v76 =>
 dI .i64 v76 fun i77 =>
 uE c75 (cl page_Put [(.agg [(.bool false), (.bool false), (.sl none 0 1), (.sl none 0 1), (.sl none 0 1)])] H51 fun r78 H79 =>
 rT r78 fun c80 =>
 uR c80 fun q81 c82 =>
 rS q81 fun v83 =>
 dS v83 fun s84 =>
 uR c82 fun q85 c86 =>
 rS q85 fun v87 =>
 dI .i64 v87 fun i88 =>
 uE c86 (cl page_Get [(.g (.str (mkS [])))] H79 fun r89 H90 =>
 rT r89 fun c91 =>
 uR c91 fun q92 c93 =>
 rC q92 fun c94 =>
 uC c94 fun v95 c96 =>
 dB v95 fun b97 =>
 uC c96 fun v98 c99 =>
 dB v98 fun b100 =>
 uC c99 fun v101 c102 =>
 dL 1 v101 fun x103 n104 =>
 uC c102 fun v105 c106 =>
 dL 1 v105 fun x107 n108 =>
 uC c106 fun v109 c110 =>
 dL 1 v109 fun x111 n112 =>
 uN c110 (uR c93 fun q113 c114 =>
 rS q113 fun v115 =>
 dI .i64 v115 fun i116 =>
 uE c114 (bite (strEq s6 (mkS [1, 2, 1, 97, 0, 2, 98, 99, 1, 120]))
 (cl law0_Num [(.g (.int .i64 i10))] H90 fun r117 H118 =>
  rG r117 fun v119 =>
  dI .i64 v119 fun i120 =>
  bite (eqI i120 0)
  (cl law0_SamePage [(.agg [(.bool b19), (.bool b22), (.sl x25 n26 1), (.sl x29 n30 1), (.sl x33 n34 1)]), (.agg [(.bool true), (.bool true), (.sl (some ((ln H), 0)) 2 1), (.sl (some ((ln (pu H (.row true 9 [(.str (mkS [97])), (.str (mkS [98, 99]))]))), 0)) 2 1), (.sl none 0 1)])] H118 fun r121 H122 =>
   rG r121 fun v123 =>
   dB v123 fun b124 =>
   bite b124
   (cl law0_Num [(.g (.int .i64 i38))] H122 fun r125 H126 =>
    rG r125 fun v127 =>
    dI .i64 v127 fun i128 =>
    bite (eqI i128 0)
    (bite (strEq s45 (mkS [2, 1, 1, 109, 3, 1]))
     (cl law0_Num [(.g (.int .i64 i49))] H126 fun r129 H130 =>
      rG r129 fun v131 =>
      dI .i64 v131 fun i132 =>
      bite (eqI i132 0)
      (cl law0_SamePage [(.agg [(.bool b58), (.bool b61), (.sl x64 n65 1), (.sl x68 n69 1), (.sl x72 n73 1)]), (.agg [(.bool true), (.bool false), (.sl (some ((ln H12), 0)) 1 1), (.sl none 0 1), (.sl (some ((ln (pu H12 (.row true 9 [(.str (mkS [109]))]))), 0)) 2 1)])] H130 fun r133 H134 =>
       rG r133 fun v135 =>
       dB v135 fun b136 =>
       bite b136
       (cl law0_Num [(.g (.int .i64 i77))] H134 fun r137 H138 =>
        rG r137 fun v139 =>
        dI .i64 v139 fun i140 =>
        bite (eqI i140 0)
        (cl law0_Num [(.g (.int .i64 i88))] H138 fun r141 H142 =>
         rG r141 fun v143 =>
         dI .i64 v143 fun i144 =>
         bite (eqI i144 600)
         (cl law0_Num [(.g (.int .i64 i116))] H142 fun r145 H146 =>
          rG r145 fun v147 =>
          dI .i64 v147 fun i148 =>
          bite (eqI i148 600)
          (cl page_May [(.agg [(.bool true), (.bool true), (.sl (some ((ln H), 0)) 2 1), (.sl (some ((ln (pu H (.row true 9 [(.str (mkS [97])), (.str (mkS [98, 99]))]))), 0)) 2 1), (.sl none 0 1)])] H146 fun r149 H150 =>
           rG r149 fun v151 =>
           dB v151 fun b152 =>
           Q (.g (.bool b152)) H150)
          (Q (.g (.bool false)) H146))
         (Q (.g (.bool false)) H142))
        (Q (.g (.bool false)) H138))
       (Q (.g (.bool false)) H134))
      (Q (.g (.bool false)) H130))
     (Q (.g (.bool false)) H126))
    (Q (.g (.bool false)) H126))
   (Q (.g (.bool false)) H122))
  (Q (.g (.bool false)) H118))
 (Q (.g (.bool false)) H90))))))))))) := by kernel_rfl
theorem law6_awake_ok : Sound Go.Proofs.Try.prog 23 (law6_awake) := prog_ok.sound (cx := law6_awake.cx) rfl (EnvOK.cons ((page_Put_ok).c ⟨_, Go.Proofs.Try.func14, by kernel_rfl, by kernel_rfl⟩) (EnvOK.cons ((page_Get_ok).c ⟨_, Go.Proofs.Try.func16, by kernel_rfl, by kernel_rfl⟩) (EnvOK.cons ((law0_Num_ok).c ⟨_, Go.Proofs.Try.func18, by kernel_rfl, by kernel_rfl⟩) (EnvOK.cons ((law0_SamePage_ok).c ⟨_, Go.Proofs.Try.func19, by kernel_rfl, by kernel_rfl⟩) (EnvOK.cons ((page_May_ok).c ⟨_, Go.Proofs.Try.func20, by kernel_rfl, by kernel_rfl⟩) (EnvOK.nil _)))))) (noDyn_ok _) Go.Proofs.Try.func23 rfl

/-! 3: cryostat/cryostatlaw6.Pages -/
def law6_Pages.cx : Cx := ⟨tys, [], [], [], [(13, law0_CopyPage), (14, page_Put), (15, ref1_PutPage), (16, page_Get), (17, ref1_GetPage), (18, law0_Num), (19, law0_SamePage), (20, page_May), (21, ref1_PageMay), (22, law0_SpoilPage), (23, law6_awake)], noDyn, [.tmp 4]⟩
def law6_Pages : Sm := fun xs H Q => ∃ k, callK (law6_Pages.cx) Go.Proofs.Try.f3 k xs H Q
theorem law6_Pages_eq (k : Nat) (z0 : Bool) (z1 : Bool) (z2 : Pl) (z2n : Nat) (z3 : Pl) (z3n : Nat) (z4 : Pl) (z4n : Nat) (z5 : ByteArray) (H : Hp) (Q : Post) : callK (law6_Pages.cx) Go.Proofs.Try.f3 (k + 1) [.agg [.bool z0, .bool z1, .sl z2 z2n 1, .sl z3 z3n 1, .sl z4 z4n 1], .g (.str z5)] H Q = (
 cl law0_CopyPage [(.agg [(.bool z0), (.bool z1), (.sl z2 z2n 1), (.sl z3 z3n 1), (.sl z4 z4n 1)])] H fun r0 H1 =>
 rA r0 fun c2 =>
 uC c2 fun v3 c4 =>
 dB v3 fun b5 =>
 uC c4 fun v6 c7 =>
 dB v6 fun b8 =>
 uC c7 fun v9 c10 =>
 dL 1 v9 fun x11 n12 =>
 uC c10 fun v13 c14 =>
 dL 1 v13 fun x15 n16 =>
 uC c14 fun v17 c18 =>
 dL 1 v17 fun x19 n20 =>
 uN c18 (cl page_Put [(.agg [(.bool b5), (.bool b8), (.sl x11 n12 1), (.sl x15 n16 1), (.sl x19 n20 1)])] H1 fun r21 H22 =>
 rT r21 fun c23 =>
 uR c23 fun q24 c25 =>
 rS q24 fun v26 =>
 dS v26 fun s27 =>
 uR c25 fun q28 c29 =>
 rS q28 fun v30 =>
 dI .i64 v30 fun i31 =>
 uE c29 (cl ref1_PutPage [(.agg [(.bool z0), (.bool z1), (.sl z2 z2n 1), (.sl z3 z3n 1), (.sl z4 z4n 1)])] H22 fun r32 H33 =>
 rT r32 fun c34 =>
 uR c34 fun q35 c36 =>
 rS q35 fun v37 =>
 dS v37 fun s38 =>
 uR c36 fun q39 c40 =>
 rS q39 fun v41 =>
 dI .i64 v41 fun i42 =>
 uE c40 (cl page_Get [(.g (.str z5))] H33 fun r43 H44 =>
 rT r43 fun c45 =>
 uR c45 fun q46 c47 =>
 rC q46 fun c48 =>
 uC c48 fun v49 c50 =>
 dB v49 fun b51 =>
 uC c50 fun v52 c53 =>
 dB v52 fun b54 =>
 uC c53 fun v55 c56 =>
 dL 1 v55 fun x57 n58 =>
 uC c56 fun v59 c60 =>
 dL 1 v59 fun x61 n62 =>
 uC c60 fun v63 c64 =>
 dL 1 v63 fun x65 n66 =>
 uN c64 (uR c47 fun q67 c68 =>
 rS q67 fun v69 =>
 dI .i64 v69 fun i70 =>
 uE c68 (cl ref1_GetPage [(.g (.str z5))] H44 fun r71 H72 =>
 rT r71 fun c73 =>
 uR c73 fun q74 c75 =>
 rC q74 fun c76 =>
 uC c76 fun v77 c78 =>
 dB v77 fun b79 =>
 uC c78 fun v80 c81 =>
 dB v80 fun b82 =>
 uC c81 fun v83 c84 =>
 dL 1 v83 fun x85 n86 =>
 uC c84 fun v87 c88 =>
 dL 1 v87 fun x89 n90 =>
 uC c88 fun v91 c92 =>
 dL 1 v91 fun x93 n94 =>
 uN c92 (uR c75 fun q95 c96 =>
 rS q95 fun v97 =>
 dI .i64 v97 fun i98 =>
 uE c96 (bite (!(strEq s27 s38))
 (Q (.g (.bool false)) H72)
 (cl law0_Num [(.g (.int .i64 i31))] H72 fun r99 H100 =>
  rG r99 fun v101 =>
  dI .i64 v101 fun i102 =>
  bite (!(eqI i102 i42))
  (Q (.g (.bool false)) H100)
  (cl law0_SamePage [(.agg [(.bool b51), (.bool b54), (.sl x57 n58 1), (.sl x61 n62 1), (.sl x65 n66 1)]), (.agg [(.bool b79), (.bool b82), (.sl x85 n86 1), (.sl x89 n90 1), (.sl x93 n94 1)])] H100 fun r103 H104 =>
   rG r103 fun v105 =>
   dB v105 fun b106 =>
   bite (!b106)
   (Q (.g (.bool false)) H104)
   (cl law0_Num [(.g (.int .i64 i70))] H104 fun r107 H108 =>
    rG r107 fun v109 =>
    dI .i64 v109 fun i110 =>
    bite (!(eqI i110 i98))
    (Q (.g (.bool false)) H108)
    (cl page_May [(.agg [(.bool b5), (.bool b8), (.sl x11 n12 1), (.sl x15 n16 1), (.sl x19 n20 1)])] H108 fun r111 H112 =>
     rG r111 fun v113 =>
     dB v113 fun b114 =>
     cl ref1_PageMay [(.agg [(.bool z0), (.bool z1), (.sl z2 z2n 1), (.sl z3 z3n 1), (.sl z4 z4n 1)])] H112 fun r115 H116 =>
     rG r115 fun v117 =>
     dB v117 fun b118 =>
     bite (!(eqB b114 b118))
     (Q (.g (.bool false)) H116)
     (cl law0_SpoilPage [(.agg [(.bool b51), (.bool b54), (.sl x57 n58 1), (.sl x61 n62 1), (.sl x65 n66 1)])] H116 fun r119 H120 =>
      cl law0_SamePage [(.agg [(.bool b5), (.bool b8), (.sl x11 n12 1), (.sl x15 n16 1), (.sl x19 n20 1)]), (.agg [(.bool z0), (.bool z1), (.sl z2 z2n 1), (.sl z3 z3n 1), (.sl z4 z4n 1)])] H120 fun r121 H122 =>
      rG r121 fun v123 =>
      dB v123 fun b124 =>
      bite b124
      (cl law6_awake [] H122 fun r125 H126 =>
       rG r125 fun v127 =>
       dB v127 fun b128 =>
       Q (.g (.bool b128)) H126)
      (Q (.g (.bool false)) H122)))))))))))))) := by kernel_rfl
theorem law6_Pages_ok : Sound Go.Proofs.Try.prog 3 (law6_Pages) := prog_ok.sound (cx := law6_Pages.cx) rfl (EnvOK.cons ((law0_CopyPage_ok).c ⟨_, Go.Proofs.Try.func13, by kernel_rfl, by kernel_rfl⟩) (EnvOK.cons ((page_Put_ok).c ⟨_, Go.Proofs.Try.func14, by kernel_rfl, by kernel_rfl⟩) (EnvOK.cons ((ref1_PutPage_ok).c ⟨_, Go.Proofs.Try.func15, by kernel_rfl, by kernel_rfl⟩) (EnvOK.cons ((page_Get_ok).c ⟨_, Go.Proofs.Try.func16, by kernel_rfl, by kernel_rfl⟩) (EnvOK.cons ((ref1_GetPage_ok).c ⟨_, Go.Proofs.Try.func17, by kernel_rfl, by kernel_rfl⟩) (EnvOK.cons ((law0_Num_ok).c ⟨_, Go.Proofs.Try.func18, by kernel_rfl, by kernel_rfl⟩) (EnvOK.cons ((law0_SamePage_ok).c ⟨_, Go.Proofs.Try.func19, by kernel_rfl, by kernel_rfl⟩) (EnvOK.cons ((page_May_ok).c ⟨_, Go.Proofs.Try.func20, by kernel_rfl, by kernel_rfl⟩) (EnvOK.cons ((ref1_PageMay_ok).c ⟨_, Go.Proofs.Try.func21, by kernel_rfl, by kernel_rfl⟩) (EnvOK.cons ((law0_SpoilPage_ok).c ⟨_, Go.Proofs.Try.func22, by kernel_rfl, by kernel_rfl⟩) (EnvOK.cons ((law6_awake_ok).c ⟨_, Go.Proofs.Try.func23, by kernel_rfl, by kernel_rfl⟩) (EnvOK.nil _)))))))))))) (noDyn_ok _) Go.Proofs.Try.func3 rfl

/-! 4: cryostat/cryostatlaw6.PageBack -/
def law6_PageBack.cx : Cx := ⟨tys, [], [], [(8, [1])], [(23, law6_awake), (14, page_Put), (18, law0_Num), (16, page_Get), (19, law0_SamePage)], noDyn, [.tmp 4]⟩
def law6_PageBack : Sm := fun xs H Q => ∃ k, callK (law6_PageBack.cx) Go.Proofs.Try.f4 k xs H Q
def law6_PageBack.l8 (k : Nat) (sx0 : ByteArray) (H : Hp) (Q : Post) : Prop := loopK (law6_PageBack.cx) Go.Proofs.Try.f4 8 k (.bad :: (.g (.str sx0)) :: B 69 ([])) H Q
theorem law6_PageBack_eq (k : Nat) (z0 : Bool) (z1 : Bool) (z2 : Pl) (z2n : Nat) (z3 : Pl) (z3n : Nat) (z4 : Pl) (z4n : Nat) (z5 : ByteArray) (H : Hp) (Q : Post) : callK (law6_PageBack.cx) Go.Proofs.Try.f4 (k + 1) [.agg [.bool z0, .bool z1, .sl z2 z2n 1, .sl z3 z3n 1, .sl z4 z4n 1], .g (.str z5)] H Q = (
 cl law6_awake [] H fun r0 H1 =>
 rG r0 fun v2 =>
 dB v2 fun b3 =>
 bite (!b3)
 (Q (.g (.bool false)) H1)
 (cl page_Put [(.agg [(.bool z0), (.bool z1), (.sl z2 z2n 1), (.sl z3 z3n 1), (.sl z4 z4n 1)])] H1 fun r4 H5 =>
  rT r4 fun c6 =>
  uR c6 fun q7 c8 =>
  rS q7 fun v9 =>
  dS v9 fun s10 =>
  uR c8 fun q11 c12 =>
  rS q11 fun v13 =>
  dI .i64 v13 fun i14 =>
  uE c12 (cl law0_Num [(.g (.int .i64 i14))] H5 fun r15 H16 =>
  rG r15 fun v17 =>
  dI .i64 v17 fun i18 =>
  bite (eqI i18 0)
  (cl page_Get [(.g (.str s10))] H16 fun r19 H20 =>
   rT r19 fun c21 =>
   uR c21 fun q22 c23 =>
   rC q22 fun c24 =>
   uC c24 fun v25 c26 =>
   dB v25 fun b27 =>
   uC c26 fun v28 c29 =>
   dB v28 fun b30 =>
   uC c29 fun v31 c32 =>
   dL 1 v31 fun x33 n34 =>
   uC c32 fun v35 c36 =>
   dL 1 v35 fun x37 n38 =>
   uC c36 fun v39 c40 =>
   dL 1 v39 fun x41 n42 =>
   uN c40 (uR c23 fun q43 c44 =>
   rS q43 fun v45 =>
   dI .i64 v45 fun i46 =>
   uE c44 (cl law0_Num [(.g (.int .i64 i46))] H20 fun r47 H48 =>
   rG r47 fun v49 =>
   dI .i64 v49 fun i50 =>
   bite (!(eqI i50 0))
   (Q (.g (.bool false)) H48)
   (cl law0_SamePage [(.agg [(.bool z0), (.bool z1), (.sl z2 z2n 1), (.sl z3 z3n 1), (.sl z4 z4n 1)]), (.agg [(.bool b27), (.bool b30), (.sl x33 n34 1), (.sl x37 n38 1), (.sl x41 n42 1)])] H48 fun r51 H52 =>
    rG r51 fun v53 =>
    dB v53 fun b54 =>
    bite (!b54)
    (Q (.g (.bool false)) H52)
    (bite (ltI 96 (sz s10))
     (Q (.g (.bool false)) H52)
     (bite (ltI (sz s10) 2)
      (Q (.g (.bool false)) H52)
      (law6_PageBack.l8 k z5 H52 Q)))))))
  (law6_PageBack.l8 k z5 H16 Q)))) := by kernel_rfl
theorem law6_PageBack.l8_eq (k : Nat) (sx0 : ByteArray) (H : Hp) (Q : Post) : law6_PageBack.l8 (k + 1) sx0 H Q = (
 cl page_Get [(.g (.str sx0))] H fun r0 H1 =>
 rT r0 fun c2 =>
 uR c2 fun q3 c4 =>
 rC q3 fun c5 =>
 uC c5 fun v6 c7 =>
 dB v6 fun b8 =>
 uC c7 fun v9 c10 =>
 dB v9 fun b11 =>
 uC c10 fun v12 c13 =>
 dL 1 v12 fun x14 n15 =>
 uC c13 fun v16 c17 =>
 dL 1 v16 fun x18 n19 =>
 uC c17 fun v20 c21 =>
 dL 1 v20 fun x22 n23 =>
 uN c21 (uR c4 fun q24 c25 =>
 rS q24 fun v26 =>
 dI .i64 v26 fun i27 =>
 uE c25 (cl law0_Num [(.g (.int .i64 i27))] H1 fun r28 H29 =>
 rG r28 fun v30 =>
 dI .i64 v30 fun i31 =>
 bite (!(eqI i31 0))
 (cl law0_SamePage [(.agg [(.bool b8), (.bool b11), (.sl x14 n15 1), (.sl x18 n19 1), (.sl x22 n23 1)]), (.agg [(.bool false), (.bool false), (.sl none 0 1), (.sl none 0 1), (.sl none 0 1)])] H29 fun r32 H33 =>
  rG r32 fun v34 =>
  dB v34 fun b35 =>
  Q (.g (.bool b35)) H33)
 (cl page_Put [(.agg [(.bool b8), (.bool b11), (.sl x14 n15 1), (.sl x18 n19 1), (.sl x22 n23 1)])] H29 fun r36 H37 =>
  rT r36 fun c38 =>
  uR c38 fun q39 c40 =>
  rS q39 fun v41 =>
  dS v41 fun s42 =>
  uR c40 fun q43 c44 =>
  rS q43 fun v45 =>
  dI .i64 v45 fun i46 =>
  uE c44 (cl law0_Num [(.g (.int .i64 i46))] H37 fun r47 H48 =>
  rG r47 fun v49 =>
  dI .i64 v49 fun i50 =>
  bite (eqI i50 0)
  (Q (.g (.bool (strEq s42 sx0))) H48)
  (Q (.g (.bool false)) H48)))))) := by kernel_rfl
theorem law6_PageBack_ok : Sound Go.Proofs.Try.prog 4 (law6_PageBack) := prog_ok.sound (cx := law6_PageBack.cx) rfl (EnvOK.cons ((law6_awake_ok).c ⟨_, Go.Proofs.Try.func23, by kernel_rfl, by kernel_rfl⟩) (EnvOK.cons ((page_Put_ok).c ⟨_, Go.Proofs.Try.func14, by kernel_rfl, by kernel_rfl⟩) (EnvOK.cons ((law0_Num_ok).c ⟨_, Go.Proofs.Try.func18, by kernel_rfl, by kernel_rfl⟩) (EnvOK.cons ((page_Get_ok).c ⟨_, Go.Proofs.Try.func16, by kernel_rfl, by kernel_rfl⟩) (EnvOK.cons ((law0_SamePage_ok).c ⟨_, Go.Proofs.Try.func19, by kernel_rfl, by kernel_rfl⟩) (EnvOK.nil _)))))) (noDyn_ok _) Go.Proofs.Try.func4 rfl

/-! 5: cryostat/cryostatlaw6.PageForms -/
def law6_PageForms.cx : Cx := ⟨tys, [20, 21, 23, 24], [], [(9, [0, 5, 6, 7, 8]), (26, [5, 6, 7, 8])], [(23, law6_awake), (13, law0_CopyPage), (14, page_Put), (20, page_May), (18, law0_Num)], noDyn, [.tmp 4]⟩
def law6_PageForms : Sm := fun xs H Q => ∃ k, callK (law6_PageForms.cx) Go.Proofs.Try.f5 k xs H Q
def law6_PageForms.l9 (k : Nat) (ix0 : Int) (ix1 : Int) (bx2 : Bool) (bx3 : Bool) (ax4 : Pl) (nx5 : Nat) (ax6 : Pl) (nx7 : Nat) (ax8 : Pl) (nx9 : Nat) (bx10 : Bool) (bx11 : Bool) (ax12 : Pl) (nx13 : Nat) (ax14 : Pl) (nx15 : Nat) (ax16 : Pl) (nx17 : Nat) (bx18 : Bool) (bx19 : Bool) (xx20 : Pl) (nx21 : Nat) (xx22 : Pl) (nx23 : Nat) (xx24 : Pl) (nx25 : Nat) (H : Hp) (Q : Post) : Prop := loopK (law6_PageForms.cx) Go.Proofs.Try.f5 9 k ((.g (.int .i64 ix0)) :: B 4 ((.g (.int .i64 ix1)) :: (.bx [(.bool bx2), (.bool bx3), (.sl ax4 nx5 1), (.sl ax6 nx7 1), (.sl ax8 nx9 1)]) :: (.bx [(.bool bx10), (.bool bx11), (.sl ax12 nx13 1), (.sl ax14 nx15 1), (.sl ax16 nx17 1)]) :: (.bx [(.bool bx18), (.bool bx19), (.sl xx20 nx21 1), (.sl xx22 nx23 1), (.sl xx24 nx25 1)]) :: B 157 ([]))) H Q
def law6_PageForms.l26 (k : Nat) (ix0 : Int) (bx1 : Bool) (bx2 : Bool) (ax3 : Pl) (nx4 : Nat) (ax5 : Pl) (nx6 : Nat) (ax7 : Pl) (nx8 : Nat) (bx9 : Bool) (bx10 : Bool) (ax11 : Pl) (nx12 : Nat) (ax13 : Pl) (nx14 : Nat) (ax15 : Pl) (nx16 : Nat) (bx17 : Bool) (bx18 : Bool) (xx19 : Pl) (nx20 : Nat) (xx21 : Pl) (nx22 : Nat) (xx23 : Pl) (nx24 : Nat) (H : Hp) (Q : Post) : Prop := loopK (law6_PageForms.cx) Go.Proofs.Try.f5 26 k (B 5 ((.g (.int .i64 ix0)) :: (.bx [(.bool bx1), (.bool bx2), (.sl ax3 nx4 1), (.sl ax5 nx6 1), (.sl ax7 nx8 1)]) :: (.bx [(.bool bx9), (.bool bx10), (.sl ax11 nx12 1), (.sl ax13 nx14 1), (.sl ax15 nx16 1)]) :: (.bx [(.bool bx17), (.bool bx18), (.sl xx19 nx20 1), (.sl xx21 nx22 1), (.sl xx23 nx24 1)]) :: B 157 ([]))) H Q
theorem law6_PageForms_eq (k : Nat) (z0 : Int) (z1 : Int) (H : Hp) (Q : Post) : callK (law6_PageForms.cx) Go.Proofs.Try.f5 (k + 1) [.g (.int .i64 z0), .g (.int .i64 z1)] H Q = (
 cl law6_awake [] H fun r0 H1 =>
 rG r0 fun v2 =>
 dB v2 fun b3 =>
 bite (!b3)
 (Q (.g (.bool false)) H1)
 (cl law0_CopyPage [(.agg [(.bool true), (.bool true), (.sl (some ((ln H1), 0)) 2 1), (.sl (some ((ln (pu H1 (.row true 9 [(.str (mkS [97])), (.str (mkS [98]))]))), 0)) 2 1), (.sl none 0 1)])] (pu (pu (pu (pu H1 (.row true 9 [(.str (mkS [97])), (.str (mkS [98]))])) (.row true 9 [(.str (mkS [])), (.str (mkS []))])) (.row true 9 [(.str (mkS [97])), (.str (mkS [98]))])) (.row true 3 [(.int .i64 1), (.int .i64 2), (.int .i64 3)])) fun r4 H5 =>
  rA r4 fun c6 =>
  uC c6 fun v7 c8 =>
  dB v7 fun b9 =>
  uC c8 fun v10 c11 =>
  dB v10 fun b12 =>
  uC c11 fun v13 c14 =>
  dL 1 v13 fun x15 n16 =>
  uC c14 fun v17 c18 =>
  dL 1 v17 fun x19 n20 =>
  uC c18 fun v21 c22 =>
  dL 1 v21 fun x23 n24 =>
  uN c22 (bite (eqI (bitsI .and .i64 z0 1) 1)
  (cl law0_CopyPage [(.agg [(.bool true), (.bool false), (.sl (some ((ln (pu (pu H1 (.row true 9 [(.str (mkS [97])), (.str (mkS [98]))])) (.row true 9 [(.str (mkS [])), (.str (mkS []))]))), 0)) 2 1), (.sl none 0 1), (.sl (some ((ln (pu (pu (pu H1 (.row true 9 [(.str (mkS [97])), (.str (mkS [98]))])) (.row true 9 [(.str (mkS [])), (.str (mkS []))])) (.row true 9 [(.str (mkS [97])), (.str (mkS [98]))]))), 0)) 3 1)])] H5 fun r25 H26 =>
   rA r25 fun c27 =>
   uC c27 fun v28 c29 =>
   dB v28 fun b30 =>
   uC c29 fun v31 c32 =>
   dB v31 fun b33 =>
   uC c32 fun v34 c35 =>
   dL 1 v34 fun x36 n37 =>
   uC c35 fun v38 c39 =>
   dL 1 v38 fun x40 n41 =>
   uC c39 fun v42 c43 =>
   dL 1 v42 fun x44 n45 =>
   uN c43 (law6_PageForms.l9 k z0 (wrapI .i64 (1 + (bitsI .and .i64 z1 63))) true true (some ((ln H1), 0)) 2 (some ((ln (pu H1 (.row true 9 [(.str (mkS [97])), (.str (mkS [98]))]))), 0)) 2 none 0 true false (some ((ln (pu (pu H1 (.row true 9 [(.str (mkS [97])), (.str (mkS [98]))])) (.row true 9 [(.str (mkS [])), (.str (mkS []))]))), 0)) 2 none 0 (some ((ln (pu (pu (pu H1 (.row true 9 [(.str (mkS [97])), (.str (mkS [98]))])) (.row true 9 [(.str (mkS [])), (.str (mkS []))])) (.row true 9 [(.str (mkS [97])), (.str (mkS [98]))]))), 0)) 3 b30 b33 x36 n37 x40 n41 x44 n45 H26 Q))
  (law6_PageForms.l9 k z0 (wrapI .i64 (1 + (bitsI .and .i64 z1 63))) true true (some ((ln H1), 0)) 2 (some ((ln (pu H1 (.row true 9 [(.str (mkS [97])), (.str (mkS [98]))]))), 0)) 2 none 0 true false (some ((ln (pu (pu H1 (.row true 9 [(.str (mkS [97])), (.str (mkS [98]))])) (.row true 9 [(.str (mkS [])), (.str (mkS []))]))), 0)) 2 none 0 (some ((ln (pu (pu (pu H1 (.row true 9 [(.str (mkS [97])), (.str (mkS [98]))])) (.row true 9 [(.str (mkS [])), (.str (mkS []))])) (.row true 9 [(.str (mkS [97])), (.str (mkS [98]))]))), 0)) 3 b9 b12 x15 n16 x19 n20 x23 n24 H5 Q)))) := by kernel_rfl
theorem law6_PageForms.l9_eq (k : Nat) (ix0 : Int) (ix1 : Int) (bx2 : Bool) (bx3 : Bool) (ax4 : Pl) (nx5 : Nat) (ax6 : Pl) (nx7 : Nat) (ax8 : Pl) (nx9 : Nat) (bx10 : Bool) (bx11 : Bool) (ax12 : Pl) (nx13 : Nat) (ax14 : Pl) (nx15 : Nat) (ax16 : Pl) (nx17 : Nat) (bx18 : Bool) (bx19 : Bool) (xx20 : Pl) (nx21 : Nat) (xx22 : Pl) (nx23 : Nat) (xx24 : Pl) (nx25 : Nat) (H : Hp) (Q : Post) : law6_PageForms.l9 (k + 1) ix0 ix1 bx2 bx3 ax4 nx5 ax6 nx7 ax8 nx9 bx10 bx11 ax12 nx13 ax14 nx15 ax16 nx17 bx18 bx19 xx20 nx21 xx22 nx23 xx24 nx25 H Q = (
 bite (eqI (Int.tmod (shrI .u64 (wrapI .u64 ix0) 1) 7) 0)
 (law6_PageForms.l26 k ix1 bx2 bx3 ax4 nx5 ax6 nx7 ax8 nx9 bx10 bx11 ax12 nx13 ax14 nx15 ax16 nx17 false bx19 xx20 nx21 xx22 nx23 xx24 nx25 H Q)
 (bite (eqI (Int.tmod (shrI .u64 (wrapI .u64 ix0) 1) 7) 1)
  (chk true (chk ((leI 0 1) && (ltI 1 (nI nx21))) (pS xx20 fun n0 n1 =>
   wr H n0 (n1 + ((tN 1) * 1)) (.str (mkS [97])) fun H2 =>
   law6_PageForms.l26 k ix1 bx2 bx3 ax4 nx5 ax6 nx7 ax8 nx9 bx10 bx11 ax12 nx13 ax14 nx15 ax16 nx17 bx18 bx19 xx20 nx21 xx22 nx23 xx24 nx25 H2 Q)))
  (bite (eqI (Int.tmod (shrI .u64 (wrapI .u64 ix0) 1) 7) 2)
   (chk true (chk ((leI 0 0) && (ltI 0 (nI nx21))) (pS xx20 fun n3 n4 =>
    wr H n3 (n4 + ((tN 0) * 1)) (.str (mkS [])) fun H5 =>
    law6_PageForms.l26 k ix1 bx2 bx3 ax4 nx5 ax6 nx7 ax8 nx9 bx10 bx11 ax12 nx13 ax14 nx15 ax16 nx17 bx18 bx19 xx20 nx21 xx22 nx23 xx24 nx25 H5 Q)))
   (bite (eqI (Int.tmod (shrI .u64 (wrapI .u64 ix0) 1) 7) 3)
    (chk (((eqI ix1 ix1) && (leI 0 ix1)) && (leI (ix1 * 1) (nI 140737488355328))) (rdN (pu H (.row true 5 (repN (tN ix1) [(.int .u8 0)]))) (some ((ln H), 0)) (tN ix1) fun c6 =>
     txt c6 fun s7 =>
     catS (mkS [98, 98, 98, 98, 98, 98]) s7 fun s8 =>
     chk true (chk ((leI 0 1) && (ltI 1 (nI nx21))) (pS xx20 fun n9 n10 =>
     wr (pu H (.row true 5 (repN (tN ix1) [(.int .u8 0)]))) n9 (n10 + ((tN 1) * 1)) (.str s8) fun H11 =>
     law6_PageForms.l26 k ix1 bx2 bx3 ax4 nx5 ax6 nx7 ax8 nx9 bx10 bx11 ax12 nx13 ax14 nx15 ax16 nx17 bx18 bx19 xx20 nx21 xx22 nx23 xx24 nx25 H11 Q))))
    (bite (eqI (Int.tmod (shrI .u64 (wrapI .u64 ix0) 1) 7) 4)
     (chk true (ap H 9 1 16 xx22 nx23 [(.str (mkS []))] 1 fun x12 n13 H14 =>
      law6_PageForms.l26 k ix1 bx2 bx3 ax4 nx5 ax6 nx7 ax8 nx9 bx10 bx11 ax12 nx13 ax14 nx15 ax16 nx17 bx18 bx19 xx20 nx21 x12 n13 xx24 nx25 H14 Q))
     (bite (eqI (Int.tmod (shrI .u64 (wrapI .u64 ix0) 1) 7) 5)
      (chk true (ap H 3 1 8 xx24 nx25 [(.int .i64 9)] 1 fun x15 n16 H17 =>
       law6_PageForms.l26 k ix1 bx2 bx3 ax4 nx5 ax6 nx7 ax8 nx9 bx10 bx11 ax12 nx13 ax14 nx15 ax16 nx17 bx18 bx19 xx20 nx21 xx22 nx23 x15 n16 H17 Q))
      (chk true (ap H 9 1 16 xx20 nx21 [(.str (mkS [99])), (.str (mkS [100])), (.str (mkS [101]))] 3 fun x18 n19 H20 =>
       bite bx19
       (chk true (ap H20 9 1 16 xx22 nx23 [(.str (mkS [])), (.str (mkS [])), (.str (mkS []))] 3 fun x21 n22 H23 =>
        law6_PageForms.l26 k ix1 bx2 bx3 ax4 nx5 ax6 nx7 ax8 nx9 bx10 bx11 ax12 nx13 ax14 nx15 ax16 nx17 bx18 bx19 x18 n19 x21 n22 xx24 nx25 H23 Q))
       (chk true (ap H20 3 1 8 xx24 nx25 [(.int .i64 4), (.int .i64 5), (.int .i64 6)] 3 fun x24 n25 H26 =>
        law6_PageForms.l26 k ix1 bx2 bx3 ax4 nx5 ax6 nx7 ax8 nx9 bx10 bx11 ax12 nx13 ax14 nx15 ax16 nx17 bx18 bx19 x18 n19 xx22 nx23 x24 n25 H26 Q)))))))))) := by kernel_rfl
theorem law6_PageForms.l26_eq (k : Nat) (ix0 : Int) (bx1 : Bool) (bx2 : Bool) (ax3 : Pl) (nx4 : Nat) (ax5 : Pl) (nx6 : Nat) (ax7 : Pl) (nx8 : Nat) (bx9 : Bool) (bx10 : Bool) (ax11 : Pl) (nx12 : Nat) (ax13 : Pl) (nx14 : Nat) (ax15 : Pl) (nx16 : Nat) (bx17 : Bool) (bx18 : Bool) (xx19 : Pl) (nx20 : Nat) (xx21 : Pl) (nx22 : Nat) (xx23 : Pl) (nx24 : Nat) (H : Hp) (Q : Post) : law6_PageForms.l26 (k + 1) ix0 bx1 bx2 ax3 nx4 ax5 nx6 ax7 nx8 bx9 bx10 ax11 nx12 ax13 nx14 ax15 nx16 bx17 bx18 xx19 nx20 xx21 nx22 xx23 nx24 H Q = (
 cl law0_CopyPage [(.agg [(.bool bx1), (.bool bx2), (.sl ax3 nx4 1), (.sl ax5 nx6 1), (.sl ax7 nx8 1)])] H fun r0 H1 =>
 rA r0 fun c2 =>
 uC c2 fun v3 c4 =>
 dB v3 fun b5 =>
 uC c4 fun v6 c7 =>
 dB v6 fun b8 =>
 uC c7 fun v9 c10 =>
 dL 1 v9 fun x11 n12 =>
 uC c10 fun v13 c14 =>
 dL 1 v13 fun x15 n16 =>
 uC c14 fun v17 c18 =>
 dL 1 v17 fun x19 n20 =>
 uN c18 (chk (((eqI (wrapI .i64 (10 + ix0)) (wrapI .i64 (10 + ix0))) && (leI 0 (wrapI .i64 (10 + ix0)))) && (leI ((wrapI .i64 (10 + ix0)) * 1) (nI 140737488355328))) (rdN (pu H1 (.row true 5 (repN (tN (wrapI .i64 (10 + ix0))) [(.int .u8 0)]))) (some ((ln H1), 0)) (tN (wrapI .i64 (10 + ix0))) fun c21 =>
 txt c21 fun s22 =>
 chk true (chk ((leI 0 0) && (ltI 0 (nI n16))) (pS x15 fun n23 n24 =>
 wr (pu H1 (.row true 5 (repN (tN (wrapI .i64 (10 + ix0))) [(.int .u8 0)]))) n23 (n24 + ((tN 0) * 1)) (.str s22) fun H25 =>
 cl law0_CopyPage [(.agg [(.bool bx9), (.bool bx10), (.sl ax11 nx12 1), (.sl ax13 nx14 1), (.sl ax15 nx16 1)])] H25 fun r26 H27 =>
 rA r26 fun c28 =>
 uC c28 fun v29 c30 =>
 dB v29 fun b31 =>
 uC c30 fun v32 c33 =>
 dB v32 fun b34 =>
 uC c33 fun v35 c36 =>
 dL 1 v35 fun x37 n38 =>
 uC c36 fun v39 c40 =>
 dL 1 v39 fun x41 n42 =>
 uC c40 fun v43 c44 =>
 dL 1 v43 fun x45 n46 =>
 uN c44 (chk true (chk ((leI 0 1) && (ltI 1 (nI n46))) (pS x45 fun n47 n48 =>
 wr H27 n47 (n48 + ((tN 1) * 1)) (.int .i64 0) fun H49 =>
 cl law0_CopyPage [(.agg [(.bool bx9), (.bool bx10), (.sl ax11 nx12 1), (.sl ax13 nx14 1), (.sl ax15 nx16 1)])] H49 fun r50 H51 =>
 rA r50 fun c52 =>
 uC c52 fun v53 c54 =>
 dB v53 fun b55 =>
 uC c54 fun v56 c57 =>
 dB v56 fun b58 =>
 uC c57 fun v59 c60 =>
 dL 1 v59 fun x61 n62 =>
 uC c60 fun v63 c64 =>
 dL 1 v63 fun x65 n66 =>
 uC c64 fun v67 c68 =>
 dL 1 v67 fun x69 n70 =>
 uN c68 (chk true (chk ((leI 0 2) && (ltI 2 (nI n70))) (pS x69 fun n71 n72 =>
 wr H51 n71 (n72 + ((tN 2) * 1)) (.int .i64 1) fun H73 =>
 cl law0_CopyPage [(.agg [(.bool bx9), (.bool bx10), (.sl ax11 nx12 1), (.sl ax13 nx14 1), (.sl ax15 nx16 1)])] H73 fun r74 H75 =>
 rA r74 fun c76 =>
 uC c76 fun v77 c78 =>
 dB v77 fun b79 =>
 uC c78 fun v80 c81 =>
 dB v80 fun b82 =>
 uC c81 fun v83 c84 =>
 dL 1 v83 fun x85 n86 =>
 uC c84 fun v87 c88 =>
 dL 1 v87 fun x89 n90 =>
 uC c88 fun v91 c92 =>
 dL 1 v91 fun x93 n94 =>
 uN c92 (chk true (chk ((leI 0 0) && (ltI 0 (nI n94))) (pS x93 fun n95 n96 =>
 wr H75 n95 (n96 + ((tN 0) * 1)) (.int .i64 (wrapI .i64 (47 + ix0))) fun H97 =>
 cl page_Put [(.agg [(.bool bx17), (.bool bx18), (.sl xx19 nx20 1), (.sl xx21 nx22 1), (.sl xx23 nx24 1)])] H97 fun r98 H99 =>
 rT r98 fun c100 =>
 uR c100 fun q101 c102 =>
 rS q101 fun v103 =>
 dS v103 fun s104 =>
 uR c102 fun q105 c106 =>
 rS q105 fun v107 =>
 dI .i64 v107 fun i108 =>
 uE c106 (cl page_May [(.agg [(.bool bx17), (.bool bx18), (.sl xx19 nx20 1), (.sl xx21 nx22 1), (.sl xx23 nx24 1)])] H99 fun r109 H110 =>
 rG r109 fun v111 =>
 dB v111 fun b112 =>
 bite (!b112)
 (bite (strEq s104 (mkS []))
  (cl law0_Num [(.g (.int .i64 i108))] H110 fun r113 H114 =>
   rG r113 fun v115 =>
   dI .i64 v115 fun i116 =>
   bite (eqI i116 600)
   (cl page_May [(.agg [(.bool bx1), (.bool bx2), (.sl ax3 nx4 1), (.sl ax5 nx6 1), (.sl ax7 nx8 1)])] H114 fun r117 H118 =>
    rG r117 fun v119 =>
    dB v119 fun b120 =>
    bite b120
    (cl page_May [(.agg [(.bool bx9), (.bool bx10), (.sl ax11 nx12 1), (.sl ax13 nx14 1), (.sl ax15 nx16 1)])] H118 fun r121 H122 =>
     rG r121 fun v123 =>
     dB v123 fun b124 =>
     bite b124
     (cl page_May [(.agg [(.bool b5), (.bool b8), (.sl x11 n12 1), (.sl x15 n16 1), (.sl x19 n20 1)])] H122 fun r125 H126 =>
      rG r125 fun v127 =>
      dB v127 fun b128 =>
      bite (!b128)
      (cl page_May [(.agg [(.bool b31), (.bool b34), (.sl x37 n38 1), (.sl x41 n42 1), (.sl x45 n46 1)])] H126 fun r129 H130 =>
       rG r129 fun v131 =>
       dB v131 fun b132 =>
       bite (!b132)
       (cl page_May [(.agg [(.bool b55), (.bool b58), (.sl x61 n62 1), (.sl x65 n66 1), (.sl x69 n70 1)])] H130 fun r133 H134 =>
        rG r133 fun v135 =>
        dB v135 fun b136 =>
        bite (!b136)
        (cl page_May [(.agg [(.bool b79), (.bool b82), (.sl x85 n86 1), (.sl x89 n90 1), (.sl x93 n94 1)])] H134 fun r137 H138 =>
         rG r137 fun v139 =>
         dB v139 fun b140 =>
         bite (!b140)
         (cl page_May [(.agg [(.bool true), (.bool false), (.sl none 0 1), (.sl none 0 1), (.sl none 0 1)])] H138 fun r141 H142 =>
          rG r141 fun v143 =>
          dB v143 fun b144 =>
          Q (.g (.bool (!b144))) H142)
         (Q (.g (.bool false)) H138))
        (Q (.g (.bool false)) H134))
       (Q (.g (.bool false)) H130))
      (Q (.g (.bool false)) H126))
     (Q (.g (.bool false)) H122))
    (Q (.g (.bool false)) H118))
   (Q (.g (.bool false)) H114))
  (Q (.g (.bool false)) H110))
 (Q (.g (.bool false)) H110)))))))))))))))) := by kernel_rfl
theorem law6_PageForms_ok : Sound Go.Proofs.Try.prog 5 (law6_PageForms) := prog_ok.sound (cx := law6_PageForms.cx) rfl (EnvOK.cons ((law6_awake_ok).c ⟨_, Go.Proofs.Try.func23, by kernel_rfl, by kernel_rfl⟩) (EnvOK.cons ((law0_CopyPage_ok).c ⟨_, Go.Proofs.Try.func13, by kernel_rfl, by kernel_rfl⟩) (EnvOK.cons ((page_Put_ok).c ⟨_, Go.Proofs.Try.func14, by kernel_rfl, by kernel_rfl⟩) (EnvOK.cons ((page_May_ok).c ⟨_, Go.Proofs.Try.func20, by kernel_rfl, by kernel_rfl⟩) (EnvOK.cons ((law0_Num_ok).c ⟨_, Go.Proofs.Try.func18, by kernel_rfl, by kernel_rfl⟩) (EnvOK.nil _)))))) (noDyn_ok _) Go.Proofs.Try.func5 rfl

/-! 6: cryostat/cryostatlaw6.PageCut -/
def law6_PageCut.cx : Cx := ⟨tys, [], [], [], [(23, law6_awake), (14, page_Put), (18, law0_Num), (16, page_Get)], noDyn, [.tmp 4]⟩
def law6_PageCut : Sm := fun xs H Q => ∃ k, callK (law6_PageCut.cx) Go.Proofs.Try.f6 k xs H Q
theorem law6_PageCut_eq (k : Nat) (z0 : Bool) (z1 : Bool) (z2 : Pl) (z2n : Nat) (z3 : Pl) (z3n : Nat) (z4 : Pl) (z4n : Nat) (z5 : Int) (H : Hp) (Q : Post) : callK (law6_PageCut.cx) Go.Proofs.Try.f6 (k + 1) [.agg [.bool z0, .bool z1, .sl z2 z2n 1, .sl z3 z3n 1, .sl z4 z4n 1], .g (.int .i64 z5)] H Q = (
 cl law6_awake [] H fun r0 H1 =>
 rG r0 fun v2 =>
 dB v2 fun b3 =>
 bite (!b3)
 (Q (.g (.bool false)) H1)
 (cl page_Put [(.agg [(.bool z0), (.bool z1), (.sl z2 z2n 1), (.sl z3 z3n 1), (.sl z4 z4n 1)])] H1 fun r4 H5 =>
  rT r4 fun c6 =>
  uR c6 fun q7 c8 =>
  rS q7 fun v9 =>
  dS v9 fun s10 =>
  uR c8 fun q11 c12 =>
  rS q11 fun v13 =>
  dI .i64 v13 fun i14 =>
  uE c12 (cl law0_Num [(.g (.int .i64 i14))] H5 fun r15 H16 =>
  rG r15 fun v17 =>
  dI .i64 v17 fun i18 =>
  bite (!(eqI i18 0))
  (Q (.g (.bool (strEq s10 (mkS [])))) H16)
  (bite (ltI (sz s10) 1)
   (Q (.g (.bool (strEq s10 (mkS [])))) H16)
   (chk (!(eqI (wrapI .u64 (sz s10)) 0)) (chk (leI 0 (wrapI .i64 (Int.tmod (wrapI .u64 z5) (wrapI .u64 (sz s10))))) (chk ((leN 0 (tN (wrapI .i64 (Int.tmod (wrapI .u64 z5) (wrapI .u64 (sz s10)))))) && (leN (tN (wrapI .i64 (Int.tmod (wrapI .u64 z5) (wrapI .u64 (sz s10))))) (szN s10))) (cl page_Get [(.g (.str (sub s10 0 (tN (wrapI .i64 (Int.tmod (wrapI .u64 z5) (wrapI .u64 (sz s10))))))))] H16 fun r19 H20 =>
    rT r19 fun c21 =>
    uR c21 fun q22 c23 =>
    rC q22 fun c24 =>
    uC c24 fun v25 c26 =>
    dB v25 fun b27 =>
    uC c26 fun v28 c29 =>
    dB v28 fun b30 =>
    uC c29 fun v31 c32 =>
    dL 1 v31 fun x33 n34 =>
    uC c32 fun v35 c36 =>
    dL 1 v35 fun x37 n38 =>
    uC c36 fun v39 c40 =>
    dL 1 v39 fun x41 n42 =>
    uN c40 (uR c23 fun q43 c44 =>
    rS q43 fun v45 =>
    dI .i64 v45 fun i46 =>
    uE c44 (catS s10 (mkS [0]) fun s47 =>
    cl page_Get [(.g (.str s47))] H20 fun r48 H49 =>
    rT r48 fun c50 =>
    uR c50 fun q51 c52 =>
    rC q51 fun c53 =>
    uC c53 fun v54 c55 =>
    dB v54 fun b56 =>
    uC c55 fun v57 c58 =>
    dB v57 fun b59 =>
    uC c58 fun v60 c61 =>
    dL 1 v60 fun x62 n63 =>
    uC c61 fun v64 c65 =>
    dL 1 v64 fun x66 n67 =>
    uC c65 fun v68 c69 =>
    dL 1 v68 fun x70 n71 =>
    uN c69 (uR c52 fun q72 c73 =>
    rS q72 fun v74 =>
    dI .i64 v74 fun i75 =>
    uE c73 (cl law0_Num [(.g (.int .i64 i46))] H49 fun r76 H77 =>
    rG r76 fun v78 =>
    dI .i64 v78 fun i79 =>
    bite (eqI i79 600)
    (cl law0_Num [(.g (.int .i64 i75))] H77 fun r80 H81 =>
     rG r80 fun v82 =>
     dI .i64 v82 fun i83 =>
     Q (.g (.bool (eqI i83 600))) H81)
    (Q (.g (.bool false)) H77))))))))))))) := by kernel_rfl
theorem law6_PageCut_ok : Sound Go.Proofs.Try.prog 6 (law6_PageCut) := prog_ok.sound (cx := law6_PageCut.cx) rfl (EnvOK.cons ((law6_awake_ok).c ⟨_, Go.Proofs.Try.func23, by kernel_rfl, by kernel_rfl⟩) (EnvOK.cons ((page_Put_ok).c ⟨_, Go.Proofs.Try.func14, by kernel_rfl, by kernel_rfl⟩) (EnvOK.cons ((law0_Num_ok).c ⟨_, Go.Proofs.Try.func18, by kernel_rfl, by kernel_rfl⟩) (EnvOK.cons ((page_Get_ok).c ⟨_, Go.Proofs.Try.func16, by kernel_rfl, by kernel_rfl⟩) (EnvOK.nil _))))) (noDyn_ok _) Go.Proofs.Try.func6 rfl

/-! 7: cryostat/cryostatlaw6.PageUnlike -/
def law6_PageUnlike.cx : Cx := ⟨tys, [], [], [], [(23, law6_awake), (14, page_Put), (18, law0_Num), (19, law0_SamePage)], noDyn, [.tmp 4]⟩
def law6_PageUnlike : Sm := fun xs H Q => ∃ k, callK (law6_PageUnlike.cx) Go.Proofs.Try.f7 k xs H Q
theorem law6_PageUnlike_eq (k : Nat) (z0 : Bool) (z1 : Bool) (z2 : Pl) (z2n : Nat) (z3 : Pl) (z3n : Nat) (z4 : Pl) (z4n : Nat) (z5 : Bool) (z6 : Bool) (z7 : Pl) (z7n : Nat) (z8 : Pl) (z8n : Nat) (z9 : Pl) (z9n : Nat) (H : Hp) (Q : Post) : callK (law6_PageUnlike.cx) Go.Proofs.Try.f7 (k + 1) [.agg [.bool z0, .bool z1, .sl z2 z2n 1, .sl z3 z3n 1, .sl z4 z4n 1], .agg [.bool z5, .bool z6, .sl z7 z7n 1, .sl z8 z8n 1, .sl z9 z9n 1]] H Q = (
 cl law6_awake [] H fun r0 H1 =>
 rG r0 fun v2 =>
 dB v2 fun b3 =>
 bite (!b3)
 (Q (.g (.bool false)) H1)
 (cl page_Put [(.agg [(.bool z0), (.bool z1), (.sl z2 z2n 1), (.sl z3 z3n 1), (.sl z4 z4n 1)])] H1 fun r4 H5 =>
  rT r4 fun c6 =>
  uR c6 fun q7 c8 =>
  rS q7 fun v9 =>
  dS v9 fun s10 =>
  uR c8 fun q11 c12 =>
  rS q11 fun v13 =>
  dI .i64 v13 fun i14 =>
  uE c12 (cl page_Put [(.agg [(.bool z5), (.bool z6), (.sl z7 z7n 1), (.sl z8 z8n 1), (.sl z9 z9n 1)])] H5 fun r15 H16 =>
  rT r15 fun c17 =>
  uR c17 fun q18 c19 =>
  rS q18 fun v20 =>
  dS v20 fun s21 =>
  uR c19 fun q22 c23 =>
  rS q22 fun v24 =>
  dI .i64 v24 fun i25 =>
  uE c23 (cl law0_Num [(.g (.int .i64 i14))] H16 fun r26 H27 =>
  rG r26 fun v28 =>
  dI .i64 v28 fun i29 =>
  bite (!(eqI i29 0))
  (cl law0_Num [(.g (.int .i64 i14))] H27 fun r30 H31 =>
   rG r30 fun v32 =>
   dI .i64 v32 fun i33 =>
   bite (eqI i33 0)
   (cl law0_Num [(.g (.int .i64 i25))] H31 fun r34 H35 =>
    rG r34 fun v36 =>
    dI .i64 v36 fun i37 =>
    bite (eqI i37 0)
    (Q (.g (.bool true)) H35)
    (Q (.g (.bool (strEq s21 (mkS [])))) H35))
   (bite (strEq s10 (mkS []))
    (cl law0_Num [(.g (.int .i64 i25))] H31 fun r38 H39 =>
     rG r38 fun v40 =>
     dI .i64 v40 fun i41 =>
     bite (eqI i41 0)
     (Q (.g (.bool true)) H39)
     (Q (.g (.bool (strEq s21 (mkS [])))) H39))
    (Q (.g (.bool false)) H31)))
  (cl law0_Num [(.g (.int .i64 i25))] H27 fun r42 H43 =>
   rG r42 fun v44 =>
   dI .i64 v44 fun i45 =>
   bite (!(eqI i45 0))
   (cl law0_Num [(.g (.int .i64 i14))] H43 fun r46 H47 =>
    rG r46 fun v48 =>
    dI .i64 v48 fun i49 =>
    bite (eqI i49 0)
    (cl law0_Num [(.g (.int .i64 i25))] H47 fun r50 H51 =>
     rG r50 fun v52 =>
     dI .i64 v52 fun i53 =>
     bite (eqI i53 0)
     (Q (.g (.bool true)) H51)
     (Q (.g (.bool (strEq s21 (mkS [])))) H51))
    (bite (strEq s10 (mkS []))
     (cl law0_Num [(.g (.int .i64 i25))] H47 fun r54 H55 =>
      rG r54 fun v56 =>
      dI .i64 v56 fun i57 =>
      bite (eqI i57 0)
      (Q (.g (.bool true)) H55)
      (Q (.g (.bool (strEq s21 (mkS [])))) H55))
     (Q (.g (.bool false)) H47)))
   (cl law0_SamePage [(.agg [(.bool z0), (.bool z1), (.sl z2 z2n 1), (.sl z3 z3n 1), (.sl z4 z4n 1)]), (.agg [(.bool z5), (.bool z6), (.sl z7 z7n 1), (.sl z8 z8n 1), (.sl z9 z9n 1)])] H43 fun r58 H59 =>
    rG r58 fun v60 =>
    dB v60 fun b61 =>
    Q (.g (.bool (eqB (strEq s10 s21) b61))) H59)))))) := by kernel_rfl
theorem law6_PageUnlike_ok : Sound Go.Proofs.Try.prog 7 (law6_PageUnlike) := prog_ok.sound (cx := law6_PageUnlike.cx) rfl (EnvOK.cons ((law6_awake_ok).c ⟨_, Go.Proofs.Try.func23, by kernel_rfl, by kernel_rfl⟩) (EnvOK.cons ((page_Put_ok).c ⟨_, Go.Proofs.Try.func14, by kernel_rfl, by kernel_rfl⟩) (EnvOK.cons ((law0_Num_ok).c ⟨_, Go.Proofs.Try.func18, by kernel_rfl, by kernel_rfl⟩) (EnvOK.cons ((law0_SamePage_ok).c ⟨_, Go.Proofs.Try.func19, by kernel_rfl, by kernel_rfl⟩) (EnvOK.nil _))))) (noDyn_ok _) Go.Proofs.Try.func7 rfl


end Go.Am
