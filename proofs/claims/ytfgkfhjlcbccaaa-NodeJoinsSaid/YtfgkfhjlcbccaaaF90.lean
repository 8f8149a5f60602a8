import Derived.Test.YtfgkfhjlcbccaaaF61
set_option linter.unusedVariables false
set_option linter.unusedSimpArgs false
namespace Go.Am
/-! 43: cryostat/cryostatlaw0.CopyTexts -/
def law0_CopyTexts.cx : Cx := ⟨tys, [], [], [], [], noDyn, [.tmp 2]⟩
def law0_CopyTexts : Sm := fun xs H Q => ∃ k, callK (law0_CopyTexts.cx) Go.Proofs.Try.f43 k xs H Q
theorem law0_CopyTexts_eq (k : Nat) (z0 : Pl) (z0n : Nat) (H : Hp) (Q : Post) : callK (law0_CopyTexts.cx) Go.Proofs.Try.f43 (k + 1) [.g (.sl z0 z0n 1)] H Q = (
 chk true (rdN H z0 (z0n * 1) fun c0 =>
 ap0 H 9 1 16 c0 z0n fun H1 =>
 Q (.g (.sl (some ((ln H), 0)) z0n 1)) H1)) := by kernel_rfl
theorem law0_CopyTexts_ok : Sound Go.Proofs.Try.prog 43 (law0_CopyTexts) := prog_ok.sound (cx := law0_CopyTexts.cx) rfl (EnvOK.nil _) (noDyn_ok _) Go.Proofs.Try.func43 rfl

/-! 24: cryostat/cryostatlaw0.LendTexts -/
def law0_LendTexts.cx : Cx := ⟨tys, [], [], [], [(43, law0_CopyTexts)], noDyn, [.tmp 2]⟩
def law0_LendTexts : Sm := fun xs H Q => ∃ k, callK (law0_LendTexts.cx) Go.Proofs.Try.f24 k xs H Q
theorem law0_LendTexts_eq (k : Nat) (z0 : Pl) (z0n : Nat) (H : Hp) (Q : Post) : callK (law0_LendTexts.cx) Go.Proofs.Try.f24 (k + 1) [.g (.sl z0 z0n 1)] H Q = (
 cl law0_CopyTexts [(.g (.sl z0 z0n 1))] H fun r0 H1 =>
 rG r0 fun v2 =>
 dL 1 v2 fun x3 n4 =>
 chk true (ap H1 9 1 16 x3 n4 [(.str (mkS [126, 114, 111, 111, 109])), (.str (mkS [126, 98, 101, 104, 105, 110, 100]))] 2 fun x5 n6 H7 =>
 chk true (chk (leI 0 (nI z0n)) (chk ((leN 0 (tN (nI z0n))) && ((leN (tN (nI z0n)) n6) || (room H7 x5 ((tN (nI z0n)) * 1)))) (Q (.g (.sl (shf x5 0) ((tN (nI z0n)) - 0) 1)) H7))))) := by kernel_rfl
theorem law0_LendTexts_ok : Sound Go.Proofs.Try.prog 24 (law0_LendTexts) := prog_ok.sound (cx := law0_LendTexts.cx) rfl (EnvOK.cons ((law0_CopyTexts_ok).c ⟨_, Go.Proofs.Try.func43, by kernel_rfl, by kernel_rfl⟩) (EnvOK.nil _)) (noDyn_ok _) Go.Proofs.Try.func24 rfl

/-! 25: cryostat/node.Slot -/
def node_Slot.cx : Cx := ⟨tys, [], [(3, [0, 1, 6, 9, 10, 11])], [], [], noDyn, [.tmp 4, .tmp 5]⟩
def node_Slot : Sm := fun xs H Q => ∃ k, callK (node_Slot.cx) Go.Proofs.Try.f25 k xs H Q
def node_Slot.l3 (k : Nat) (xx0 : Pl) (nx1 : Nat) (sx2 : ByteArray) (ix3 : Int) (xx4 : Pl) (nx5 : Nat) (ix6 : Int) (ix7 : Int) (H : Hp) (Q : Post) : Prop := loopK (node_Slot.cx) Go.Proofs.Try.f25 3 k ((.g (.sl xx0 nx1 1)) :: (.g (.str sx2)) :: B 4 ((.g (.int .i64 ix3)) :: .bad :: .bad :: (.g (.sl xx4 nx5 1)) :: (.g (.int .i64 ix6)) :: (.g (.int .i64 ix7)) :: B 22 ([]))) H Q
theorem node_Slot_eq (k : Nat) (z0 : Pl) (z0n : Nat) (z1 : ByteArray) (H : Hp) (Q : Post) : callK (node_Slot.cx) Go.Proofs.Try.f25 (k + 1) [.g (.sl z0 z0n 1), .g (.str z1)] H Q = (
 node_Slot.l3 k z0 z0n z1 0 z0 z0n (nI z0n) 0 H Q) := by kernel_rfl
theorem node_Slot.l3_eq (k : Nat) (xx0 : Pl) (nx1 : Nat) (sx2 : ByteArray) (ix3 : Int) (xx4 : Pl) (nx5 : Nat) (ix6 : Int) (ix7 : Int) (H : Hp) (Q : Post) : node_Slot.l3 (k + 1) xx0 nx1 sx2 ix3 xx4 nx5 ix6 ix7 H Q = (
 bite (ltI ix7 ix6)
 (chk true (chk ((leI 0 ix7) && (ltI ix7 (nI nx5))) (pS xx4 fun n0 n1 =>
  rd H n0 (n1 + ((tN ix7) * 1)) fun v2 =>
  dS v2 fun s3 =>
  bite (strLt s3 sx2)
  (node_Slot.l3 k xx0 nx1 sx2 (wrapI .i64 (ix3 + 1)) xx4 nx5 ix6 (wrapI .i64 (ix7 + 1)) H Q)
  (node_Slot.l3 k xx0 nx1 sx2 ix3 xx4 nx5 ix6 (wrapI .i64 (ix7 + 1)) H Q))))
 (bite (ltI ix3 (nI nx1))
  (chk true (chk ((leI 0 ix3) && (ltI ix3 (nI nx1))) (pS xx0 fun n4 n5 =>
   rd H n4 (n5 + ((tN ix3) * 1)) fun v6 =>
   dS v6 fun s7 =>
   Q (.tup [(.s (.int .i64 ix3)), (.s (.bool (strEq s7 sx2)))]) H)))
  (Q (.tup [(.s (.int .i64 ix3)), (.s (.bool false))]) H))) := by kernel_rfl
theorem node_Slot_ok : Sound Go.Proofs.Try.prog 25 (node_Slot) := prog_ok.sound (cx := node_Slot.cx) rfl (EnvOK.nil _) (noDyn_ok _) Go.Proofs.Try.func25 rfl

/-! 26: cryostat/cryostatref9.Slot -/
def ref9_Slot.cx : Cx := ⟨tys, [], [(3, [0, 1, 6, 7])], [], [], noDyn, [.tmp 4, .tmp 5]⟩
def ref9_Slot : Sm := fun xs H Q => ∃ k, callK (ref9_Slot.cx) Go.Proofs.Try.f26 k xs H Q
def ref9_Slot.l3 (k : Nat) (xx0 : Pl) (nx1 : Nat) (sx2 : ByteArray) (ix3 : Int) (ix4 : Int) (H : Hp) (Q : Post) : Prop := loopK (ref9_Slot.cx) Go.Proofs.Try.f26 3 k ((.g (.sl xx0 nx1 1)) :: (.g (.str sx2)) :: B 4 ((.g (.int .i64 ix3)) :: (.g (.int .i64 ix4)) :: B 27 ([]))) H Q
theorem ref9_Slot_eq (k : Nat) (z0 : Pl) (z0n : Nat) (z1 : ByteArray) (H : Hp) (Q : Post) : callK (ref9_Slot.cx) Go.Proofs.Try.f26 (k + 1) [.g (.sl z0 z0n 1), .g (.str z1)] H Q = (
 ref9_Slot.l3 k z0 z0n z1 0 0 H Q) := by kernel_rfl
theorem ref9_Slot.l3_eq (k : Nat) (xx0 : Pl) (nx1 : Nat) (sx2 : ByteArray) (ix3 : Int) (ix4 : Int) (H : Hp) (Q : Post) : ref9_Slot.l3 (k + 1) xx0 nx1 sx2 ix3 ix4 H Q = (
 bite (ltI ix4 (nI nx1))
 (chk true (chk ((leI 0 ix4) && (ltI ix4 (nI nx1))) (pS xx0 fun n0 n1 =>
  rd H n0 (n1 + ((tN ix4) * 1)) fun v2 =>
  dS v2 fun s3 =>
  bite (strLt s3 sx2)
  (ref9_Slot.l3 k xx0 nx1 sx2 (wrapI .i64 (ix3 + 1)) (wrapI .i64 (ix4 + 1)) H Q)
  (ref9_Slot.l3 k xx0 nx1 sx2 ix3 (wrapI .i64 (ix4 + 1)) H Q))))
 (bite (ltI ix3 (nI nx1))
  (chk true (chk ((leI 0 ix3) && (ltI ix3 (nI nx1))) (pS xx0 fun n4 n5 =>
   rd H n4 (n5 + ((tN ix3) * 1)) fun v6 =>
   dS v6 fun s7 =>
   Q (.tup [(.s (.int .i64 ix3)), (.s (.bool (strEq s7 sx2)))]) H)))
  (Q (.tup [(.s (.int .i64 ix3)), (.s (.bool false))]) H))) := by kernel_rfl
theorem ref9_Slot_ok : Sound Go.Proofs.Try.prog 26 (ref9_Slot) := prog_ok.sound (cx := ref9_Slot.cx) rfl (EnvOK.nil _) (noDyn_ok _) Go.Proofs.Try.func26 rfl

/-! 66: slices.Clone[[]string,string] -/
def slices_Clone__string_string.cx : Cx := ⟨tys, [], [], [], [], noDyn, [.tmp 2]⟩
def slices_Clone__string_string : Sm := fun xs H Q => ∃ k, callK (slices_Clone__string_string.cx) Go.Proofs.Try.f66 k xs H Q
theorem slices_Clone__string_string_eq (k : Nat) (z0 : Pl) (z0n : Nat) (H : Hp) (Q : Post) : callK (slices_Clone__string_string.cx) Go.Proofs.Try.f66 (k + 1) [.g (.sl z0 z0n 1)] H Q = (
 bite (isNone z0)
 (Q (.g (.sl none 0 1)) H)
 (chk true (rdN H z0 (z0n * 1) fun c0 =>
  ap0 H 9 1 16 c0 z0n fun H1 =>
  Q (.g (.sl (some ((ln H), 0)) z0n 1)) H1))) := by kernel_rfl
theorem slices_Clone__string_string_ok : Sound Go.Proofs.Try.prog 66 (slices_Clone__string_string) := prog_ok.sound (cx := slices_Clone__string_string.cx) rfl (EnvOK.nil _) (noDyn_ok _) Go.Proofs.Try.func66 rfl

/-! 67: slices.Clone[[]int,int] -/
def slices_Clone__int_int.cx : Cx := ⟨tys, [], [], [], [], noDyn, [.tmp 2]⟩
def slices_Clone__int_int : Sm := fun xs H Q => ∃ k, callK (slices_Clone__int_int.cx) Go.Proofs.Try.f67 k xs H Q
theorem slices_Clone__int_int_eq (k : Nat) (z0 : Pl) (z0n : Nat) (H : Hp) (Q : Post) : callK (slices_Clone__int_int.cx) Go.Proofs.Try.f67 (k + 1) [.g (.sl z0 z0n 1)] H Q = (
 bite (isNone z0)
 (Q (.g (.sl none 0 1)) H)
 (chk true (rdN H z0 (z0n * 1) fun c0 =>
  ap0 H 3 1 8 c0 z0n fun H1 =>
  Q (.g (.sl (some ((ln H), 0)) z0n 1)) H1))) := by kernel_rfl
theorem slices_Clone__int_int_ok : Sound Go.Proofs.Try.prog 67 (slices_Clone__int_int) := prog_ok.sound (cx := slices_Clone__int_int.cx) rfl (EnvOK.nil _) (noDyn_ok _) Go.Proofs.Try.func67 rfl

/-! 58: cryostat/page.Copy -/
def page_Copy.cx : Cx := ⟨tys, [], [], [], [(66, slices_Clone__string_string), (67, slices_Clone__int_int)], noDyn, [.cell 2 25]⟩
def page_Copy : Sm := fun xs H Q => ∃ k, callK (page_Copy.cx) Go.Proofs.Try.f58 k xs H Q
theorem page_Copy_eq (k : Nat) (z0 : Bool) (z1 : Bool) (z2 : Pl) (z2n : Nat) (z3 : Pl) (z3n : Nat) (z4 : Pl) (z4n : Nat) (H : Hp) (Q : Post) : callK (page_Copy.cx) Go.Proofs.Try.f58 (k + 1) [.agg [.bool z0, .bool z1, .sl z2 z2n 1, .sl z3 z3n 1, .sl z4 z4n 1]] H Q = (
 cl slices_Clone__string_string [(.g (.sl z2 z2n 1))] H fun r0 H1 =>
 rG r0 fun v2 =>
 dL 1 v2 fun x3 n4 =>
 cl slices_Clone__string_string [(.g (.sl z3 z3n 1))] H1 fun r5 H6 =>
 rG r5 fun v7 =>
 dL 1 v7 fun x8 n9 =>
 cl slices_Clone__int_int [(.g (.sl z4 z4n 1))] H6 fun r10 H11 =>
 rG r10 fun v12 =>
 dL 1 v12 fun x13 n14 =>
 Q (.agg [(.bool z0), (.bool z1), (.sl x3 n4 1), (.sl x8 n9 1), (.sl x13 n14 1)]) H11) := by kernel_rfl
theorem page_Copy_ok : Sound Go.Proofs.Try.prog 58 (page_Copy) := prog_ok.sound (cx := page_Copy.cx) rfl (EnvOK.cons ((slices_Clone__string_string_ok).c ⟨_, Go.Proofs.Try.func66, by kernel_rfl, by kernel_rfl⟩) (EnvOK.cons ((slices_Clone__int_int_ok).c ⟨_, Go.Proofs.Try.func67, by kernel_rfl, by kernel_rfl⟩) (EnvOK.nil _))) (noDyn_ok _) Go.Proofs.Try.func58 rfl

/-! 44: cryostat/node.Cut -/
def node_Cut.cx : Cx := ⟨tys, [], [], [], [(58, page_Copy)], noDyn, [.cell 4 25, .tmp 5, .cell 6 25]⟩
def node_Cut : Sm := fun xs H Q => ∃ k, callK (node_Cut.cx) Go.Proofs.Try.f44 k xs H Q
theorem node_Cut_eq (k : Nat) (z0 : Bool) (z1 : Bool) (z2 : Pl) (z2n : Nat) (z3 : Pl) (z3n : Nat) (z4 : Pl) (z4n : Nat) (z5 : Int) (H : Hp) (Q : Post) : callK (node_Cut.cx) Go.Proofs.Try.f44 (k + 1) [.agg [.bool z0, .bool z1, .sl z2 z2n 1, .sl z3 z3n 1, .sl z4 z4n 1], .g (.int .i64 z5)] H Q = (
 chk true (chk ((leI 0 z5) && (ltI z5 (nI z2n))) (pS z2 fun n0 n1 =>
 rd H n0 (n1 + ((tN z5) * 1)) fun v2 =>
 dS v2 fun s3 =>
 cl page_Copy [(.agg [(.bool z0), (.bool z1), (.sl z2 z2n 1), (.sl z3 z3n 1), (.sl z4 z4n 1)])] H fun r4 H5 =>
 rA r4 fun c6 =>
 uC c6 fun v7 c8 =>
 dB v7 fun b9 =>
 uC c8 fun v10 c11 =>
 dB v10 fun b12 =>
 uC c11 fun v13 c14 =>
 dL 1 v13 fun x15 n16 =>
 uC c14 fun v17 c18 =>
 dL 1 v17 fun x19 n20 =>
 uC c18 fun v21 c22 =>
 dL 1 v21 fun x23 n24 =>
 uN c22 (rd H5 n0 (n1 + ((tN z5) * 1)) fun v25 =>
 dS v25 fun s26 =>
 eqv (.g (.str s3)) (.g (.str s26)) (cl page_Copy [(.agg [(.bool z0), (.bool z1), (.sl z2 z2n 1), (.sl z3 z3n 1), (.sl z4 z4n 1)])] H5 fun r27 H28 =>
 rA r27 fun c29 =>
 uC c29 fun v30 c31 =>
 dB v30 fun b32 =>
 uC c31 fun v33 c34 =>
 dB v33 fun b35 =>
 uC c34 fun v36 c37 =>
 dL 1 v36 fun x38 n39 =>
 uC c37 fun v40 c41 =>
 dL 1 v40 fun x42 n43 =>
 uC c41 fun v44 c45 =>
 dL 1 v44 fun x46 n47 =>
 uN c45 (rd H28 n0 (n1 + ((tN z5) * 1)) fun v48 =>
 dS v48 fun s49 =>
 eqv (.g (.str s3)) (.g (.str s49)) (chk true (chk (leI 0 z5) (chk ((leN 0 (tN z5)) && ((leN (tN z5) n16) || (room H28 x15 ((tN z5) * 1)))) (bite z1
 (chk true (chk (leI 0 z5) (chk ((leN 0 (tN z5)) && ((leN (tN z5) n20) || (room H28 x19 ((tN z5) * 1)))) (chk true (chk (leI 0 z5) (chk (leN (tN z5) n39) (chk true (chk (leI 0 z5) (chk (leN (tN z5) n43) (Q (.tup [(.a [(.bool b9), (.bool b12), (.sl (shf x15 0) ((tN z5) - 0) 1), (.sl (shf x19 0) ((tN z5) - 0) 1), (.sl x23 n24 1)]), (.s (.str s3)), (.a [(.bool b32), (.bool b35), (.sl (shf x38 ((tN z5) * 1)) (n39 - (tN z5)) 1), (.sl (shf x42 ((tN z5) * 1)) (n43 - (tN z5)) 1), (.sl x46 n47 1)])]) H28))))))))))
 (chk true (chk (leI 0 (wrapI .i64 (z5 + 1))) (chk ((leN 0 (tN (wrapI .i64 (z5 + 1)))) && ((leN (tN (wrapI .i64 (z5 + 1))) n24) || (room H28 x23 ((tN (wrapI .i64 (z5 + 1))) * 1)))) (chk true (chk (leI 0 (wrapI .i64 (z5 + 1))) (chk (leN (tN (wrapI .i64 (z5 + 1))) n39) (chk true (chk (leI 0 (wrapI .i64 (z5 + 1))) (chk (leN (tN (wrapI .i64 (z5 + 1))) n47) (Q (.tup [(.a [(.bool b9), (.bool b12), (.sl (shf x15 0) ((tN z5) - 0) 1), (.sl x19 n20 1), (.sl (shf x23 0) ((tN (wrapI .i64 (z5 + 1))) - 0) 1)]), (.s (.str s3)), (.a [(.bool b32), (.bool b35), (.sl (shf x38 ((tN (wrapI .i64 (z5 + 1))) * 1)) (n39 - (tN (wrapI .i64 (z5 + 1)))) 1), (.sl x42 n43 1), (.sl (shf x46 ((tN (wrapI .i64 (z5 + 1))) * 1)) (n47 - (tN (wrapI .i64 (z5 + 1)))) 1)])]) H28)))))))))))))))))))) := by kernel_rfl
theorem node_Cut_ok : Sound Go.Proofs.Try.prog 44 (node_Cut) := prog_ok.sound (cx := node_Cut.cx) rfl (EnvOK.cons ((page_Copy_ok).c ⟨_, Go.Proofs.Try.func58, by kernel_rfl, by kernel_rfl⟩) (EnvOK.nil _)) (noDyn_ok _) Go.Proofs.Try.func44 rfl

/-! 27: cryostat/node.Split -/
def node_Split.cx : Cx := ⟨tys, [], [], [(6, [1, 2, 4, 6])], [(39, page_Fits), (44, node_Cut)], noDyn, [.cell 2 25, .tmp 3, .cell 4 25, .tmp 5]⟩
def node_Split : Sm := fun xs H Q => ∃ k, callK (node_Split.cx) Go.Proofs.Try.f27 k xs H Q
def node_Split.l6 (k : Nat) (bx0 : Bool) (bx1 : Bool) (xx2 : Pl) (nx3 : Nat) (xx4 : Pl) (nx5 : Nat) (xx6 : Pl) (nx7 : Nat) (bx8 : Bool) (bx9 : Bool) (ax10 : Pl) (nx11 : Nat) (ax12 : Pl) (nx13 : Nat) (ax14 : Pl) (nx15 : Nat) (bx16 : Bool) (bx17 : Bool) (ax18 : Pl) (nx19 : Nat) (ax20 : Pl) (nx21 : Nat) (ax22 : Pl) (nx23 : Nat) (ix24 : Int) (H : Hp) (Q : Post) : Prop := loopK (node_Split.cx) Go.Proofs.Try.f27 6 k (.bad :: (.bx [(.bool bx0), (.bool bx1), (.sl xx2 nx3 1), (.sl xx4 nx5 1), (.sl xx6 nx7 1)]) :: (.bx [(.bool bx8), (.bool bx9), (.sl ax10 nx11 1), (.sl ax12 nx13 1), (.sl ax14 nx15 1)]) :: .bad :: (.bx [(.bool bx16), (.bool bx17), (.sl ax18 nx19 1), (.sl ax20 nx21 1), (.sl ax22 nx23 1)]) :: .bad :: (.g (.int .i64 ix24)) :: B 26 ([])) H Q
theorem node_Split_eq (k : Nat) (z0 : Bool) (z1 : Bool) (z2 : Pl) (z2n : Nat) (z3 : Pl) (z3n : Nat) (z4 : Pl) (z4n : Nat) (H : Hp) (Q : Post) : callK (node_Split.cx) Go.Proofs.Try.f27 (k + 1) [.agg [.bool z0, .bool z1, .sl z2 z2n 1, .sl z3 z3n 1, .sl z4 z4n 1]] H Q = (
 bite (!(eqI (nI z2n) 5))
 (Q (.tup [(.a [(.bool false), (.bool false), (.sl none 0 1), (.sl none 0 1), (.sl none 0 1)]), (.s (.str (mkS []))), (.a [(.bool false), (.bool false), (.sl none 0 1), (.sl none 0 1), (.sl none 0 1)]), (.s (.int .i64 900))]) H)
 (cl page_Fits [(.agg [(.bool z0), (.bool z1), (.sl z2 z2n 1), (.sl z3 z3n 1), (.sl z4 z4n 1)])] H fun r0 H1 =>
  rG r0 fun v2 =>
  dB v2 fun b3 =>
  bite (!b3)
  (Q (.tup [(.a [(.bool false), (.bool false), (.sl none 0 1), (.sl none 0 1), (.sl none 0 1)]), (.s (.str (mkS []))), (.a [(.bool false), (.bool false), (.sl none 0 1), (.sl none 0 1), (.sl none 0 1)]), (.s (.int .i64 900))]) H1)
  (bite z1
   (node_Split.l6 k z0 z1 z2 z2n z3 z3n z4 z4n false false none 0 none 0 none 0 false false none 0 none 0 none 0 3 H1 Q)
   (node_Split.l6 k z0 z1 z2 z2n z3 z3n z4 z4n false false none 0 none 0 none 0 false false none 0 none 0 none 0 2 H1 Q)))) := by kernel_rfl
theorem node_Split.l6_eq (k : Nat) (bx0 : Bool) (bx1 : Bool) (xx2 : Pl) (nx3 : Nat) (xx4 : Pl) (nx5 : Nat) (xx6 : Pl) (nx7 : Nat) (bx8 : Bool) (bx9 : Bool) (ax10 : Pl) (nx11 : Nat) (ax12 : Pl) (nx13 : Nat) (ax14 : Pl) (nx15 : Nat) (bx16 : Bool) (bx17 : Bool) (ax18 : Pl) (nx19 : Nat) (ax20 : Pl) (nx21 : Nat) (ax22 : Pl) (nx23 : Nat) (ix24 : Int) (H : Hp) (Q : Post) : node_Split.l6 (k + 1) bx0 bx1 xx2 nx3 xx4 nx5 xx6 nx7 bx8 bx9 ax10 nx11 ax12 nx13 ax14 nx15 bx16 bx17 ax18 nx19 ax20 nx21 ax22 nx23 ix24 H Q = (
 cl node_Cut [(.agg [(.bool bx0), (.bool bx1), (.sl xx2 nx3 1), (.sl xx4 nx5 1), (.sl xx6 nx7 1)]), (.g (.int .i64 ix24))] H fun r0 H1 =>
 rT r0 fun c2 =>
 uR c2 fun q3 c4 =>
 rC q3 fun c5 =>
 uC c5 fun v6 c7 =>
 dB v6 fun b8 =>
 uC c7 fun v9 c10 =>
 dB v9 fun b11 =>
 uC c10 fun v12 c13 =>
 dL 1 v12 fun x14 n15 =>
 uC c13 fun v16 c17 =>
 dL 1 v16 fun x18 n19 =>
 uC c17 fun v20 c21 =>
 dL 1 v20 fun x22 n23 =>
 uN c21 (uR c4 fun q24 c25 =>
 rS q24 fun v26 =>
 dS v26 fun s27 =>
 uR c25 fun q28 c29 =>
 rC q28 fun c30 =>
 uC c30 fun v31 c32 =>
 dB v31 fun b33 =>
 uC c32 fun v34 c35 =>
 dB v34 fun b36 =>
 uC c35 fun v37 c38 =>
 dL 1 v37 fun x39 n40 =>
 uC c38 fun v41 c42 =>
 dL 1 v41 fun x43 n44 =>
 uC c42 fun v45 c46 =>
 dL 1 v45 fun x47 n48 =>
 uN c46 (uE c29 (Q (.tup [(.a [(.bool b8), (.bool b11), (.sl x14 n15 1), (.sl x18 n19 1), (.sl x22 n23 1)]), (.s (.str s27)), (.a [(.bool b33), (.bool b36), (.sl x39 n40 1), (.sl x43 n44 1), (.sl x47 n48 1)]), (.s (.int .i64 0))]) H1)))) := by kernel_rfl
theorem node_Split_ok : Sound Go.Proofs.Try.prog 27 (node_Split) := prog_ok.sound (cx := node_Split.cx) rfl (EnvOK.cons ((page_Fits_ok).c ⟨_, Go.Proofs.Try.func39, by kernel_rfl, by kernel_rfl⟩) (EnvOK.cons ((node_Cut_ok).c ⟨_, Go.Proofs.Try.func44, by kernel_rfl, by kernel_rfl⟩) (EnvOK.nil _))) (noDyn_ok _) Go.Proofs.Try.func27 rfl

/-! 45: cryostat/cryostatref9.texts -/
def ref9_texts.cx : Cx := ⟨tys, [], [], [], [], noDyn, [.tmp 2]⟩
def ref9_texts : Sm := fun xs H Q => ∃ k, callK (ref9_texts.cx) Go.Proofs.Try.f45 k xs H Q
theorem ref9_texts_eq (k : Nat) (z0 : Pl) (z0n : Nat) (H : Hp) (Q : Post) : callK (ref9_texts.cx) Go.Proofs.Try.f45 (k + 1) [.g (.sl z0 z0n 1)] H Q = (
 chk true (rdN H z0 (z0n * 1) fun c0 =>
 ap0 H 9 1 16 c0 z0n fun H1 =>
 Q (.g (.sl (some ((ln H), 0)) z0n 1)) H1)) := by kernel_rfl
theorem ref9_texts_ok : Sound Go.Proofs.Try.prog 45 (ref9_texts) := prog_ok.sound (cx := ref9_texts.cx) rfl (EnvOK.nil _) (noDyn_ok _) Go.Proofs.Try.func45 rfl

/-! 46: cryostat/cryostatref9.ints -/
def ref9_ints.cx : Cx := ⟨tys, [], [], [], [], noDyn, [.tmp 2]⟩
def ref9_ints : Sm := fun xs H Q => ∃ k, callK (ref9_ints.cx) Go.Proofs.Try.f46 k xs H Q
theorem ref9_ints_eq (k : Nat) (z0 : Pl) (z0n : Nat) (H : Hp) (Q : Post) : callK (ref9_ints.cx) Go.Proofs.Try.f46 (k + 1) [.g (.sl z0 z0n 1)] H Q = (
 chk true (rdN H z0 (z0n * 1) fun c0 =>
 ap0 H 3 1 8 c0 z0n fun H1 =>
 Q (.g (.sl (some ((ln H), 0)) z0n 1)) H1)) := by kernel_rfl
theorem ref9_ints_ok : Sound Go.Proofs.Try.prog 46 (ref9_ints) := prog_ok.sound (cx := ref9_ints.cx) rfl (EnvOK.nil _) (noDyn_ok _) Go.Proofs.Try.func46 rfl

/-! 28: cryostat/cryostatref9.Split -/
def ref9_Split.cx : Cx := ⟨tys, [], [], [], [(40, ref1_PageWith), (45, ref9_texts), (46, ref9_ints)], noDyn, [.cell 2 25, .tmp 3, .cell 4 25, .tmp 5]⟩
def ref9_Split : Sm := fun xs H Q => ∃ k, callK (ref9_Split.cx) Go.Proofs.Try.f28 k xs H Q
theorem ref9_Split_eq (k : Nat) (z0 : Bool) (z1 : Bool) (z2 : Pl) (z2n : Nat) (z3 : Pl) (z3n : Nat) (z4 : Pl) (z4n : Nat) (H : Hp) (Q : Post) : callK (ref9_Split.cx) Go.Proofs.Try.f28 (k + 1) [.agg [.bool z0, .bool z1, .sl z2 z2n 1, .sl z3 z3n 1, .sl z4 z4n 1]] H Q = (
 bite (!(eqI (nI z2n) 5))
 (Q (.tup [(.a [(.bool false), (.bool false), (.sl none 0 1), (.sl none 0 1), (.sl none 0 1)]), (.s (.str (mkS []))), (.a [(.bool false), (.bool false), (.sl none 0 1), (.sl none 0 1), (.sl none 0 1)]), (.s (.int .i64 900))]) H)
 (cl ref1_PageWith [(.agg [(.bool z0), (.bool z1), (.sl z2 z2n 1), (.sl z3 z3n 1), (.sl z4 z4n 1)]), (.g (.int .i64 5))] H fun r0 H1 =>
  rG r0 fun v2 =>
  dB v2 fun b3 =>
  bite (!b3)
  (Q (.tup [(.a [(.bool false), (.bool false), (.sl none 0 1), (.sl none 0 1), (.sl none 0 1)]), (.s (.str (mkS []))), (.a [(.bool false), (.bool false), (.sl none 0 1), (.sl none 0 1), (.sl none 0 1)]), (.s (.int .i64 900))]) H1)
  (chk true (chk (leN (tN 3) z2n) (cl ref9_texts [(.g (.sl (shf z2 ((tN 3) * 1)) (z2n - (tN 3)) 1))] H1 fun r4 H5 =>
   rG r4 fun v6 =>
   dL 1 v6 fun x7 n8 =>
   bite z1
   (chk true (chk ((leN 0 (tN 3)) && ((leN (tN 3) z2n) || (room H5 z2 ((tN 3) * 1)))) (cl ref9_texts [(.g (.sl (shf z2 0) ((tN 3) - 0) 1))] H5 fun r9 H10 =>
    rG r9 fun v11 =>
    dL 1 v11 fun x12 n13 =>
    chk true (chk ((leN 0 (tN 3)) && ((leN (tN 3) z3n) || (room H10 z3 ((tN 3) * 1)))) (cl ref9_texts [(.g (.sl (shf z3 0) ((tN 3) - 0) 1))] H10 fun r14 H15 =>
    rG r14 fun v16 =>
    dL 1 v16 fun x17 n18 =>
    chk true (chk (leN (tN 3) z3n) (cl ref9_texts [(.g (.sl (shf z3 ((tN 3) * 1)) (z3n - (tN 3)) 1))] H15 fun r19 H20 =>
    rG r19 fun v21 =>
    dL 1 v21 fun x22 n23 =>
    chk true (chk ((leI 0 3) && (ltI 3 (nI z2n))) (pS z2 fun n24 n25 =>
    rd H20 n24 (n25 + ((tN 3) * 1)) fun v26 =>
    dS v26 fun s27 =>
    Q (.tup [(.a [(.bool true), (.bool z1), (.sl x12 n13 1), (.sl x17 n18 1), (.sl none 0 1)]), (.s (.str s27)), (.a [(.bool true), (.bool z1), (.sl x7 n8 1), (.sl x22 n23 1), (.sl none 0 1)]), (.s (.int .i64 0))]) H20)))))))))
   (chk true (chk ((leN 0 (tN 2)) && ((leN (tN 2) z2n) || (room H5 z2 ((tN 2) * 1)))) (cl ref9_texts [(.g (.sl (shf z2 0) ((tN 2) - 0) 1))] H5 fun r28 H29 =>
    rG r28 fun v30 =>
    dL 1 v30 fun x31 n32 =>
    chk true (chk ((leN 0 (tN 3)) && ((leN (tN 3) z4n) || (room H29 z4 ((tN 3) * 1)))) (cl ref9_ints [(.g (.sl (shf z4 0) ((tN 3) - 0) 1))] H29 fun r33 H34 =>
    rG r33 fun v35 =>
    dL 1 v35 fun x36 n37 =>
    chk true (chk (leN (tN 3) z4n) (cl ref9_ints [(.g (.sl (shf z4 ((tN 3) * 1)) (z4n - (tN 3)) 1))] H34 fun r38 H39 =>
    rG r38 fun v40 =>
    dL 1 v40 fun x41 n42 =>
    chk true (chk ((leI 0 2) && (ltI 2 (nI z2n))) (pS z2 fun n43 n44 =>
    rd H39 n43 (n44 + ((tN 2) * 1)) fun v45 =>
    dS v45 fun s46 =>
    Q (.tup [(.a [(.bool true), (.bool z1), (.sl x31 n32 1), (.sl none 0 1), (.sl x36 n37 1)]), (.s (.str s46)), (.a [(.bool true), (.bool z1), (.sl x7 n8 1), (.sl none 0 1), (.sl x41 n42 1)]), (.s (.int .i64 0))]) H39)))))))))))))) := by kernel_rfl
theorem ref9_Split_ok : Sound Go.Proofs.Try.prog 28 (ref9_Split) := prog_ok.sound (cx := ref9_Split.cx) rfl (EnvOK.cons ((ref1_PageWith_ok).c ⟨_, Go.Proofs.Try.func40, by kernel_rfl, by kernel_rfl⟩) (EnvOK.cons ((ref9_texts_ok).c ⟨_, Go.Proofs.Try.func45, by kernel_rfl, by kernel_rfl⟩) (EnvOK.cons ((ref9_ints_ok).c ⟨_, Go.Proofs.Try.func46, by kernel_rfl, by kernel_rfl⟩) (EnvOK.nil _)))) (noDyn_ok _) Go.Proofs.Try.func28 rfl

/-! 47: cryostat/node.Both -/
def node_Both.cx : Cx := ⟨tys, [], [], [(4, [5, 6, 7])], [(58, page_Copy)], noDyn, [.cell 6 25]⟩
def node_Both : Sm := fun xs H Q => ∃ k, callK (node_Both.cx) Go.Proofs.Try.f47 k xs H Q
def node_Both.l4 (k : Nat) (bx0 : Bool) (bx1 : Bool) (xx2 : Pl) (nx3 : Nat) (xx4 : Pl) (nx5 : Nat) (xx6 : Pl) (nx7 : Nat) (bx8 : Bool) (bx9 : Bool) (ax10 : Pl) (nx11 : Nat) (ax12 : Pl) (nx13 : Nat) (ax14 : Pl) (nx15 : Nat) (bx16 : Bool) (bx17 : Bool) (xx18 : Pl) (nx19 : Nat) (xx20 : Pl) (nx21 : Nat) (xx22 : Pl) (nx23 : Nat) (H : Hp) (Q : Post) : Prop := loopK (node_Both.cx) Go.Proofs.Try.f47 4 k (B 5 ((.bx [(.bool bx0), (.bool bx1), (.sl xx2 nx3 1), (.sl xx4 nx5 1), (.sl xx6 nx7 1)]) :: (.bx [(.bool bx8), (.bool bx9), (.sl ax10 nx11 1), (.sl ax12 nx13 1), (.sl ax14 nx15 1)]) :: (.bx [(.bool bx16), (.bool bx17), (.sl xx18 nx19 1), (.sl xx20 nx21 1), (.sl xx22 nx23 1)]) :: B 30 ([]))) H Q
theorem node_Both_eq (k : Nat) (z0 : Bool) (z1 : Bool) (z2 : Pl) (z2n : Nat) (z3 : Pl) (z3n : Nat) (z4 : Pl) (z4n : Nat) (z5 : ByteArray) (z6 : Bool) (z7 : Bool) (z8 : Pl) (z8n : Nat) (z9 : Pl) (z9n : Nat) (z10 : Pl) (z10n : Nat) (H : Hp) (Q : Post) : callK (node_Both.cx) Go.Proofs.Try.f47 (k + 1) [.agg [.bool z0, .bool z1, .sl z2 z2n 1, .sl z3 z3n 1, .sl z4 z4n 1], .g (.str z5), .agg [.bool z6, .bool z7, .sl z8 z8n 1, .sl z9 z9n 1, .sl z10 z10n 1]] H Q = (
 cl page_Copy [(.agg [(.bool z0), (.bool z1), (.sl z2 z2n 1), (.sl z3 z3n 1), (.sl z4 z4n 1)])] H fun r0 H1 =>
 rA r0 fun c2 =>
 uC c2 fun v3 c4 =>
 dB v3 fun b5 =>
 uC c4 fun v6 c7 =>
 dB v6 fun b8 =>
 uC c7 fun v9 c10 =>
 dL 1 v9 fun x11 n12 =>
 uC c10 fun v13 c14 =>
 dL 1 v13 fun x15 n16 =>
 uC c14 fun v17 c18 =>
 dL 1 v17 fun x19 n20 =>
 uN c18 (bite (!z1)
 (chk true (ap H1 9 1 16 x11 n12 [(.str z5)] 1 fun x21 n22 H23 =>
  node_Both.l4 k z6 z7 z8 z8n z9 z9n z10 z10n false false none 0 none 0 none 0 b5 b8 x21 n22 x15 n16 x19 n20 H23 Q))
 (node_Both.l4 k z6 z7 z8 z8n z9 z9n z10 z10n false false none 0 none 0 none 0 b5 b8 x11 n12 x15 n16 x19 n20 H1 Q))) := by kernel_rfl
theorem node_Both.l4_eq (k : Nat) (bx0 : Bool) (bx1 : Bool) (xx2 : Pl) (nx3 : Nat) (xx4 : Pl) (nx5 : Nat) (xx6 : Pl) (nx7 : Nat) (bx8 : Bool) (bx9 : Bool) (ax10 : Pl) (nx11 : Nat) (ax12 : Pl) (nx13 : Nat) (ax14 : Pl) (nx15 : Nat) (bx16 : Bool) (bx17 : Bool) (xx18 : Pl) (nx19 : Nat) (xx20 : Pl) (nx21 : Nat) (xx22 : Pl) (nx23 : Nat) (H : Hp) (Q : Post) : node_Both.l4 (k + 1) bx0 bx1 xx2 nx3 xx4 nx5 xx6 nx7 bx8 bx9 ax10 nx11 ax12 nx13 ax14 nx15 bx16 bx17 xx18 nx19 xx20 nx21 xx22 nx23 H Q = (
 chk true (rdN H xx2 (nx3 * 1) fun c0 =>
 chk true (ap H 9 1 16 xx18 nx19 c0 nx3 fun x1 n2 H3 =>
 chk true (rdN H3 xx4 (nx5 * 1) fun c4 =>
 chk true (ap H3 9 1 16 xx20 nx21 c4 nx5 fun x5 n6 H7 =>
 chk true (rdN H7 xx6 (nx7 * 1) fun c8 =>
 chk true (ap H7 3 1 8 xx22 nx23 c8 nx7 fun x9 n10 H11 =>
 Q (.agg [(.bool bx16), (.bool bx17), (.sl x1 n2 1), (.sl x5 n6 1), (.sl x9 n10 1)]) H11))))))) := by kernel_rfl
theorem node_Both_ok : Sound Go.Proofs.Try.prog 47 (node_Both) := prog_ok.sound (cx := node_Both.cx) rfl (EnvOK.cons ((page_Copy_ok).c ⟨_, Go.Proofs.Try.func58, by kernel_rfl, by kernel_rfl⟩) (EnvOK.nil _)) (noDyn_ok _) Go.Proofs.Try.func47 rfl

/-! 48: slices.Clip[[]string,string] -/
def slices_Clip__string_string.cx : Cx := ⟨tys, [], [], [], [], noDyn, [.tmp 2]⟩
def slices_Clip__string_string : Sm := fun xs H Q => ∃ k, callK (slices_Clip__string_string.cx) Go.Proofs.Try.f48 k xs H Q
theorem slices_Clip__string_string_eq (k : Nat) (z0 : Pl) (z0n : Nat) (H : Hp) (Q : Post) : callK (slices_Clip__string_string.cx) Go.Proofs.Try.f48 (k + 1) [.g (.sl z0 z0n 1)] H Q = (
 chk true (chk (leI 0 (nI z0n)) (chk (leI 0 (nI z0n)) (chk ((leN 0 (tN (nI z0n))) && ((leN (tN (nI z0n)) (tN (nI z0n))) && ((leN (tN (nI z0n)) z0n) && (ends H z0 ((tN (nI z0n)) * 1))))) (Q (.g (.sl (shf z0 0) ((tN (nI z0n)) - 0) 1)) H))))) := by kernel_rfl
theorem slices_Clip__string_string_ok : Sound Go.Proofs.Try.prog 48 (slices_Clip__string_string) := prog_ok.sound (cx := slices_Clip__string_string.cx) rfl (EnvOK.nil _) (noDyn_ok _) Go.Proofs.Try.func48 rfl

/-! 49: slices.Clip[[]int,int] -/
def slices_Clip__int_int.cx : Cx := ⟨tys, [], [], [], [], noDyn, [.tmp 2]⟩
def slices_Clip__int_int : Sm := fun xs H Q => ∃ k, callK (slices_Clip__int_int.cx) Go.Proofs.Try.f49 k xs H Q
theorem slices_Clip__int_int_eq (k : Nat) (z0 : Pl) (z0n : Nat) (H : Hp) (Q : Post) : callK (slices_Clip__int_int.cx) Go.Proofs.Try.f49 (k + 1) [.g (.sl z0 z0n 1)] H Q = (
 chk true (chk (leI 0 (nI z0n)) (chk (leI 0 (nI z0n)) (chk ((leN 0 (tN (nI z0n))) && ((leN (tN (nI z0n)) (tN (nI z0n))) && ((leN (tN (nI z0n)) z0n) && (ends H z0 ((tN (nI z0n)) * 1))))) (Q (.g (.sl (shf z0 0) ((tN (nI z0n)) - 0) 1)) H))))) := by kernel_rfl
theorem slices_Clip__int_int_ok : Sound Go.Proofs.Try.prog 49 (slices_Clip__int_int) := prog_ok.sound (cx := slices_Clip__int_int.cx) rfl (EnvOK.nil _) (noDyn_ok _) Go.Proofs.Try.func49 rfl

/-! 29: cryostat/node.Join -/
def node_Join.cx : Cx := ⟨tys, [], [], [], [(20, page_May), (47, node_Both), (48, slices_Clip__string_string), (49, slices_Clip__int_int)], noDyn, [.cell 6 25, .tmp 7]⟩
def node_Join : Sm := fun xs H Q => ∃ k, callK (node_Join.cx) Go.Proofs.Try.f29 k xs H Q
theorem node_Join_eq (k : Nat) (z0 : Bool) (z1 : Bool) (z2 : Pl) (z2n : Nat) (z3 : Pl) (z3n : Nat) (z4 : Pl) (z4n : Nat) (z5 : ByteArray) (z6 : Bool) (z7 : Bool) (z8 : Pl) (z8n : Nat) (z9 : Pl) (z9n : Nat) (z10 : Pl) (z10n : Nat) (H : Hp) (Q : Post) : callK (node_Join.cx) Go.Proofs.Try.f29 (k + 1) [.agg [.bool z0, .bool z1, .sl z2 z2n 1, .sl z3 z3n 1, .sl z4 z4n 1], .g (.str z5), .agg [.bool z6, .bool z7, .sl z8 z8n 1, .sl z9 z9n 1, .sl z10 z10n 1]] H Q = (
 cl page_May [(.agg [(.bool z0), (.bool z1), (.sl z2 z2n 1), (.sl z3 z3n 1), (.sl z4 z4n 1)])] H fun r0 H1 =>
 rG r0 fun v2 =>
 dB v2 fun b3 =>
 bite (!b3)
 (Q (.tup [(.a [(.bool false), (.bool false), (.sl none 0 1), (.sl none 0 1), (.sl none 0 1)]), (.s (.int .i64 900))]) H1)
 (cl page_May [(.agg [(.bool z6), (.bool z7), (.sl z8 z8n 1), (.sl z9 z9n 1), (.sl z10 z10n 1)])] H1 fun r4 H5 =>
  rG r4 fun v6 =>
  dB v6 fun b7 =>
  bite (!b7)
  (Q (.tup [(.a [(.bool false), (.bool false), (.sl none 0 1), (.sl none 0 1), (.sl none 0 1)]), (.s (.int .i64 900))]) H5)
  (bite (!(eqB z1 z7))
   (Q (.tup [(.a [(.bool false), (.bool false), (.sl none 0 1), (.sl none 0 1), (.sl none 0 1)]), (.s (.int .i64 900))]) H5)
   (cl node_Both [(.agg [(.bool z0), (.bool z1), (.sl z2 z2n 1), (.sl z3 z3n 1), (.sl z4 z4n 1)]), (.g (.str z5)), (.agg [(.bool z6), (.bool z7), (.sl z8 z8n 1), (.sl z9 z9n 1), (.sl z10 z10n 1)])] H5 fun r8 H9 =>
    rA r8 fun c10 =>
    uC c10 fun v11 c12 =>
    dB v11 fun b13 =>
    uC c12 fun v14 c15 =>
    dB v14 fun b16 =>
    uC c15 fun v17 c18 =>
    dL 1 v17 fun x19 n20 =>
    uC c18 fun v21 c22 =>
    dL 1 v21 fun x23 n24 =>
    uC c22 fun v25 c26 =>
    dL 1 v25 fun x27 n28 =>
    uN c26 (cl page_May [(.agg [(.bool b13), (.bool b16), (.sl x19 n20 1), (.sl x23 n24 1), (.sl x27 n28 1)])] H9 fun r29 H30 =>
    rG r29 fun v31 =>
    dB v31 fun b32 =>
    bite (!b32)
    (Q (.tup [(.a [(.bool false), (.bool false), (.sl none 0 1), (.sl none 0 1), (.sl none 0 1)]), (.s (.int .i64 900))]) H30)
    (cl slices_Clip__string_string [(.g (.sl x19 n20 1))] H30 fun r33 H34 =>
     rG r33 fun v35 =>
     dL 1 v35 fun x36 n37 =>
     cl slices_Clip__string_string [(.g (.sl x23 n24 1))] H34 fun r38 H39 =>
     rG r38 fun v40 =>
     dL 1 v40 fun x41 n42 =>
     cl slices_Clip__int_int [(.g (.sl x27 n28 1))] H39 fun r43 H44 =>
     rG r43 fun v45 =>
     dL 1 v45 fun x46 n47 =>
     Q (.tup [(.a [(.bool b13), (.bool b16), (.sl x36 n37 1), (.sl x41 n42 1), (.sl x46 n47 1)]), (.s (.int .i64 0))]) H44)))))) := by kernel_rfl
theorem node_Join_ok : Sound Go.Proofs.Try.prog 29 (node_Join) := prog_ok.sound (cx := node_Join.cx) rfl (EnvOK.cons ((page_May_ok).c ⟨_, Go.Proofs.Try.func20, by kernel_rfl, by kernel_rfl⟩) (EnvOK.cons ((node_Both_ok).c ⟨_, Go.Proofs.Try.func47, by kernel_rfl, by kernel_rfl⟩) (EnvOK.cons ((slices_Clip__string_string_ok).c ⟨_, Go.Proofs.Try.func48, by kernel_rfl, by kernel_rfl⟩) (EnvOK.cons ((slices_Clip__int_int_ok).c ⟨_, Go.Proofs.Try.func49, by kernel_rfl, by kernel_rfl⟩) (EnvOK.nil _))))) (noDyn_ok _) Go.Proofs.Try.func29 rfl

/-! 30: cryostat/cryostatref9.Join -/
def ref9_Join.cx : Cx := ⟨tys, [], [], [(6, [3, 5, 6, 8])], [(21, ref1_PageMay), (45, ref9_texts), (46, ref9_ints)], noDyn, [.cell 6 25, .tmp 7]⟩
def ref9_Join : Sm := fun xs H Q => ∃ k, callK (ref9_Join.cx) Go.Proofs.Try.f30 k xs H Q
def ref9_Join.l6 (k : Nat) (bx0 : Bool) (bx1 : Bool) (xx2 : Pl) (nx3 : Nat) (xx4 : Pl) (nx5 : Nat) (xx6 : Pl) (nx7 : Nat) (bx8 : Bool) (bx9 : Bool) (xx10 : Pl) (nx11 : Nat) (xx12 : Pl) (nx13 : Nat) (xx14 : Pl) (nx15 : Nat) (bx16 : Bool) (bx17 : Bool) (ax18 : Pl) (nx19 : Nat) (ax20 : Pl) (nx21 : Nat) (ax22 : Pl) (nx23 : Nat) (bx24 : Bool) (bx25 : Bool) (xx26 : Pl) (nx27 : Nat) (ax28 : Pl) (nx29 : Nat) (ax30 : Pl) (nx31 : Nat) (H : Hp) (Q : Post) : Prop := loopK (ref9_Join.cx) Go.Proofs.Try.f30 6 k (B 3 ((.bx [(.bool bx0), (.bool bx1), (.sl xx2 nx3 1), (.sl xx4 nx5 1), (.sl xx6 nx7 1)]) :: .bad :: (.bx [(.bool bx8), (.bool bx9), (.sl xx10 nx11 1), (.sl xx12 nx13 1), (.sl xx14 nx15 1)]) :: (.bx [(.bool bx16), (.bool bx17), (.sl ax18 nx19 1), (.sl ax20 nx21 1), (.sl ax22 nx23 1)]) :: .bad :: (.bx [(.bool bx24), (.bool bx25), (.sl xx26 nx27 1), (.sl ax28 nx29 1), (.sl ax30 nx31 1)]) :: B 56 ([]))) H Q
theorem ref9_Join_eq (k : Nat) (z0 : Bool) (z1 : Bool) (z2 : Pl) (z2n : Nat) (z3 : Pl) (z3n : Nat) (z4 : Pl) (z4n : Nat) (z5 : ByteArray) (z6 : Bool) (z7 : Bool) (z8 : Pl) (z8n : Nat) (z9 : Pl) (z9n : Nat) (z10 : Pl) (z10n : Nat) (H : Hp) (Q : Post) : callK (ref9_Join.cx) Go.Proofs.Try.f30 (k + 1) [.agg [.bool z0, .bool z1, .sl z2 z2n 1, .sl z3 z3n 1, .sl z4 z4n 1], .g (.str z5), .agg [.bool z6, .bool z7, .sl z8 z8n 1, .sl z9 z9n 1, .sl z10 z10n 1]] H Q = (
 cl ref1_PageMay [(.agg [(.bool z0), (.bool z1), (.sl z2 z2n 1), (.sl z3 z3n 1), (.sl z4 z4n 1)])] H fun r0 H1 =>
 rG r0 fun v2 =>
 dB v2 fun b3 =>
 bite (!b3)
 (Q (.tup [(.a [(.bool false), (.bool false), (.sl none 0 1), (.sl none 0 1), (.sl none 0 1)]), (.s (.int .i64 900))]) H1)
 (cl ref1_PageMay [(.agg [(.bool z6), (.bool z7), (.sl z8 z8n 1), (.sl z9 z9n 1), (.sl z10 z10n 1)])] H1 fun r4 H5 =>
  rG r4 fun v6 =>
  dB v6 fun b7 =>
  bite (!b7)
  (Q (.tup [(.a [(.bool false), (.bool false), (.sl none 0 1), (.sl none 0 1), (.sl none 0 1)]), (.s (.int .i64 900))]) H5)
  (bite (!(eqB z1 z7))
   (Q (.tup [(.a [(.bool false), (.bool false), (.sl none 0 1), (.sl none 0 1), (.sl none 0 1)]), (.s (.int .i64 900))]) H5)
   (cl ref9_texts [(.g (.sl z2 z2n 1))] H5 fun r8 H9 =>
    rG r8 fun v10 =>
    dL 1 v10 fun x11 n12 =>
    bite (!z1)
    (chk true (ap H9 9 1 16 x11 n12 [(.str z5)] 1 fun x13 n14 H15 =>
     ref9_Join.l6 k z0 z1 z2 z2n z3 z3n z4 z4n z6 z7 z8 z8n z9 z9n z10 z10n false false none 0 none 0 none 0 true z1 x13 n14 none 0 none 0 H15 Q))
    (ref9_Join.l6 k z0 z1 z2 z2n z3 z3n z4 z4n z6 z7 z8 z8n z9 z9n z10 z10n false false none 0 none 0 none 0 true z1 x11 n12 none 0 none 0 H9 Q))))) := by kernel_rfl
theorem ref9_Join.l6_eq (k : Nat) (bx0 : Bool) (bx1 : Bool) (xx2 : Pl) (nx3 : Nat) (xx4 : Pl) (nx5 : Nat) (xx6 : Pl) (nx7 : Nat) (bx8 : Bool) (bx9 : Bool) (xx10 : Pl) (nx11 : Nat) (xx12 : Pl) (nx13 : Nat) (xx14 : Pl) (nx15 : Nat) (bx16 : Bool) (bx17 : Bool) (ax18 : Pl) (nx19 : Nat) (ax20 : Pl) (nx21 : Nat) (ax22 : Pl) (nx23 : Nat) (bx24 : Bool) (bx25 : Bool) (xx26 : Pl) (nx27 : Nat) (ax28 : Pl) (nx29 : Nat) (ax30 : Pl) (nx31 : Nat) (H : Hp) (Q : Post) : ref9_Join.l6 (k + 1) bx0 bx1 xx2 nx3 xx4 nx5 xx6 nx7 bx8 bx9 xx10 nx11 xx12 nx13 xx14 nx15 bx16 bx17 ax18 nx19 ax20 nx21 ax22 nx23 bx24 bx25 xx26 nx27 ax28 nx29 ax30 nx31 H Q = (
 chk true (rdN H xx10 (nx11 * 1) fun c0 =>
 chk true (ap H 9 1 16 xx26 nx27 c0 nx11 fun x1 n2 H3 =>
 cl ref9_texts [(.g (.sl xx4 nx5 1))] H3 fun r4 H5 =>
 rG r4 fun v6 =>
 dL 1 v6 fun x7 n8 =>
 chk true (rdN H5 xx12 (nx13 * 1) fun c9 =>
 chk true (ap H5 9 1 16 x7 n8 c9 nx13 fun x10 n11 H12 =>
 cl ref9_ints [(.g (.sl xx6 nx7 1))] H12 fun r13 H14 =>
 rG r13 fun v15 =>
 dL 1 v15 fun x16 n17 =>
 chk true (rdN H14 xx14 (nx15 * 1) fun c18 =>
 chk true (ap H14 3 1 8 x16 n17 c18 nx15 fun x19 n20 H21 =>
 cl ref1_PageMay [(.agg [(.bool bx24), (.bool bx25), (.sl x1 n2 1), (.sl x10 n11 1), (.sl x19 n20 1)])] H21 fun r22 H23 =>
 rG r22 fun v24 =>
 dB v24 fun b25 =>
 bite (!b25)
 (Q (.tup [(.a [(.bool false), (.bool false), (.sl none 0 1), (.sl none 0 1), (.sl none 0 1)]), (.s (.int .i64 900))]) H23)
 (Q (.tup [(.a [(.bool bx24), (.bool bx25), (.sl x1 n2 1), (.sl x10 n11 1), (.sl x19 n20 1)]), (.s (.int .i64 0))]) H23)))))))) := by kernel_rfl
theorem ref9_Join_ok : Sound Go.Proofs.Try.prog 30 (ref9_Join) := prog_ok.sound (cx := ref9_Join.cx) rfl (EnvOK.cons ((ref1_PageMay_ok).c ⟨_, Go.Proofs.Try.func21, by kernel_rfl, by kernel_rfl⟩) (EnvOK.cons ((ref9_texts_ok).c ⟨_, Go.Proofs.Try.func45, by kernel_rfl, by kernel_rfl⟩) (EnvOK.cons ((ref9_ints_ok).c ⟨_, Go.Proofs.Try.func46, by kernel_rfl, by kernel_rfl⟩) (EnvOK.nil _)))) (noDyn_ok _) Go.Proofs.Try.func30 rfl

/-! 31: cryostat/cryostatlaw0.KeptTexts -/
def law0_KeptTexts.cx : Cx := ⟨tys, [], [], [], [(33, law0_SameTexts)], noDyn, [.tmp 4]⟩
def law0_KeptTexts : Sm := fun xs H Q => ∃ k, callK (law0_KeptTexts.cx) Go.Proofs.Try.f31 k xs H Q
theorem law0_KeptTexts_eq (k : Nat) (z0 : Pl) (z0n : Nat) (z1 : Pl) (z1n : Nat) (H : Hp) (Q : Post) : callK (law0_KeptTexts.cx) Go.Proofs.Try.f31 (k + 1) [.g (.sl z0 z0n 1), .g (.sl z1 z1n 1)] H Q = (
 chk true (chk (leI 0 (wrapI .i64 ((nI z0n) + 2))) (chk ((leN 0 (tN (wrapI .i64 ((nI z0n) + 2)))) && ((leN (tN (wrapI .i64 ((nI z0n) + 2))) z0n) || (room H z0 ((tN (wrapI .i64 ((nI z0n) + 2))) * 1)))) (cl law0_SameTexts [(.g (.sl z0 z0n 1)), (.g (.sl z1 z1n 1))] H fun r0 H1 =>
 rG r0 fun v2 =>
 dB v2 fun b3 =>
 bite b3
 (chk true (chk ((leI 0 (nI z1n)) && (ltI (nI z1n) (nI ((tN (wrapI .i64 ((nI z0n) + 2))) - 0)))) (pS (shf z0 0) fun n4 n5 =>
  rd H1 n4 (n5 + ((tN (nI z1n)) * 1)) fun v6 =>
  dS v6 fun s7 =>
  bite (strEq s7 (mkS [126, 114, 111, 111, 109]))
  (chk true (chk ((leI 0 (wrapI .i64 ((nI z1n) + 1))) && (ltI (wrapI .i64 ((nI z1n) + 1)) (nI ((tN (wrapI .i64 ((nI z0n) + 2))) - 0)))) (pS (shf z0 0) fun n8 n9 =>
   rd H1 n8 (n9 + ((tN (wrapI .i64 ((nI z1n) + 1))) * 1)) fun v10 =>
   dS v10 fun s11 =>
   Q (.g (.bool (strEq s11 (mkS [126, 98, 101, 104, 105, 110, 100])))) H1)))
  (Q (.g (.bool false)) H1))))
 (Q (.g (.bool false)) H1))))) := by kernel_rfl
theorem law0_KeptTexts_ok : Sound Go.Proofs.Try.prog 31 (law0_KeptTexts) := prog_ok.sound (cx := law0_KeptTexts.cx) rfl (EnvOK.cons ((law0_SameTexts_ok).c ⟨_, Go.Proofs.Try.func33, by kernel_rfl, by kernel_rfl⟩) (EnvOK.nil _)) (noDyn_ok _) Go.Proofs.Try.func31 rfl

/-! 32: cryostat/cryostatlaw9.awake -/
def law9_awake.cx : Cx := ⟨tys, [28, 29], [], [], [(25, node_Slot), (27, node_Split), (29, node_Join), (18, law0_Num), (19, law0_SamePage)], noDyn, [.tmp 0]⟩
def law9_awake : Sm := fun xs H Q => ∃ k, callK (law9_awake.cx) Go.Proofs.Try.f32 k xs H Q
theorem law9_awake_eq (k : Nat)  (H : Hp) (Q : Post) : callK (law9_awake.cx) Go.Proofs.Try.f32 (k + 1) [] H Q = (
 cl node_Slot [(.g (.sl (some ((ln H), 0)) 2 1)), (.g (.str (mkS [98])))] (pu H (.row false 0 [(.str (mkS [97])), (.str (mkS [99]))])) fun r0 H1 =>
 rT r0 fun c2 =>
 uR c2 fun q3 c4 =>
 rS q3 fun v5 =>
 dI .i64 v5 fun i6 =>
 uR c4 fun q7 c8 =>
 rS q7 fun v9 =>
 dB v9 fun b10 =>
 uE c8 (cl node_Slot [(.g (.sl (some ((ln H1), 0)) 2 1)), (.g (.str (mkS [99])))] (pu H1 (.row false 0 [(.str (mkS [97])), (.str (mkS [99]))])) fun r11 H12 =>
 rT r11 fun c13 =>
 uR c13 fun q14 c15 =>
 rS q14 fun v16 =>
 dI .i64 v16 fun i17 =>
 uR c15 fun q18 c19 =>
 rS q18 fun v20 =>
 dB v20 fun b21 =>
 uE c19 (cl node_Split [(.agg [(.bool true), (.bool true), (.sl (some ((ln H12), 0)) 5 1), (.sl (some ((ln (pu H12 (.row true 9 [(.str (mkS [97])), (.str (mkS [98])), (.str (mkS [99])), (.str (mkS [100])), (.str (mkS [101]))]))), 0)) 5 1), (.sl none 0 1)])] (pu (pu H12 (.row true 9 [(.str (mkS [97])), (.str (mkS [98])), (.str (mkS [99])), (.str (mkS [100])), (.str (mkS [101]))])) (.row true 9 [(.str (mkS [49])), (.str (mkS [50])), (.str (mkS [51])), (.str (mkS [52])), (.str (mkS [53]))])) fun r22 H23 =>
 rT r22 fun c24 =>
 uR c24 fun q25 c26 =>
 rC q25 fun c27 =>
 uC c27 fun v28 c29 =>
 dB v28 fun b30 =>
 uC c29 fun v31 c32 =>
 dB v31 fun b33 =>
 uC c32 fun v34 c35 =>
 dL 1 v34 fun x36 n37 =>
 uC c35 fun v38 c39 =>
 dL 1 v38 fun x40 n41 =>
 uC c39 fun v42 c43 =>
 dL 1 v42 fun x44 n45 =>
 uN c43 (uR c26 fun q46 c47 =>
 rS q46 fun v48 =>
 dS v48 fun s49 =>
 uR c47 fun q50 c51 =>
 rC q50 fun c52 =>
 uC c52 fun v53 c54 =>
 dB v53 fun b55 =>
 uC c54 fun v56 c57 =>
 dB v56 fun b58 =>
 uC c57 fun v59 c60 =>
 dL 1 v59 fun x61 n62 =>
 uC c60 fun v63 c64 =>
 dL 1 v63 fun x65 n66 =>
 uC c64 fun v67 c68 =>
 dL 1 v67 fun x69 n70 =>
 uN c68 (uR c51 fun q71 c72 =>
 rS q71 fun v73 =>
 dI .i64 v73 fun i74 =>
 uE c72 (cl node_Join [(.agg [(.bool true), (.bool true), (.sl none 0 1), (.sl none 0 1), (.sl none 0 1)]), (.g (.str (mkS []))), (.agg [(.bool b55), (.bool b58), (.sl x61 n62 1), (.sl x65 n66 1), (.sl x69 n70 1)])] H23 fun r75 H76 =>
 rT r75 fun c77 =>
 uR c77 fun q78 c79 =>
 rC q78 fun c80 =>
 uC c80 fun v81 c82 =>
 dB v81 fun b83 =>
 uC c82 fun v84 c85 =>
 dB v84 fun b86 =>
 uC c85 fun v87 c88 =>
 dL 1 v87 fun x89 n90 =>
 uC c88 fun v91 c92 =>
 dL 1 v91 fun x93 n94 =>
 uC c92 fun v95 c96 =>
 dL 1 v95 fun x97 n98 =>
 uN c96 (uR c79 fun q99 c100 =>
 rS q99 fun v101 =>
 dI .i64 v101 fun i102 =>
 uE c100 (cl node_Split [(.agg [(.bool b30), (.bool b33), (.sl x36 n37 1), (.sl x40 n41 1), (.sl x44 n45 1)])] H76 fun r103 H104 =>
 rT r103 fun c105 =>
 uR c105 fun q106 c107 =>
 rC q106 fun c108 =>
 uC c108 fun v109 c110 =>
 dB v109 fun b111 =>
 uC c110 fun v112 c113 =>
 dB v112 fun b114 =>
 uC c113 fun v115 c116 =>
 dL 1 v115 fun x117 n118 =>
 uC c116 fun v119 c120 =>
 dL 1 v119 fun x121 n122 =>
 uC c120 fun v123 c124 =>
 dL 1 v123 fun x125 n126 =>
 uN c124 (uR c107 fun q127 c128 =>
 rS q127 fun v129 =>
 dS v129 fun s130 =>
 uR c128 fun q131 c132 =>
 rC q131 fun c133 =>
 uC c133 fun v134 c135 =>
 dB v134 fun b136 =>
 uC c135 fun v137 c138 =>
 dB v137 fun b139 =>
 uC c138 fun v140 c141 =>
 dL 1 v140 fun x142 n143 =>
 uC c141 fun v144 c145 =>
 dL 1 v144 fun x146 n147 =>
 uC c145 fun v148 c149 =>
 dL 1 v148 fun x150 n151 =>
 uN c149 (uR c132 fun q152 c153 =>
 rS q152 fun v154 =>
 dI .i64 v154 fun i155 =>
 uE c153 (cl node_Join [(.agg [(.bool b30), (.bool b33), (.sl x36 n37 1), (.sl x40 n41 1), (.sl x44 n45 1)]), (.g (.str (mkS []))), (.agg [(.bool b55), (.bool b58), (.sl x61 n62 1), (.sl x65 n66 1), (.sl x69 n70 1)])] H104 fun r156 H157 =>
 rT r156 fun c158 =>
 uR c158 fun q159 c160 =>
 rC q159 fun c161 =>
 uC c161 fun v162 c163 =>
 dB v162 fun b164 =>
 uC c163 fun v165 c166 =>
 dB v165 fun b167 =>
 uC c166 fun v168 c169 =>
 dL 1 v168 fun x170 n171 =>
 uC c169 fun v172 c173 =>
 dL 1 v172 fun x174 n175 =>
 uC c173 fun v176 c177 =>
 dL 1 v176 fun x178 n179 =>
 uN c177 (uR c160 fun q180 c181 =>
 rS q180 fun v182 =>
 dI .i64 v182 fun i183 =>
 uE c181 (bite (eqI i6 1)
 (bite (!b10)
  (bite (eqI i17 1)
   (bite b21
    (bite (eqI (nI n37) 3)
     (bite (strEq s49 (mkS [100]))
      (bite (eqI (nI n62) 2)
       (cl law0_Num [(.g (.int .i64 i74))] H157 fun r184 H185 =>
        rG r184 fun v186 =>
        dI .i64 v186 fun i187 =>
        bite (eqI i187 0)
        (cl law0_SamePage [(.agg [(.bool b83), (.bool b86), (.sl x89 n90 1), (.sl x93 n94 1), (.sl x97 n98 1)]), (.agg [(.bool b55), (.bool b58), (.sl x61 n62 1), (.sl x65 n66 1), (.sl x69 n70 1)])] H185 fun r188 H189 =>
         rG r188 fun v190 =>
         dB v190 fun b191 =>
         bite b191
         (cl law0_Num [(.g (.int .i64 i102))] H189 fun r192 H193 =>
          rG r192 fun v194 =>
          dI .i64 v194 fun i195 =>
          bite (eqI i195 0)
          (cl law0_Num [(.g (.int .i64 i155))] H193 fun r196 H197 =>
           rG r196 fun v198 =>
           dI .i64 v198 fun i199 =>
           bite (eqI i199 900)
           (cl law0_Num [(.g (.int .i64 i183))] H197 fun r200 H201 =>
            rG r200 fun v202 =>
            dI .i64 v202 fun i203 =>
            Q (.g (.bool (eqI i203 900))) H201)
           (Q (.g (.bool false)) H197))
          (Q (.g (.bool false)) H193))
         (Q (.g (.bool false)) H189))
        (Q (.g (.bool false)) H185))
       (Q (.g (.bool false)) H157))
      (Q (.g (.bool false)) H157))
     (Q (.g (.bool false)) H157))
    (Q (.g (.bool false)) H157))
   (Q (.g (.bool false)) H157))
  (Q (.g (.bool false)) H157))
 (Q (.g (.bool false)) H157)))))))))))))) := by kernel_rfl
theorem law9_awake_ok : Sound Go.Proofs.Try.prog 32 (law9_awake) := prog_ok.sound (cx := law9_awake.cx) rfl (EnvOK.cons ((node_Slot_ok).c ⟨_, Go.Proofs.Try.func25, by kernel_rfl, by kernel_rfl⟩) (EnvOK.cons ((node_Split_ok).c ⟨_, Go.Proofs.Try.func27, by kernel_rfl, by kernel_rfl⟩) (EnvOK.cons ((node_Join_ok).c ⟨_, Go.Proofs.Try.func29, by kernel_rfl, by kernel_rfl⟩) (EnvOK.cons ((law0_Num_ok).c ⟨_, Go.Proofs.Try.func18, by kernel_rfl, by kernel_rfl⟩) (EnvOK.cons ((law0_SamePage_ok).c ⟨_, Go.Proofs.Try.func19, by kernel_rfl, by kernel_rfl⟩) (EnvOK.nil _)))))) (noDyn_ok _) Go.Proofs.Try.func32 rfl

/-! 8: cryostat/cryostatlaw9.Nodes -/
def law9_Nodes.cx : Cx := ⟨tys, [], [], [], [(24, law0_LendTexts), (13, law0_CopyPage), (25, node_Slot), (26, ref9_Slot), (27, node_Split), (28, ref9_Split), (29, node_Join), (30, ref9_Join), (19, law0_SamePage), (18, law0_Num), (22, law0_SpoilPage), (31, law0_KeptTexts), (32, law9_awake)], noDyn, [.tmp 10]⟩
def law9_Nodes : Sm := fun xs H Q => ∃ k, callK (law9_Nodes.cx) Go.Proofs.Try.f8 k xs H Q
theorem law9_Nodes_eq (k : Nat) (z0 : Pl) (z0n : Nat) (z1 : ByteArray) (z2 : Bool) (z3 : Bool) (z4 : Pl) (z4n : Nat) (z5 : Pl) (z5n : Nat) (z6 : Pl) (z6n : Nat) (z7 : Bool) (z8 : Bool) (z9 : Pl) (z9n : Nat) (z10 : Pl) (z10n : Nat) (z11 : Pl) (z11n : Nat) (z12 : Bool) (z13 : Bool) (z14 : Pl) (z14n : Nat) (z15 : Pl) (z15n : Nat) (z16 : Pl) (z16n : Nat) (H : Hp) (Q : Post) : callK (law9_Nodes.cx) Go.Proofs.Try.f8 (k + 1) [.g (.sl z0 z0n 1), .g (.str z1), .agg [.bool z2, .bool z3, .sl z4 z4n 1, .sl z5 z5n 1, .sl z6 z6n 1], .agg [.bool z7, .bool z8, .sl z9 z9n 1, .sl z10 z10n 1, .sl z11 z11n 1], .agg [.bool z12, .bool z13, .sl z14 z14n 1, .sl z15 z15n 1, .sl z16 z16n 1]] H Q = (
 cl law0_LendTexts [(.g (.sl z0 z0n 1))] H fun r0 H1 =>
 rG r0 fun v2 =>
 dL 1 v2 fun x3 n4 =>
 cl law0_CopyPage [(.agg [(.bool z2), (.bool z3), (.sl z4 z4n 1), (.sl z5 z5n 1), (.sl z6 z6n 1)])] H1 fun r5 H6 =>
 rA r5 fun c7 =>
 uC c7 fun v8 c9 =>
 dB v8 fun b10 =>
 uC c9 fun v11 c12 =>
 dB v11 fun b13 =>
 uC c12 fun v14 c15 =>
 dL 1 v14 fun x16 n17 =>
 uC c15 fun v18 c19 =>
 dL 1 v18 fun x20 n21 =>
 uC c19 fun v22 c23 =>
 dL 1 v22 fun x24 n25 =>
 uN c23 (cl law0_CopyPage [(.agg [(.bool z7), (.bool z8), (.sl z9 z9n 1), (.sl z10 z10n 1), (.sl z11 z11n 1)])] H6 fun r26 H27 =>
 rA r26 fun c28 =>
 uC c28 fun v29 c30 =>
 dB v29 fun b31 =>
 uC c30 fun v32 c33 =>
 dB v32 fun b34 =>
 uC c33 fun v35 c36 =>
 dL 1 v35 fun x37 n38 =>
 uC c36 fun v39 c40 =>
 dL 1 v39 fun x41 n42 =>
 uC c40 fun v43 c44 =>
 dL 1 v43 fun x45 n46 =>
 uN c44 (cl law0_CopyPage [(.agg [(.bool z12), (.bool z13), (.sl z14 z14n 1), (.sl z15 z15n 1), (.sl z16 z16n 1)])] H27 fun r47 H48 =>
 rA r47 fun c49 =>
 uC c49 fun v50 c51 =>
 dB v50 fun b52 =>
 uC c51 fun v53 c54 =>
 dB v53 fun b55 =>
 uC c54 fun v56 c57 =>
 dL 1 v56 fun x58 n59 =>
 uC c57 fun v60 c61 =>
 dL 1 v60 fun x62 n63 =>
 uC c61 fun v64 c65 =>
 dL 1 v64 fun x66 n67 =>
 uN c65 (cl node_Slot [(.g (.sl x3 n4 1)), (.g (.str z1))] H48 fun r68 H69 =>
 rT r68 fun c70 =>
 uR c70 fun q71 c72 =>
 rS q71 fun v73 =>
 dI .i64 v73 fun i74 =>
 uR c72 fun q75 c76 =>
 rS q75 fun v77 =>
 dB v77 fun b78 =>
 uE c76 (cl ref9_Slot [(.g (.sl z0 z0n 1)), (.g (.str z1))] H69 fun r79 H80 =>
 rT r79 fun c81 =>
 uR c81 fun q82 c83 =>
 rS q82 fun v84 =>
 dI .i64 v84 fun i85 =>
 uR c83 fun q86 c87 =>
 rS q86 fun v88 =>
 dB v88 fun b89 =>
 uE c87 (cl node_Split [(.agg [(.bool b10), (.bool b13), (.sl x16 n17 1), (.sl x20 n21 1), (.sl x24 n25 1)])] H80 fun r90 H91 =>
 rT r90 fun c92 =>
 uR c92 fun q93 c94 =>
 rC q93 fun c95 =>
 uC c95 fun v96 c97 =>
 dB v96 fun b98 =>
 uC c97 fun v99 c100 =>
 dB v99 fun b101 =>
 uC c100 fun v102 c103 =>
 dL 1 v102 fun x104 n105 =>
 uC c103 fun v106 c107 =>
 dL 1 v106 fun x108 n109 =>
 uC c107 fun v110 c111 =>
 dL 1 v110 fun x112 n113 =>
 uN c111 (uR c94 fun q114 c115 =>
 rS q114 fun v116 =>
 dS v116 fun s117 =>
 uR c115 fun q118 c119 =>
 rC q118 fun c120 =>
 uC c120 fun v121 c122 =>
 dB v121 fun b123 =>
 uC c122 fun v124 c125 =>
 dB v124 fun b126 =>
 uC c125 fun v127 c128 =>
 dL 1 v127 fun x129 n130 =>
 uC c128 fun v131 c132 =>
 dL 1 v131 fun x133 n134 =>
 uC c132 fun v135 c136 =>
 dL 1 v135 fun x137 n138 =>
 uN c136 (uR c119 fun q139 c140 =>
 rS q139 fun v141 =>
 dI .i64 v141 fun i142 =>
 uE c140 (cl ref9_Split [(.agg [(.bool z2), (.bool z3), (.sl z4 z4n 1), (.sl z5 z5n 1), (.sl z6 z6n 1)])] H91 fun r143 H144 =>
 rT r143 fun c145 =>
 uR c145 fun q146 c147 =>
 rC q146 fun c148 =>
 uC c148 fun v149 c150 =>
 dB v149 fun b151 =>
 uC c150 fun v152 c153 =>
 dB v152 fun b154 =>
 uC c153 fun v155 c156 =>
 dL 1 v155 fun x157 n158 =>
 uC c156 fun v159 c160 =>
 dL 1 v159 fun x161 n162 =>
 uC c160 fun v163 c164 =>
 dL 1 v163 fun x165 n166 =>
 uN c164 (uR c147 fun q167 c168 =>
 rS q167 fun v169 =>
 dS v169 fun s170 =>
 uR c168 fun q171 c172 =>
 rC q171 fun c173 =>
 uC c173 fun v174 c175 =>
 dB v174 fun b176 =>
 uC c175 fun v177 c178 =>
 dB v177 fun b179 =>
 uC c178 fun v180 c181 =>
 dL 1 v180 fun x182 n183 =>
 uC c181 fun v184 c185 =>
 dL 1 v184 fun x186 n187 =>
 uC c185 fun v188 c189 =>
 dL 1 v188 fun x190 n191 =>
 uN c189 (uR c172 fun q192 c193 =>
 rS q192 fun v194 =>
 dI .i64 v194 fun i195 =>
 uE c193 (cl node_Join [(.agg [(.bool b31), (.bool b34), (.sl x37 n38 1), (.sl x41 n42 1), (.sl x45 n46 1)]), (.g (.str z1)), (.agg [(.bool b52), (.bool b55), (.sl x58 n59 1), (.sl x62 n63 1), (.sl x66 n67 1)])] H144 fun r196 H197 =>
 rT r196 fun c198 =>
 uR c198 fun q199 c200 =>
 rC q199 fun c201 =>
 uC c201 fun v202 c203 =>
 dB v202 fun b204 =>
 uC c203 fun v205 c206 =>
 dB v205 fun b207 =>
 uC c206 fun v208 c209 =>
 dL 1 v208 fun x210 n211 =>
 uC c209 fun v212 c213 =>
 dL 1 v212 fun x214 n215 =>
 uC c213 fun v216 c217 =>
 dL 1 v216 fun x218 n219 =>
 uN c217 (uR c200 fun q220 c221 =>
 rS q220 fun v222 =>
 dI .i64 v222 fun i223 =>
 uE c221 (cl ref9_Join [(.agg [(.bool z7), (.bool z8), (.sl z9 z9n 1), (.sl z10 z10n 1), (.sl z11 z11n 1)]), (.g (.str z1)), (.agg [(.bool z12), (.bool z13), (.sl z14 z14n 1), (.sl z15 z15n 1), (.sl z16 z16n 1)])] H197 fun r224 H225 =>
 rT r224 fun c226 =>
 uR c226 fun q227 c228 =>
 rC q227 fun c229 =>
 uC c229 fun v230 c231 =>
 dB v230 fun b232 =>
 uC c231 fun v233 c234 =>
 dB v233 fun b235 =>
 uC c234 fun v236 c237 =>
 dL 1 v236 fun x238 n239 =>
 uC c237 fun v240 c241 =>
 dL 1 v240 fun x242 n243 =>
 uC c241 fun v244 c245 =>
 dL 1 v244 fun x246 n247 =>
 uN c245 (uR c228 fun q248 c249 =>
 rS q248 fun v250 =>
 dI .i64 v250 fun i251 =>
 uE c249 (bite (!(eqI i74 i85))
 (Q (.g (.bool false)) H225)
 (bite (!(eqB b78 b89))
  (Q (.g (.bool false)) H225)
  (cl law0_SamePage [(.agg [(.bool b98), (.bool b101), (.sl x104 n105 1), (.sl x108 n109 1), (.sl x112 n113 1)]), (.agg [(.bool b151), (.bool b154), (.sl x157 n158 1), (.sl x161 n162 1), (.sl x165 n166 1)])] H225 fun r252 H253 =>
   rG r252 fun v254 =>
   dB v254 fun b255 =>
   bite (!b255)
   (Q (.g (.bool false)) H253)
   (bite (!(strEq s117 s170))
    (Q (.g (.bool false)) H253)
    (cl law0_SamePage [(.agg [(.bool b123), (.bool b126), (.sl x129 n130 1), (.sl x133 n134 1), (.sl x137 n138 1)]), (.agg [(.bool b176), (.bool b179), (.sl x182 n183 1), (.sl x186 n187 1), (.sl x190 n191 1)])] H253 fun r256 H257 =>
     rG r256 fun v258 =>
     dB v258 fun b259 =>
     bite (!b259)
     (Q (.g (.bool false)) H257)
     (cl law0_Num [(.g (.int .i64 i142))] H257 fun r260 H261 =>
      rG r260 fun v262 =>
      dI .i64 v262 fun i263 =>
      bite (!(eqI i263 i195))
      (Q (.g (.bool false)) H261)
      (cl law0_SamePage [(.agg [(.bool b204), (.bool b207), (.sl x210 n211 1), (.sl x214 n215 1), (.sl x218 n219 1)]), (.agg [(.bool b232), (.bool b235), (.sl x238 n239 1), (.sl x242 n243 1), (.sl x246 n247 1)])] H261 fun r264 H265 =>
       rG r264 fun v266 =>
       dB v266 fun b267 =>
       bite (!b267)
       (Q (.g (.bool false)) H265)
       (cl law0_Num [(.g (.int .i64 i223))] H265 fun r268 H269 =>
        rG r268 fun v270 =>
        dI .i64 v270 fun i271 =>
        bite (!(eqI i271 i251))
        (Q (.g (.bool false)) H269)
        (cl law0_SpoilPage [(.agg [(.bool b98), (.bool b101), (.sl x104 n105 1), (.sl x108 n109 1), (.sl x112 n113 1)])] H269 fun r272 H273 =>
         cl law0_SpoilPage [(.agg [(.bool b123), (.bool b126), (.sl x129 n130 1), (.sl x133 n134 1), (.sl x137 n138 1)])] H273 fun r274 H275 =>
         cl law0_SpoilPage [(.agg [(.bool b204), (.bool b207), (.sl x210 n211 1), (.sl x214 n215 1), (.sl x218 n219 1)])] H275 fun r276 H277 =>
         cl law0_KeptTexts [(.g (.sl x3 n4 1)), (.g (.sl z0 z0n 1))] H277 fun r278 H279 =>
         rG r278 fun v280 =>
         dB v280 fun b281 =>
         bite b281
         (cl law0_SamePage [(.agg [(.bool b10), (.bool b13), (.sl x16 n17 1), (.sl x20 n21 1), (.sl x24 n25 1)]), (.agg [(.bool z2), (.bool z3), (.sl z4 z4n 1), (.sl z5 z5n 1), (.sl z6 z6n 1)])] H279 fun r282 H283 =>
          rG r282 fun v284 =>
          dB v284 fun b285 =>
          bite b285
          (cl law0_SamePage [(.agg [(.bool b31), (.bool b34), (.sl x37 n38 1), (.sl x41 n42 1), (.sl x45 n46 1)]), (.agg [(.bool z7), (.bool z8), (.sl z9 z9n 1), (.sl z10 z10n 1), (.sl z11 z11n 1)])] H283 fun r286 H287 =>
           rG r286 fun v288 =>
           dB v288 fun b289 =>
           bite b289
           (cl law0_SamePage [(.agg [(.bool b52), (.bool b55), (.sl x58 n59 1), (.sl x62 n63 1), (.sl x66 n67 1)]), (.agg [(.bool z12), (.bool z13), (.sl z14 z14n 1), (.sl z15 z15n 1), (.sl z16 z16n 1)])] H287 fun r290 H291 =>
            rG r290 fun v292 =>
            dB v292 fun b293 =>
            bite b293
            (cl law9_awake [] H291 fun r294 H295 =>
             rG r294 fun v296 =>
             dB v296 fun b297 =>
             Q (.g (.bool b297)) H295)
            (Q (.g (.bool false)) H291))
           (Q (.g (.bool false)) H287))
          (Q (.g (.bool false)) H283))
         (Q (.g (.bool false)) H279))))))))))))))))))))))))) := by kernel_rfl
theorem law9_Nodes_ok : Sound Go.Proofs.Try.prog 8 (law9_Nodes) := prog_ok.sound (cx := law9_Nodes.cx) rfl (EnvOK.cons ((law0_LendTexts_ok).c ⟨_, Go.Proofs.Try.func24, by kernel_rfl, by kernel_rfl⟩) (EnvOK.cons ((law0_CopyPage_ok).c ⟨_, Go.Proofs.Try.func13, by kernel_rfl, by kernel_rfl⟩) (EnvOK.cons ((node_Slot_ok).c ⟨_, Go.Proofs.Try.func25, by kernel_rfl, by kernel_rfl⟩) (EnvOK.cons ((ref9_Slot_ok).c ⟨_, Go.Proofs.Try.func26, by kernel_rfl, by kernel_rfl⟩) (EnvOK.cons ((node_Split_ok).c ⟨_, Go.Proofs.Try.func27, by kernel_rfl, by kernel_rfl⟩) (EnvOK.cons ((ref9_Split_ok).c ⟨_, Go.Proofs.Try.func28, by kernel_rfl, by kernel_rfl⟩) (EnvOK.cons ((node_Join_ok).c ⟨_, Go.Proofs.Try.func29, by kernel_rfl, by kernel_rfl⟩) (EnvOK.cons ((ref9_Join_ok).c ⟨_, Go.Proofs.Try.func30, by kernel_rfl, by kernel_rfl⟩) (EnvOK.cons ((law0_SamePage_ok).c ⟨_, Go.Proofs.Try.func19, by kernel_rfl, by kernel_rfl⟩) (EnvOK.cons ((law0_Num_ok).c ⟨_, Go.Proofs.Try.func18, by kernel_rfl, by kernel_rfl⟩) (EnvOK.cons ((law0_SpoilPage_ok).c ⟨_, Go.Proofs.Try.func22, by kernel_rfl, by kernel_rfl⟩) (EnvOK.cons ((law0_KeptTexts_ok).c ⟨_, Go.Proofs.Try.func31, by kernel_rfl, by kernel_rfl⟩) (EnvOK.cons ((law9_awake_ok).c ⟨_, Go.Proofs.Try.func32, by kernel_rfl, by kernel_rfl⟩) (EnvOK.nil _)))))))))))))) (noDyn_ok _) Go.Proofs.Try.func8 rfl

/-! 9: cryostat/cryostatlaw9.NodeBack -/
def law9_NodeBack.cx : Cx := ⟨tys, [], [], [(11, [1, 3, 4, 5, 7, 8, 9])], [(32, law9_awake), (27, node_Split), (18, law0_Num), (19, law0_SamePage), (33, law0_SameTexts), (34, law0_SameInts), (21, ref1_PageMay)], noDyn, [.tmp 2]⟩
def law9_NodeBack : Sm := fun xs H Q => ∃ k, callK (law9_NodeBack.cx) Go.Proofs.Try.f9 k xs H Q
def law9_NodeBack.l11 (k : Nat) (bx0 : Bool) (bx1 : Bool) (xx2 : Pl) (nx3 : Nat) (xx4 : Pl) (nx5 : Nat) (xx6 : Pl) (nx7 : Nat) (bx8 : Bool) (bx9 : Bool) (xx10 : Pl) (nx11 : Nat) (xx12 : Pl) (nx13 : Nat) (xx14 : Pl) (nx15 : Nat) (sx16 : ByteArray) (bx17 : Bool) (bx18 : Bool) (xx19 : Pl) (nx20 : Nat) (xx21 : Pl) (nx22 : Nat) (xx23 : Pl) (nx24 : Nat) (xx25 : Pl) (nx26 : Nat) (ax27 : Pl) (nx28 : Nat) (ax29 : Pl) (nx30 : Nat) (H : Hp) (Q : Post) : Prop := loopK (law9_NodeBack.cx) Go.Proofs.Try.f9 11 k (.bad :: (.bx [(.bool bx0), (.bool bx1), (.sl xx2 nx3 1), (.sl xx4 nx5 1), (.sl xx6 nx7 1)]) :: .bad :: (.bx [(.bool bx8), (.bool bx9), (.sl xx10 nx11 1), (.sl xx12 nx13 1), (.sl xx14 nx15 1)]) :: (.g (.str sx16)) :: (.bx [(.bool bx17), (.bool bx18), (.sl xx19 nx20 1), (.sl xx21 nx22 1), (.sl xx23 nx24 1)]) :: .bad :: (.g (.sl xx25 nx26 1)) :: (.g (.sl ax27 nx28 1)) :: (.g (.sl ax29 nx30 1)) :: B 104 ([])) H Q
theorem law9_NodeBack_eq (k : Nat) (z0 : Bool) (z1 : Bool) (z2 : Pl) (z2n : Nat) (z3 : Pl) (z3n : Nat) (z4 : Pl) (z4n : Nat) (H : Hp) (Q : Post) : callK (law9_NodeBack.cx) Go.Proofs.Try.f9 (k + 1) [.agg [.bool z0, .bool z1, .sl z2 z2n 1, .sl z3 z3n 1, .sl z4 z4n 1]] H Q = (
 cl law9_awake [] H fun r0 H1 =>
 rG r0 fun v2 =>
 dB v2 fun b3 =>
 bite (!b3)
 (Q (.g (.bool false)) H1)
 (cl node_Split [(.agg [(.bool z0), (.bool z1), (.sl z2 z2n 1), (.sl z3 z3n 1), (.sl z4 z4n 1)])] H1 fun r4 H5 =>
  rT r4 fun c6 =>
  uR c6 fun q7 c8 =>
  rC q7 fun c9 =>
  uC c9 fun v10 c11 =>
  dB v10 fun b12 =>
  uC c11 fun v13 c14 =>
  dB v13 fun b15 =>
  uC c14 fun v16 c17 =>
  dL 1 v16 fun x18 n19 =>
  uC c17 fun v20 c21 =>
  dL 1 v20 fun x22 n23 =>
  uC c21 fun v24 c25 =>
  dL 1 v24 fun x26 n27 =>
  uN c25 (uR c8 fun q28 c29 =>
  rS q28 fun v30 =>
  dS v30 fun s31 =>
  uR c29 fun q32 c33 =>
  rC q32 fun c34 =>
  uC c34 fun v35 c36 =>
  dB v35 fun b37 =>
  uC c36 fun v38 c39 =>
  dB v38 fun b40 =>
  uC c39 fun v41 c42 =>
  dL 1 v41 fun x43 n44 =>
  uC c42 fun v45 c46 =>
  dL 1 v45 fun x47 n48 =>
  uC c46 fun v49 c50 =>
  dL 1 v49 fun x51 n52 =>
  uN c50 (uR c33 fun q53 c54 =>
  rS q53 fun v55 =>
  dI .i64 v55 fun i56 =>
  uE c54 (cl law0_Num [(.g (.int .i64 i56))] H5 fun r57 H58 =>
  rG r57 fun v59 =>
  dI .i64 v59 fun i60 =>
  bite (!(eqI i60 0))
  (cl law0_SamePage [(.agg [(.bool b12), (.bool b15), (.sl x18 n19 1), (.sl x22 n23 1), (.sl x26 n27 1)]), (.agg [(.bool false), (.bool false), (.sl none 0 1), (.sl none 0 1), (.sl none 0 1)])] H58 fun r61 H62 =>
   rG r61 fun v63 =>
   dB v63 fun b64 =>
   bite b64
   (bite (strEq s31 (mkS []))
    (cl law0_SamePage [(.agg [(.bool b37), (.bool b40), (.sl x43 n44 1), (.sl x47 n48 1), (.sl x51 n52 1)]), (.agg [(.bool false), (.bool false), (.sl none 0 1), (.sl none 0 1), (.sl none 0 1)])] H62 fun r65 H66 =>
     rG r65 fun v67 =>
     dB v67 fun b68 =>
     Q (.g (.bool b68)) H66)
    (Q (.g (.bool false)) H62))
   (Q (.g (.bool false)) H62))
  (chk true (rdN H58 x18 (n19 * 1) fun c69 =>
   chk true (ap H58 9 1 16 none 0 c69 n19 fun x70 n71 H72 =>
   bite (!z1)
   (chk true (ap H72 9 1 16 x70 n71 [(.str s31)] 1 fun x73 n74 H75 =>
    law9_NodeBack.l11 k z0 z1 z2 z2n z3 z3n z4 z4n b12 b15 x18 n19 x22 n23 x26 n27 s31 b37 b40 x43 n44 x47 n48 x51 n52 x73 n74 none 0 none 0 H75 Q))
   (law9_NodeBack.l11 k z0 z1 z2 z2n z3 z3n z4 z4n b12 b15 x18 n19 x22 n23 x26 n27 s31 b37 b40 x43 n44 x47 n48 x51 n52 x70 n71 none 0 none 0 H72 Q))))))))) := by kernel_rfl
theorem law9_NodeBack.l11_eq (k : Nat) (bx0 : Bool) (bx1 : Bool) (xx2 : Pl) (nx3 : Nat) (xx4 : Pl) (nx5 : Nat) (xx6 : Pl) (nx7 : Nat) (bx8 : Bool) (bx9 : Bool) (xx10 : Pl) (nx11 : Nat) (xx12 : Pl) (nx13 : Nat) (xx14 : Pl) (nx15 : Nat) (sx16 : ByteArray) (bx17 : Bool) (bx18 : Bool) (xx19 : Pl) (nx20 : Nat) (xx21 : Pl) (nx22 : Nat) (xx23 : Pl) (nx24 : Nat) (xx25 : Pl) (nx26 : Nat) (ax27 : Pl) (nx28 : Nat) (ax29 : Pl) (nx30 : Nat) (H : Hp) (Q : Post) : law9_NodeBack.l11 (k + 1) bx0 bx1 xx2 nx3 xx4 nx5 xx6 nx7 bx8 bx9 xx10 nx11 xx12 nx13 xx14 nx15 sx16 bx17 bx18 xx19 nx20 xx21 nx22 xx23 nx24 xx25 nx26 ax27 nx28 ax29 nx30 H Q = (
 chk true (rdN H xx19 (nx20 * 1) fun c0 =>
 chk true (ap H 9 1 16 xx25 nx26 c0 nx20 fun x1 n2 H3 =>
 chk true (rdN H3 xx12 (nx13 * 1) fun c4 =>
 chk true (ap H3 9 1 16 ax27 nx28 c4 nx13 fun x5 n6 H7 =>
 chk true (rdN H7 xx21 (nx22 * 1) fun c8 =>
 chk true (ap H7 9 1 16 x5 n6 c8 nx22 fun x9 n10 H11 =>
 chk true (rdN H11 xx14 (nx15 * 1) fun c12 =>
 chk true (ap H11 3 1 8 ax29 nx30 c12 nx15 fun x13 n14 H15 =>
 chk true (rdN H15 xx23 (nx24 * 1) fun c16 =>
 chk true (ap H15 3 1 8 x13 n14 c16 nx24 fun x17 n18 H19 =>
 cl law0_SameTexts [(.g (.sl x1 n2 1)), (.g (.sl xx2 nx3 1))] H19 fun r20 H21 =>
 rG r20 fun v22 =>
 dB v22 fun b23 =>
 bite b23
 (cl law0_SameTexts [(.g (.sl x9 n10 1)), (.g (.sl xx4 nx5 1))] H21 fun r24 H25 =>
  rG r24 fun v26 =>
  dB v26 fun b27 =>
  bite b27
  (cl law0_SameInts [(.g (.sl x17 n18 1)), (.g (.sl xx6 nx7 1))] H25 fun r28 H29 =>
   rG r28 fun v30 =>
   dB v30 fun b31 =>
   bite b31
   (bite (leI 2 (nI nx11))
    (bite (leI 2 (nI nx20))
     (cl ref1_PageMay [(.agg [(.bool bx8), (.bool bx9), (.sl xx10 nx11 1), (.sl xx12 nx13 1), (.sl xx14 nx15 1)])] H29 fun r32 H33 =>
      rG r32 fun v34 =>
      dB v34 fun b35 =>
      bite b35
      (cl ref1_PageMay [(.agg [(.bool bx17), (.bool bx18), (.sl xx19 nx20 1), (.sl xx21 nx22 1), (.sl xx23 nx24 1)])] H33 fun r36 H37 =>
       rG r36 fun v38 =>
       dB v38 fun b39 =>
       bite b39
       (bite (!bx1)
        (Q (.g (.bool true)) H37)
        (chk true (chk ((leI 0 0) && (ltI 0 (nI nx20))) (pS xx19 fun n40 n41 =>
         rd H37 n40 (n41 + ((tN 0) * 1)) fun v42 =>
         dS v42 fun s43 =>
         Q (.g (.bool (strEq sx16 s43))) H37))))
       (Q (.g (.bool false)) H37))
      (Q (.g (.bool false)) H33))
     (Q (.g (.bool false)) H29))
    (Q (.g (.bool false)) H29))
   (Q (.g (.bool false)) H29))
  (Q (.g (.bool false)) H25))
 (Q (.g (.bool false)) H21)))))))))))) := by kernel_rfl
theorem law9_NodeBack_ok : Sound Go.Proofs.Try.prog 9 (law9_NodeBack) := prog_ok.sound (cx := law9_NodeBack.cx) rfl (EnvOK.cons ((law9_awake_ok).c ⟨_, Go.Proofs.Try.func32, by kernel_rfl, by kernel_rfl⟩) (EnvOK.cons ((node_Split_ok).c ⟨_, Go.Proofs.Try.func27, by kernel_rfl, by kernel_rfl⟩) (EnvOK.cons ((law0_Num_ok).c ⟨_, Go.Proofs.Try.func18, by kernel_rfl, by kernel_rfl⟩) (EnvOK.cons ((law0_SamePage_ok).c ⟨_, Go.Proofs.Try.func19, by kernel_rfl, by kernel_rfl⟩) (EnvOK.cons ((law0_SameTexts_ok).c ⟨_, Go.Proofs.Try.func33, by kernel_rfl, by kernel_rfl⟩) (EnvOK.cons ((law0_SameInts_ok).c ⟨_, Go.Proofs.Try.func34, by kernel_rfl, by kernel_rfl⟩) (EnvOK.cons ((ref1_PageMay_ok).c ⟨_, Go.Proofs.Try.func21, by kernel_rfl, by kernel_rfl⟩) (EnvOK.nil _)))))))) (noDyn_ok _) Go.Proofs.Try.func9 rfl


end Go.Am
